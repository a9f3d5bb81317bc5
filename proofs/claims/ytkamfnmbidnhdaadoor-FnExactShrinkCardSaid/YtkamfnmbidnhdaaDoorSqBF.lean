/- Classes, of both; FnExactClasses, the law's walk. No condition. -/
import Derived.Test.YtkamfnmbidnhdaaDoorSqAY
import Derived.Test.YtkamfnmbidnhdaaDoorSqBC
import Derived.Test.YtkamfnmbidnhdaaDoorSyDB
import Derived.Test.YtkamfnmbidnhdaaDoorSqAR
import Derived.Test.YtkamfnmbidnhdaaDoorSqAE
import Derived.Test.YtkamfnmbidnhdaaDoorSqAI
import Derived.Test.YtkamfnmbidnhdaaDoorSqAQ
import Derived.Test.YtkamfnmbidnhdaaDoorChecked
import Derived.KernelRfl
import Derived.Test.YtkamfnmbidnhdaaDoorRows
import Derived.Test.YtkamfnmbidnhdaaDoorCards
import Derived.Test.YtkamfnmbidnhdaaDoorTie
import Derived.WalkKit
import Derived.ProofKit
import Derived.LaidMore
import Derived.OpenShut
import Derived.ShutString
import Derived.ChangeOld
import Derived.Below
import Derived.ChangeVars
import Derived.Stop.LaidErr
import Derived.SevenTiedAt
set_option linter.unusedVariables false
set_option linter.unusedSimpArgs false
set_option linter.unusedSectionVars false
namespace Go.Proofs.YtkamfnmbidnhdaaDoor
open Go.Sy
set_option maxRecDepth 100000
set_option maxHeartbeats 4000000
set_option linter.unusedVariables false
set_option linter.unusedSimpArgs false
/-- What Classes answers. -/
def clsG (v : V) (ts : List (List Pr)) : List Nat := if GOk v ts then cls (ts.map srt) else []
theorem gok_cl {v : V} {ts : List (List Pr)} (h : GOk v ts) (hr : RngG v ts) : ClOk ts := ⟨Nat.le_trans h.1 (by decide), h.2.2, (gok_fit h hr).2.1⟩
theorem clsG_len (v : V) (ts : List (List Pr)) : (clsG v ts).length ≤ 200 := by
  unfold clsG
  split
  · rename_i hg
    rw [cls_len _ (allin_srt (gok_in hg).1), List.length_map]; exact hg.1
  · simp
theorem specClasses (v : V) (ts : List (List Pr)) (A : Option Addr) (n c : Nat) (h : Hp) (hP : Tabs h A n ts) (hr : RngG v ts) :
    TriS Tryd.prog 39 [.ag (gsv v A n c)] [] h (fun y : Option Addr × Nat => .v (.slice y.1 (clsG v ts).length y.2)) (fun _ => []) (fun y h' => Own h' y.1 (clsG v ts).length y.2 3 1 ((cI (clsG v ts)).flatMap Ic) ∧ Le h h' ∧ Off h y.1) := by
  refine enterS Tryd.func39 rfl (n := 9) rfl rfl (fun k N => ?_)
  by_cases hg : GOk v ts
  · have e1 : clsG v ts = cls (ts.map srt) := if_pos hg
    have hCl := gok_cl hg hr
    have e2 : (cls (ts.map srt)).length = ts.length := by rw [cls_len _ hCl.inSrt, List.length_map]
    rw [e1, e2]
    repeat' (first | (refine r_pure hT rfl rfl rfl rfl ?_) | (refine r_new hT rfl rfl rfl rfl ?_) | (refine r_write hT rfl rfl rfl ?_) | (refine r_nil ?_) | (refine q_nil ?_) | (refine p_call (specOk v ts A n c h hP) rfl rfl rfl rfl rfl (hC _ rfl) rfl rfl rfl ?_) | (refine c_not rfl (fun hx => absurd hg hx) (fun _ => ?_)) | (refine r_call (classes86 ts A n c _ hP hCl) rfl rfl rfl rfl rfl (hC _ rfl) rfl rfl (fun y u hy => ?_)) | (refine r_arith rfl rfl rfl rfl rfl rfl rfl (by omega) ?_) | (with_reducible refine r_seq ?_) | (with_reducible refine x_then ?_) | (with_reducible refine r_region ?_) | (refine r_draw hM (by kernel_rfl) ?_) | (with_reducible refine r_skip ?_) | (with_reducible refine r_ret ?_) | (with_reducible refine x_then_ret ?_) | (with_reducible refine r_block ?_) | (with_reducible refine x_block ?_) | (with_reducible refine x_block_ret ?_) | (with_reducible refine r_exit ?_) | (with_reducible refine x_then_exit ?_) | (with_reducible refine x_block_here ?_) | (refine x_block_past rfl ?_) | (refine c_yes rfl (by omega) ?_) | (refine c_no rfl (by omega) ?_) | (refine c_no rfl (fun h => h rfl) ?_) | (refine r_cond_false rfl ?_) | (refine r_cond_true rfl ?_) | (refine r_cond_dec rfl (fun _ => ?_) (fun _ => ?_)) | (refine r_cond_true rfl ?_) | (refine r_cond_false rfl ?_) | (refine c_not rfl (fun _ => ?_) (fun _ => ?_)) | (refine r_off rfl rfl rfl ?_) | (refine q_guard rfl rfl (fun _ => ?_) (fun _ => ?_)) | (refine q_guardn rfl rfl (fun _ => ?_) (fun _ => ?_)))
    exact r_fin hT rfl y rfl rfl rfl trivial rfl hy
  · have e1 : clsG v ts = [] := if_neg hg
    rw [e1]
    repeat' (first | (refine r_pure hT rfl rfl rfl rfl ?_) | (refine r_new hT rfl rfl rfl rfl ?_) | (refine r_write hT rfl rfl rfl ?_) | (refine r_nil ?_) | (refine q_nil ?_) | (refine p_call (specOk v ts A n c h hP) rfl rfl rfl rfl rfl (hC _ rfl) rfl rfl rfl ?_) | (refine c_not rfl (fun _ => ?_) (fun hx => absurd hx hg)) | (refine r_arith rfl rfl rfl rfl rfl rfl rfl (by omega) ?_) | (with_reducible refine r_seq ?_) | (with_reducible refine x_then ?_) | (with_reducible refine r_region ?_) | (refine r_draw hM (by kernel_rfl) ?_) | (with_reducible refine r_skip ?_) | (with_reducible refine r_ret ?_) | (with_reducible refine x_then_ret ?_) | (with_reducible refine r_block ?_) | (with_reducible refine x_block ?_) | (with_reducible refine x_block_ret ?_) | (with_reducible refine r_exit ?_) | (with_reducible refine x_then_exit ?_) | (with_reducible refine x_block_here ?_) | (refine x_block_past rfl ?_) | (refine c_yes rfl (by omega) ?_) | (refine c_no rfl (by omega) ?_) | (refine c_no rfl (fun h => h rfl) ?_) | (refine r_cond_false rfl ?_) | (refine r_cond_true rfl ?_) | (refine r_cond_dec rfl (fun _ => ?_) (fun _ => ?_)) | (refine r_cond_true rfl ?_) | (refine r_cond_false rfl ?_) | (refine c_not rfl (fun _ => ?_) (fun _ => ?_)) | (refine r_off rfl rfl rfl ?_) | (refine q_guard rfl rfl (fun _ => ?_) (fun _ => ?_)) | (refine q_guardn rfl rfl (fun _ => ?_) (fun _ => ?_)))
    exact r_fin hT rfl ((none, 0) : Option Addr × Nat) rfl rfl rfl trivial rfl ⟨own_nil, Le.refl h, off_nil⟩
theorem implClasses (v : V) (ts : List (List Pr)) (A : Option Addr) (n c : Nat) (h : Hp) (hP : Tabs h A n ts) (hr : RngG v ts) (ht : Tab10 h) :
    TriS Tryd.prog 40 [.ag (gsv v A n c)] [] h (fun y : Option Addr × Nat => .v (.slice y.1 (clsG v ts).length y.2)) (fun _ => []) (fun y h' => Own h' y.1 (clsG v ts).length y.2 3 1 ((cI (clsG v ts)).flatMap Ic) ∧ Le h h' ∧ Off h y.1) := by
  refine enterS Tryd.func40 rfl (n := 9) rfl rfl (fun k N => ?_)
  by_cases hg : GOk v ts
  · have e1 : clsG v ts = cls (ts.map srt) := if_pos hg
    have hCl := gok_cl hg hr
    have e2 : (cls (ts.map srt)).length = ts.length := by rw [cls_len _ hCl.inSrt, List.length_map]
    rw [e1, e2]
    repeat' (first | (refine r_pure hT rfl rfl rfl rfl ?_) | (refine r_new hT rfl rfl rfl rfl ?_) | (refine r_write hT rfl rfl rfl ?_) | (refine r_nil ?_) | (refine q_nil ?_) | ((refine r_call (implOk v ts A n c _ hP) rfl rfl rfl rfl rfl (hC _ rfl) rfl rfl (fun y u1 hy => ?_) ; obtain ⟨hy1, hle1⟩ := hy ; subst hy1)) | (refine c_not rfl (fun hx => absurd hg hx) (fun _ => ?_)) | (refine r_call (classes76 ts A n c _ (hP.le hle1) hCl (ht.le hle1)) rfl rfl rfl rfl rfl (hC _ rfl) rfl rfl (fun y u hy => ?_)) | (refine r_arith rfl rfl rfl rfl rfl rfl rfl (by omega) ?_) | (with_reducible refine r_seq ?_) | (with_reducible refine x_then ?_) | (with_reducible refine r_region ?_) | (refine r_draw hM (by kernel_rfl) ?_) | (with_reducible refine r_skip ?_) | (with_reducible refine r_ret ?_) | (with_reducible refine x_then_ret ?_) | (with_reducible refine r_block ?_) | (with_reducible refine x_block ?_) | (with_reducible refine x_block_ret ?_) | (with_reducible refine r_exit ?_) | (with_reducible refine x_then_exit ?_) | (with_reducible refine x_block_here ?_) | (refine x_block_past rfl ?_) | (refine c_yes rfl (by omega) ?_) | (refine c_no rfl (by omega) ?_) | (refine c_no rfl (fun h => h rfl) ?_) | (refine r_cond_false rfl ?_) | (refine r_cond_true rfl ?_) | (refine r_cond_dec rfl (fun _ => ?_) (fun _ => ?_)) | (refine r_cond_true rfl ?_) | (refine r_cond_false rfl ?_) | (refine c_not rfl (fun _ => ?_) (fun _ => ?_)) | (refine r_off rfl rfl rfl ?_) | (refine q_guard rfl rfl (fun _ => ?_) (fun _ => ?_)) | (refine q_guardn rfl rfl (fun _ => ?_) (fun _ => ?_)))
    obtain ⟨h1, h2, h3⟩ := hy
    exact r_fin hT rfl y rfl rfl rfl trivial rfl ⟨h1, hle1.trans h2, fun b hb => none_of hle1 (h3 b hb)⟩
  · have e1 : clsG v ts = [] := if_neg hg
    rw [e1]
    repeat' (first | (refine r_pure hT rfl rfl rfl rfl ?_) | (refine r_new hT rfl rfl rfl rfl ?_) | (refine r_write hT rfl rfl rfl ?_) | (refine r_nil ?_) | (refine q_nil ?_) | ((refine r_call (implOk v ts A n c _ hP) rfl rfl rfl rfl rfl (hC _ rfl) rfl rfl (fun y u1 hy => ?_) ; obtain ⟨hy1, hle1⟩ := hy ; subst hy1)) | (refine c_not rfl (fun _ => ?_) (fun hx => absurd hx hg)) | (refine r_arith rfl rfl rfl rfl rfl rfl rfl (by omega) ?_) | (with_reducible refine r_seq ?_) | (with_reducible refine x_then ?_) | (with_reducible refine r_region ?_) | (refine r_draw hM (by kernel_rfl) ?_) | (with_reducible refine r_skip ?_) | (with_reducible refine r_ret ?_) | (with_reducible refine x_then_ret ?_) | (with_reducible refine r_block ?_) | (with_reducible refine x_block ?_) | (with_reducible refine x_block_ret ?_) | (with_reducible refine r_exit ?_) | (with_reducible refine x_then_exit ?_) | (with_reducible refine x_block_here ?_) | (refine x_block_past rfl ?_) | (refine c_yes rfl (by omega) ?_) | (refine c_no rfl (by omega) ?_) | (refine c_no rfl (fun h => h rfl) ?_) | (refine r_cond_false rfl ?_) | (refine r_cond_true rfl ?_) | (refine r_cond_dec rfl (fun _ => ?_) (fun _ => ?_)) | (refine r_cond_true rfl ?_) | (refine r_cond_false rfl ?_) | (refine c_not rfl (fun _ => ?_) (fun _ => ?_)) | (refine r_off rfl rfl rfl ?_) | (refine q_guard rfl rfl (fun _ => ?_) (fun _ => ?_)) | (refine q_guardn rfl rfl (fun _ => ?_) (fun _ => ?_)))
    exact r_fin hT rfl ((none, 0) : Option Addr × Nat) rfl rfl rfl trivial rfl ⟨own_nil, hle1, off_nil⟩
theorem own_rows {w u u' : Hp} {A B : Option Addr} {n c m d e sz : Nat} {cs : List Value} {gs : List Hd} {ss : List (List Pr)} (hO : Own u A n c e sz cs) (hB : OT w 59 61 B m d gs ss) (hof : Off w A) (hu : ∀ b, (∀ y ∈ gs, blk y.A ≠ some b) → u' b = u b) : Own u' A n c e sz cs :=
  hO.le fun b o hb ho => by
    rw [hu b (fun y hy e => hB.rows.live hy e (hof b hb))]
    exact ho
theorem lawClasses (v : V) (ts : List (List Pr)) (A : Option Addr) (n c : Nat) (h : Hp) (hP : Tabs h A n ts) (hv : v.okS) (hok : okTs ts) (hr : RngG v ts) (ht10 : Tab10 h) :
    TriS Tryd.prog 9 [.ag (gsv v A n c)] [] h (fun y : Bool => .v (.bool y)) (fun _ => []) (fun y h' => y = true ∧ Le h h') := by
  refine enterS Tryd.func9 rfl (n := 69) rfl rfl (fun k N => ?_)
  repeat' (first | (refine r_pure hT rfl rfl rfl rfl ?_) | (refine r_new hT rfl rfl rfl rfl ?_) | (refine r_write hT rfl rfl rfl ?_) | (refine r_nil ?_) | (refine q_nil ?_) | (refine p_call (szGraph v ts A n c 1048576 _ hP hv hok (by omega) (by omega)) rfl rfl rfl rfl rfl (hC _ rfl) rfl rfl rfl ?_) | (refine r_cond_dec rfl (fun hz => ?_) (fun hz => ?_)) | (refine r_arith rfl rfl rfl rfl rfl rfl rfl (by omega) ?_) | (with_reducible refine r_seq ?_) | (with_reducible refine x_then ?_) | (with_reducible refine r_region ?_) | (refine r_draw hM (by kernel_rfl) ?_) | (with_reducible refine r_skip ?_) | (with_reducible refine r_ret ?_) | (with_reducible refine x_then_ret ?_) | (with_reducible refine r_block ?_) | (with_reducible refine x_block ?_) | (with_reducible refine x_block_ret ?_) | (with_reducible refine r_exit ?_) | (with_reducible refine x_then_exit ?_) | (with_reducible refine x_block_here ?_) | (refine x_block_past rfl ?_) | (refine c_yes rfl (by omega) ?_) | (refine c_no rfl (by omega) ?_) | (refine c_no rfl (fun h => h rfl) ?_) | (refine r_cond_false rfl ?_) | (refine r_cond_true rfl ?_) | (refine r_cond_dec rfl (fun _ => ?_) (fun _ => ?_)) | (refine r_cond_true rfl ?_) | (refine r_cond_false rfl ?_) | (refine c_not rfl (fun _ => ?_) (fun _ => ?_)) | (refine r_off rfl rfl rfl ?_) | (refine q_guard rfl rfl (fun _ => ?_) (fun _ => ?_)) | (refine q_guardn rfl rfl (fun _ => ?_) (fun _ => ?_)))
  · exact r_fin hT rfl true rfl rfl rfl trivial rfl ⟨rfl, Le.refl _⟩
  obtain ⟨l1, l2⟩ := szG_len (by omega) (Int.not_lt.1 hz)
  have l1' : ts.length ≤ 1048576 := by omega
  have l2' : ∀ t ∈ ts, t.length ≤ 1048576 := fun t ht => by have := l2 t ht; omega
  have hcn := cnt_le ts 1048576 l2'
  have hcn2 : ts.length * 1048576 ≤ 1048576 * 1048576 := Nat.mul_le_mul_right _ l1'
  have hcl := clsG_len v ts
  have hcI : (cI (clsG v ts)).length = (clsG v ts).length := cI_len _
  repeat' (first | (refine r_pure hT rfl rfl rfl rfl ?_) | (refine r_new hT rfl rfl rfl rfl ?_) | (refine r_write hT rfl rfl rfl ?_) | (refine r_nil ?_) | (refine q_nil ?_) | (refine r_call (toGraph v ts A n c _ hP l1' l2') rfl rfl rfl rfl rfl (hC _ rfl) rfl rfl (fun y1 u1 hy1 => ?_)) | (refine r_arith rfl rfl rfl rfl rfl rfl rfl (by omega) ?_) | (with_reducible refine r_seq ?_) | (with_reducible refine x_then ?_) | (with_reducible refine r_region ?_) | (refine r_draw hM (by kernel_rfl) ?_) | (with_reducible refine r_skip ?_) | (with_reducible refine r_ret ?_) | (with_reducible refine x_then_ret ?_) | (with_reducible refine r_block ?_) | (with_reducible refine x_block ?_) | (with_reducible refine x_block_ret ?_) | (with_reducible refine r_exit ?_) | (with_reducible refine x_then_exit ?_) | (with_reducible refine x_block_here ?_) | (refine x_block_past rfl ?_) | (refine c_yes rfl (by omega) ?_) | (refine c_no rfl (by omega) ?_) | (refine c_no rfl (fun h => h rfl) ?_) | (refine r_cond_false rfl ?_) | (refine r_cond_true rfl ?_) | (refine r_cond_dec rfl (fun _ => ?_) (fun _ => ?_)) | (refine r_cond_true rfl ?_) | (refine r_cond_false rfl ?_) | (refine c_not rfl (fun _ => ?_) (fun _ => ?_)) | (refine r_off rfl rfl rfl ?_) | (refine q_guard rfl rfl (fun _ => ?_) (fun _ => ?_)) | (refine q_guardn rfl rfl (fun _ => ?_) (fun _ => ?_)))
  repeat' (first | (refine r_pure hT rfl rfl rfl rfl ?_) | (refine r_new hT rfl rfl rfl rfl ?_) | (refine r_write hT rfl rfl rfl ?_) | (refine r_nil ?_) | (refine q_nil ?_) | (refine r_call (specClasses v ts y1.1.1 ts.length y1.1.2 _ hy1.1.tabs hr) rfl rfl rfl rfl rfl (hC _ rfl) rfl rfl (fun y2 u2 hy2 => ?_)) | (refine r_arith rfl rfl rfl rfl rfl rfl rfl (by omega) ?_) | (with_reducible refine r_seq ?_) | (with_reducible refine x_then ?_) | (with_reducible refine r_region ?_) | (refine r_draw hM (by kernel_rfl) ?_) | (with_reducible refine r_skip ?_) | (with_reducible refine r_ret ?_) | (with_reducible refine x_then_ret ?_) | (with_reducible refine r_block ?_) | (with_reducible refine x_block ?_) | (with_reducible refine x_block_ret ?_) | (with_reducible refine r_exit ?_) | (with_reducible refine x_then_exit ?_) | (with_reducible refine x_block_here ?_) | (refine x_block_past rfl ?_) | (refine c_yes rfl (by omega) ?_) | (refine c_no rfl (by omega) ?_) | (refine c_no rfl (fun h => h rfl) ?_) | (refine r_cond_false rfl ?_) | (refine r_cond_true rfl ?_) | (refine r_cond_dec rfl (fun _ => ?_) (fun _ => ?_)) | (refine r_cond_true rfl ?_) | (refine r_cond_false rfl ?_) | (refine c_not rfl (fun _ => ?_) (fun _ => ?_)) | (refine r_off rfl rfl rfl ?_) | (refine q_guard rfl rfl (fun _ => ?_) (fun _ => ?_)) | (refine q_guardn rfl rfl (fun _ => ?_) (fun _ => ?_)))
  have lh2 : Le h u2 := hy1.2.1.trans hy2.2.1
  repeat' (first | (refine r_pure hT rfl rfl rfl rfl ?_) | (refine r_new hT rfl rfl rfl rfl ?_) | (refine r_write hT rfl rfl rfl ?_) | (refine r_nil ?_) | (refine q_nil ?_) | (refine r_call (toGraph v ts A n c _ (hP.le lh2) l1' l2') rfl rfl rfl rfl rfl (hC _ rfl) rfl rfl (fun y3 u3 hy3 => ?_)) | (refine r_arith rfl rfl rfl rfl rfl rfl rfl (by omega) ?_) | (with_reducible refine r_seq ?_) | (with_reducible refine x_then ?_) | (with_reducible refine r_region ?_) | (refine r_draw hM (by kernel_rfl) ?_) | (with_reducible refine r_skip ?_) | (with_reducible refine r_ret ?_) | (with_reducible refine x_then_ret ?_) | (with_reducible refine r_block ?_) | (with_reducible refine x_block ?_) | (with_reducible refine x_block_ret ?_) | (with_reducible refine r_exit ?_) | (with_reducible refine x_then_exit ?_) | (with_reducible refine x_block_here ?_) | (refine x_block_past rfl ?_) | (refine c_yes rfl (by omega) ?_) | (refine c_no rfl (by omega) ?_) | (refine c_no rfl (fun h => h rfl) ?_) | (refine r_cond_false rfl ?_) | (refine r_cond_true rfl ?_) | (refine r_cond_dec rfl (fun _ => ?_) (fun _ => ?_)) | (refine r_cond_true rfl ?_) | (refine r_cond_false rfl ?_) | (refine c_not rfl (fun _ => ?_) (fun _ => ?_)) | (refine r_off rfl rfl rfl ?_) | (refine q_guard rfl rfl (fun _ => ?_) (fun _ => ?_)) | (refine q_guardn rfl rfl (fun _ => ?_) (fun _ => ?_)))
  have lh3 : Le h u3 := lh2.trans hy3.2.1
  repeat' (first | (refine r_pure hT rfl rfl rfl rfl ?_) | (refine r_new hT rfl rfl rfl rfl ?_) | (refine r_write hT rfl rfl rfl ?_) | (refine r_nil ?_) | (refine q_nil ?_) | (refine r_call (implClasses v ts y3.1.1 ts.length y3.1.2 _ hy3.1.tabs hr (ht10.le lh3)) rfl rfl rfl rfl rfl (hC _ rfl) rfl rfl (fun y4 u4 hy4 => ?_)) | (refine r_arith rfl rfl rfl rfl rfl rfl rfl (by omega) ?_) | (with_reducible refine r_seq ?_) | (with_reducible refine x_then ?_) | (with_reducible refine r_region ?_) | (refine r_draw hM (by kernel_rfl) ?_) | (with_reducible refine r_skip ?_) | (with_reducible refine r_ret ?_) | (with_reducible refine x_then_ret ?_) | (with_reducible refine r_block ?_) | (with_reducible refine x_block ?_) | (with_reducible refine x_block_ret ?_) | (with_reducible refine r_exit ?_) | (with_reducible refine x_then_exit ?_) | (with_reducible refine x_block_here ?_) | (refine x_block_past rfl ?_) | (refine c_yes rfl (by omega) ?_) | (refine c_no rfl (by omega) ?_) | (refine c_no rfl (fun h => h rfl) ?_) | (refine r_cond_false rfl ?_) | (refine r_cond_true rfl ?_) | (refine r_cond_dec rfl (fun _ => ?_) (fun _ => ?_)) | (refine r_cond_true rfl ?_) | (refine r_cond_false rfl ?_) | (refine c_not rfl (fun _ => ?_) (fun _ => ?_)) | (refine r_off rfl rfl rfl ?_) | (refine q_guard rfl rfl (fun _ => ?_) (fun _ => ?_)) | (refine q_guardn rfl rfl (fun _ => ?_) (fun _ => ?_)))
  have l24 : Le u2 u4 := hy3.2.1.trans hy4.2.1
  have lh4 : Le h u4 := lh2.trans l24
  have i2 : Ints u2 y2.1 (clsG v ts).length (cI (clsG v ts)) := ⟨hcI.symm, hy2.1.sl⟩
  have i4 : Ints u4 y4.1 (clsG v ts).length (cI (clsG v ts)) := ⟨hcI.symm, hy4.1.sl⟩
  repeat' (first | (refine r_pure hT rfl rfl rfl rfl ?_) | (refine r_new hT rfl rfl rfl rfl ?_) | (refine r_write hT rfl rfl rfl ?_) | (refine r_nil ?_) | (refine q_nil ?_) | (refine p_call (eqIntS (cI (clsG v ts)) y4.1 y2.1 _ y4.2 _ y2.2 _ i4 (i2.le l24) (by omega)) rfl rfl rfl rfl rfl (hC _ rfl) rfl rfl rfl ?_) | (refine r_many (id := 10) [0, 1] [] u4 (Le.refl u4) hM (by kernel_rfl) rfl (by kernel_rfl) rfl rfl rfl (fun β0 => ?_)) | (refine r_call (toGraph v ts A n c _ (hP.le lh4) l1' l2') rfl rfl rfl rfl rfl (hC _ rfl) rfl rfl (fun y5 u5 hy5 => ?_)) | (refine p_call (eqGraph v ts y3.1.1 y5.1.1 _ y3.1.2 _ y5.1.2 _ ((hy3.1.le hy4.2.1).le hy5.2.1).tabs hy5.1.tabs hok) rfl rfl rfl rfl rfl (hC _ rfl) rfl rfl rfl ?_) | (refine m_keep hy5.2.1 ⟨rfl, rfl, trivial⟩ rfl rfl ?_) | (refine r_arith rfl rfl rfl rfl rfl rfl rfl (by omega) ?_) | (with_reducible refine r_seq ?_) | (with_reducible refine x_then ?_) | (with_reducible refine r_region ?_) | (with_reducible refine r_skip ?_) | (with_reducible refine r_ret ?_) | (with_reducible refine x_then_ret ?_) | (with_reducible refine r_block ?_) | (with_reducible refine x_block ?_) | (with_reducible refine x_block_ret ?_) | (with_reducible refine r_exit ?_) | (with_reducible refine x_then_exit ?_) | (with_reducible refine x_block_here ?_) | (refine x_block_past rfl ?_) | (refine c_yes rfl (by omega) ?_) | (refine c_no rfl (by omega) ?_) | (refine c_no rfl (fun h => h rfl) ?_) | (refine r_cond_false rfl ?_) | (refine r_cond_true rfl ?_) | (refine r_cond_dec rfl (fun _ => ?_) (fun _ => ?_)) | (refine r_cond_true rfl ?_) | (refine r_cond_false rfl ?_) | (refine c_not rfl (fun _ => ?_) (fun _ => ?_)) | (refine r_off rfl rfl rfl ?_) | (refine q_guard rfl rfl (fun _ => ?_) (fun _ => ?_)) | (refine q_guardn rfl rfl (fun _ => ?_) (fun _ => ?_)) | (refine s_nil ?_) | (with_reducible refine a_full ?_) | (refine m_step rfl rfl (List.cons_ne_nil _ _) ?_) | (refine allR_cons rfl ?_ ?_) | (exact allR_nil) | (refine m_end rfl rfl rfl ?_))
  have l25 : Le u2 u5 := l24.trans hy5.2.1
  have hO3 := (hy3.1.le hy4.2.1).le hy5.2.1
  have hO4 : Own u5 y4.1 (clsG v ts).length y4.2 3 1 ((cI (clsG v ts)).flatMap Ic) := hy4.1.le fun b o _ => hy5.2.1 b o
  repeat' (first | (refine r_pure hT rfl rfl rfl rfl ?_) | (refine r_new hT rfl rfl rfl rfl ?_) | (refine r_write hT rfl rfl rfl ?_) | (refine r_nil ?_) | (refine q_nil ?_) | (refine r_call (markGraph v y3.1.1 ts.length y3.1.2 y3.2 ts 1 _ hO3 (by omega) (by omega) (by omega)) rfl rfl rfl rfl rfl (hC _ rfl) rfl rfl (fun y6 u6 hy6 => ?_)) | (refine q_glt rfl rfl (by omega) ?_) | (refine r_arith rfl rfl rfl rfl rfl rfl rfl (by omega) ?_) | (with_reducible refine r_seq ?_) | (with_reducible refine x_then ?_) | (with_reducible refine r_region ?_) | (refine r_draw hM (by kernel_rfl) ?_) | (with_reducible refine r_skip ?_) | (with_reducible refine r_ret ?_) | (with_reducible refine x_then_ret ?_) | (with_reducible refine r_block ?_) | (with_reducible refine x_block ?_) | (with_reducible refine x_block_ret ?_) | (with_reducible refine r_exit ?_) | (with_reducible refine x_then_exit ?_) | (with_reducible refine x_block_here ?_) | (refine x_block_past rfl ?_) | (refine c_yes rfl (by omega) ?_) | (refine c_no rfl (by omega) ?_) | (refine c_no rfl (fun h => h rfl) ?_) | (refine r_cond_false rfl ?_) | (refine r_cond_true rfl ?_) | (refine r_cond_dec rfl (fun _ => ?_) (fun _ => ?_)) | (refine r_cond_true rfl ?_) | (refine r_cond_false rfl ?_) | (refine c_not rfl (fun _ => ?_) (fun _ => ?_)) | (refine r_off rfl rfl rfl ?_) | (refine q_guard rfl rfl (fun _ => ?_) (fun _ => ?_)) | (refine q_guardn rfl rfl (fun _ => ?_) (fun _ => ?_)))
  have l26 : Le u2 u6 := le_rows l25 hy3.2.2 hy6.2
  have hO4b : Own u6 y4.1 (clsG v ts).length y4.2 3 1 ((cI (clsG v ts)).flatMap Ic) := own_rows hO4 hy3.1 hy4.2.2 hy6.2
  have i4b : Ints u6 y4.1 (clsG v ts).length (cI (clsG v ts)) := ⟨hcI.symm, hO4b.sl⟩
  repeat' (first | (refine r_pure hT rfl rfl rfl rfl ?_) | (refine r_new hT rfl rfl rfl rfl ?_) | (refine r_write hT rfl rfl rfl ?_) | (refine r_nil ?_) | (refine q_nil ?_) | (refine p_call (eqIntS (cI (clsG v ts)) y4.1 y2.1 _ y4.2 _ y2.2 _ i4b (i2.le l26) (by omega)) rfl rfl rfl rfl rfl (hC _ rfl) rfl rfl rfl ?_) | (refine r_call (markIntS y4.1 (clsG v ts).length y4.2 1 _ _ hO4b (by omega) (by omega)) rfl rfl rfl rfl rfl (hC _ rfl) rfl rfl (fun y7 u7 hy7 => ?_)) | (refine r_arith rfl rfl rfl rfl rfl rfl rfl (by omega) ?_) | (with_reducible refine r_seq ?_) | (with_reducible refine x_then ?_) | (with_reducible refine r_region ?_) | (refine r_draw hM (by kernel_rfl) ?_) | (with_reducible refine r_skip ?_) | (with_reducible refine r_ret ?_) | (with_reducible refine x_then_ret ?_) | (with_reducible refine r_block ?_) | (with_reducible refine x_block ?_) | (with_reducible refine x_block_ret ?_) | (with_reducible refine r_exit ?_) | (with_reducible refine x_then_exit ?_) | (with_reducible refine x_block_here ?_) | (refine x_block_past rfl ?_) | (refine c_yes rfl (by omega) ?_) | (refine c_no rfl (by omega) ?_) | (refine c_no rfl (fun h => h rfl) ?_) | (refine r_cond_false rfl ?_) | (refine r_cond_true rfl ?_) | (refine r_cond_dec rfl (fun _ => ?_) (fun _ => ?_)) | (refine r_cond_true rfl ?_) | (refine r_cond_false rfl ?_) | (refine c_not rfl (fun _ => ?_) (fun _ => ?_)) | (refine r_off rfl rfl rfl ?_) | (refine q_guard rfl rfl (fun _ => ?_) (fun _ => ?_)) | (refine q_guardn rfl rfl (fun _ => ?_) (fun _ => ?_)))
  have hof2 : Off u2 y4.1 := fun b hb => none_of hy3.2.1 (hy4.2.2 b hb)
  have l27 : Le u2 u7 := fun b o hb => by rw [hy7.2 b (fun e => by rw [hof2 b e] at hb; cases hb)]; exact l26 b o hb
  have lh7 : Le h u7 := lh2.trans l27
  have i7 : Ints u7 y4.1 (clsG v ts).length (mkI (clsG v ts).length 1) := ⟨(mkI_len _ _).symm, hy7.1.sl⟩
  repeat' (first | (refine r_pure hT rfl rfl rfl rfl ?_) | (refine r_new hT rfl rfl rfl rfl ?_) | (refine r_write hT rfl rfl rfl ?_) | (refine r_nil ?_) | (refine q_nil ?_) | (refine p_call (heldIntS y4.1 (clsG v ts).length y4.2 1 _ i7 (by omega) (by omega)) rfl rfl rfl rfl rfl (hC _ rfl) rfl rfl rfl ?_) | (refine r_call (toGraph v ts A n c _ (hP.le lh7) l1' l2') rfl rfl rfl rfl rfl (hC _ rfl) rfl rfl (fun y8 u8 hy8 => ?_)) | (refine r_arith rfl rfl rfl rfl rfl rfl rfl (by omega) ?_) | (with_reducible refine r_seq ?_) | (with_reducible refine x_then ?_) | (with_reducible refine r_region ?_) | (refine r_draw hM (by kernel_rfl) ?_) | (with_reducible refine r_skip ?_) | (with_reducible refine r_ret ?_) | (with_reducible refine x_then_ret ?_) | (with_reducible refine r_block ?_) | (with_reducible refine x_block ?_) | (with_reducible refine x_block_ret ?_) | (with_reducible refine r_exit ?_) | (with_reducible refine x_then_exit ?_) | (with_reducible refine x_block_here ?_) | (refine x_block_past rfl ?_) | (refine c_yes rfl (by omega) ?_) | (refine c_no rfl (by omega) ?_) | (refine c_no rfl (fun h => h rfl) ?_) | (refine r_cond_false rfl ?_) | (refine r_cond_true rfl ?_) | (refine r_cond_dec rfl (fun _ => ?_) (fun _ => ?_)) | (refine r_cond_true rfl ?_) | (refine r_cond_false rfl ?_) | (refine c_not rfl (fun _ => ?_) (fun _ => ?_)) | (refine r_off rfl rfl rfl ?_) | (refine q_guard rfl rfl (fun _ => ?_) (fun _ => ?_)) | (refine q_guardn rfl rfl (fun _ => ?_) (fun _ => ?_)))
  repeat' (first | (refine r_pure hT rfl rfl rfl rfl ?_) | (refine r_new hT rfl rfl rfl rfl ?_) | (refine r_write hT rfl rfl rfl ?_) | (refine r_nil ?_) | (refine q_nil ?_) | (refine r_call (implClasses v ts y8.1.1 ts.length y8.1.2 _ hy8.1.tabs hr ((ht10.le lh7).le hy8.2.1)) rfl rfl rfl rfl rfl (hC _ rfl) rfl rfl (fun y9 u9 hy9 => ?_)) | (refine r_arith rfl rfl rfl rfl rfl rfl rfl (by omega) ?_) | (with_reducible refine r_seq ?_) | (with_reducible refine x_then ?_) | (with_reducible refine r_region ?_) | (refine r_draw hM (by kernel_rfl) ?_) | (with_reducible refine r_skip ?_) | (with_reducible refine r_ret ?_) | (with_reducible refine x_then_ret ?_) | (with_reducible refine r_block ?_) | (with_reducible refine x_block ?_) | (with_reducible refine x_block_ret ?_) | (with_reducible refine r_exit ?_) | (with_reducible refine x_then_exit ?_) | (with_reducible refine x_block_here ?_) | (refine x_block_past rfl ?_) | (refine c_yes rfl (by omega) ?_) | (refine c_no rfl (by omega) ?_) | (refine c_no rfl (fun h => h rfl) ?_) | (refine r_cond_false rfl ?_) | (refine r_cond_true rfl ?_) | (refine r_cond_dec rfl (fun _ => ?_) (fun _ => ?_)) | (refine r_cond_true rfl ?_) | (refine r_cond_false rfl ?_) | (refine c_not rfl (fun _ => ?_) (fun _ => ?_)) | (refine r_off rfl rfl rfl ?_) | (refine q_guard rfl rfl (fun _ => ?_) (fun _ => ?_)) | (refine q_guardn rfl rfl (fun _ => ?_) (fun _ => ?_)))
  have l79 : Le u7 u9 := hy8.2.1.trans hy9.2.1
  have i9 : Ints u9 y9.1 (clsG v ts).length (cI (clsG v ts)) := ⟨hcI.symm, hy9.1.sl⟩
  repeat' (first | (refine r_pure hT rfl rfl rfl rfl ?_) | (refine r_new hT rfl rfl rfl rfl ?_) | (refine r_write hT rfl rfl rfl ?_) | (refine r_nil ?_) | (refine q_nil ?_) | (refine p_call (eqIntS (cI (clsG v ts)) y9.1 y2.1 _ y9.2 _ y2.2 _ i9 ((i2.le l27).le l79) (by omega)) rfl rfl rfl rfl rfl (hC _ rfl) rfl rfl rfl ?_) | (refine p_call (heldIntS y4.1 (clsG v ts).length y4.2 1 _ (i7.le l79) (by omega) (by omega)) rfl rfl rfl rfl rfl (hC _ rfl) rfl rfl rfl ?_) | (refine r_arith rfl rfl rfl rfl rfl rfl rfl (by omega) ?_) | (with_reducible refine r_seq ?_) | (with_reducible refine x_then ?_) | (with_reducible refine r_region ?_) | (refine r_draw hM (by kernel_rfl) ?_) | (with_reducible refine r_skip ?_) | (with_reducible refine r_ret ?_) | (with_reducible refine x_then_ret ?_) | (with_reducible refine r_block ?_) | (with_reducible refine x_block ?_) | (with_reducible refine x_block_ret ?_) | (with_reducible refine r_exit ?_) | (with_reducible refine x_then_exit ?_) | (with_reducible refine x_block_here ?_) | (refine x_block_past rfl ?_) | (refine c_yes rfl (by omega) ?_) | (refine c_no rfl (by omega) ?_) | (refine c_no rfl (fun h => h rfl) ?_) | (refine r_cond_false rfl ?_) | (refine r_cond_true rfl ?_) | (refine r_cond_dec rfl (fun _ => ?_) (fun _ => ?_)) | (refine r_cond_true rfl ?_) | (refine r_cond_false rfl ?_) | (refine c_not rfl (fun _ => ?_) (fun _ => ?_)) | (refine r_off rfl rfl rfl ?_) | (refine q_guard rfl rfl (fun _ => ?_) (fun _ => ?_)) | (refine q_guardn rfl rfl (fun _ => ?_) (fun _ => ?_)))
  exact r_fin hT rfl true rfl rfl rfl trivial rfl ⟨rfl, lh7.trans l79⟩
end Go.Proofs.YtkamfnmbidnhdaaDoor
/- A graph that is an argument. Over any program; no condition. -/
namespace Go.Sy
def V.okW (v : V) : Prop := (Lit.int .i64 v.k).wf = true ∧ (Lit.int .i64 v.n).wf = true ∧ v.s.size ≤ maxLen ∧ (Lit.int .i64 v.a).wf = true
def Pr.okW (p : Pr) : Prop := p.key.okW ∧ p.val.okW
theorem V.okW.s {v : V} (h : v.okW) : v.okS := by have := h.2.2.1; simp only [maxLen] at this; exact this
theorem Pr.okW.s {p : Pr} (h : p.okW) : p.okS := ⟨h.1.s, h.2.s⟩
def kV : Hp → V → List Value → Prop := fun _ v cs => cs = v.c ∧ v.okW
def kP : Hp → Pr → List Value → Prop := fun _ p cs => cs = p.c ∧ p.okW
def kPs : Hp → List Pr → List Value → Prop := fun u l cs => ∃ A c, cs = [.slice A l.length c] ∧ l.length ≤ c ∧ l.length ≤ maxLen ∧ Pairs u A l.length l ∧ ∀ p ∈ l, p.okW
def kTs : Hp → List (List Pr) → List Value → Prop := fun u ts cs => ∃ A c, cs = [.slice A ts.length c] ∧ ts.length ≤ c ∧ ts.length ≤ maxLen ∧ Tabs u A ts.length ts ∧ ∀ t ∈ ts, t.length ≤ maxLen ∧ ∀ p ∈ t, p.okW
def kG : Hp → V × List (List Pr) → List Value → Prop := fun u g cs => ∃ A c, cs = [.int .i64 g.1.k, .int .i64 g.1.n, .string g.1.s, .int .i64 g.1.a, .slice A g.2.length c] ∧ g.1.okW ∧ g.2.length ≤ c ∧ g.2.length ≤ maxLen ∧ Tabs u A g.2.length g.2 ∧ ∀ t ∈ g.2, t.length ≤ maxLen ∧ ∀ p ∈ t, p.okW
section
variable {P : Program} {t e : TypeId}
theorem kV_of {u : Hp} {x : Int × Int × ByteArray × Int} {cs : List Value} (h : kPair (kInt .i64) (kPair (kInt .i64) (kPair kStr (kInt .i64))) u x cs) : kV u ⟨x.1, x.2.1, x.2.2.1, x.2.2.2⟩ cs := by
  obtain ⟨c1, c2, rfl, ⟨rfl, w1⟩, c3, c4, rfl, ⟨rfl, w2⟩, c5, c6, rfl, ⟨rfl, w3⟩, ⟨rfl, w4⟩⟩ := h
  exact ⟨rfl, w1, w2, w3, w4⟩
theorem kP_of {u : Hp} {x : V × V} {cs : List Value} (h : kPair kV kV u x cs) : kP u ⟨x.1, x.2⟩ cs := by
  obtain ⟨c1, c2, rfl, ⟨rfl, w1⟩, ⟨rfl, w2⟩⟩ := h
  exact ⟨rfl, w1, w2⟩
theorem flat_of {α : Type} {c : α → List Value} : ∀ {ds : List (List Value)} {l : List α}, ds.length = l.length → (∀ (i : Nat) d y, ds[i]? = some d → l[i]? = some y → d = c y) → ds.flatten = l.flatMap c
  | [], [], _, _ => rfl
  | d :: r, y :: l, hl, h => by
    rw [List.flatten_cons, List.flatMap_cons, h 0 d y rfl rfl, flat_of (by simpa using hl) (fun i d' y' hd hy => h (i + 1) d' y' (by simpa using hd) (by simpa using hy))]
  | [], _ :: _, h, _ => by simp at h
  | _ :: _, [], h, _ => by simp at h
theorem all_of {α : Type} {p : α → Prop} {ds : List (List Value)} {l : List α} (hl : ds.length = l.length) (h : ∀ (i : Nat) d y, ds[i]? = some d → l[i]? = some y → p y) : ∀ y ∈ l, p y := fun y hy => by
  obtain ⟨i, hi, e⟩ := List.getElem_of_mem hy
  have h2 : i < ds.length := by omega
  exact h i ds[i] y (List.getElem?_eq_getElem h2) (by rw [List.getElem?_eq_getElem hi, e])
theorem kPs_of {u : Hp} {l : List Pr} {cs : List Value} (h : kSl 8 kP u l cs) : kPs u l cs := by
  obtain ⟨A, c, ds, rfl, h1, h2, h3, _, h5, h6⟩ := h
  refine ⟨A, c, rfl, h1, h2, ⟨rfl, ?_⟩, all_of h3 (fun i d y hd hy => (h5 i d y hd hy).2)⟩
  rw [← flat_of h3 (fun i d y hd hy => (h5 i d y hd hy).1)]; exact h6
theorem kTs_of {u : Hp} {ts : List (List Pr)} {cs : List Value} (h : kSl 1 kPs u ts cs) : kTs u ts cs := by
  obtain ⟨A, c, ds, rfl, h1, h2, h3, _, h5, h6⟩ := h
  have hall := all_of h3 (p := fun t : List Pr => t.length ≤ maxLen ∧ ∀ p ∈ t, p.okW) (fun i d y hd hy => by obtain ⟨_, _, _, _, g3, _, g5⟩ := h5 i d y hd hy; exact ⟨g3, g5⟩)
  refine ⟨A, c, rfl, h1, h2, ?_, hall⟩
  have hh : ∀ (ds : List (List Value)) (ts : List (List Pr)), ds.length = ts.length → (∀ (i : Nat) d y, ds[i]? = some d → ts[i]? = some y → kPs u y d) →
      ∃ hs : List Hd, hs.length = ts.length ∧ ds.flatten = hs.flatMap Hd.v ∧ ∀ (i : Nat) (x : Hd) (t : List Pr), hs[i]? = some x → ts[i]? = some t → x.n ≤ x.c ∧ Pairs u x.A x.n t := by
    intro ds
    induction ds with
    | nil =>
      intro ts hl _
      have : ts = [] := List.length_eq_zero_iff.1 (by simpa using hl.symm)
      subst this
      exact ⟨[], rfl, rfl, fun i x t hx => by simp at hx⟩
    | cons d r ih =>
      intro ts hl h
      cases ts with
      | nil => simp at hl
      | cons t ts =>
        obtain ⟨hs, g1, g2, g3⟩ := ih ts (by simpa using hl) (fun i d' y' hd hy => h (i + 1) d' y' (by simpa using hd) (by simpa using hy))
        obtain ⟨A', c', rfl, k1, k2, k3, _⟩ := h 0 d t rfl rfl
        refine ⟨⟨A', t.length, c'⟩ :: hs, by simp [g1], by rw [List.flatten_cons, g2, List.flatMap_cons]; rfl, fun i x t' hx ht => ?_⟩
        cases i with
        | zero => simp at hx ht; subst hx; subst ht; exact ⟨k1, k3⟩
        | succ i => exact g3 i x t' (by simpa using hx) (by simpa using ht)
  obtain ⟨hs, g1, g2, g3⟩ := hh ds ts h3 h5
  exact ⟨hs, g1, ⟨g1.symm, by rw [← g2]; exact h6⟩, g3⟩
theorem kG_of {u : Hp} {x : V × List (List Pr)} {cs : List Value} (h : kPair kV kTs u x cs) : kG u x cs := by
  obtain ⟨c1, c2, rfl, ⟨rfl, w1⟩, A, c, rfl, h1, h2, h3, h4⟩ := h
  exact ⟨A, c, rfl, w1, h1, h2, h3, h4⟩
theorem kTs_one {u : Hp} {l : List Pr} {cs : List Value} (h : kPs u l cs) : kPs u l cs := h
end
end Go.Sy
/- What the arguments of the laws of this seat are. No condition. -/
namespace Go.Proofs.YtkamfnmbidnhdaaDoor
open Go.Sy
set_option maxRecDepth 100000
theorem og3 : Opn Tryd.prog 3 1 (kInt .i64) := opn_int Tryd.underlying3 (by kernel_rfl)
theorem og2 : Opn Tryd.prog 2 1 (kInt .i64) := opn_int Tryd.underlying2 (by kernel_rfl)
theorem og9 : Opn Tryd.prog 9 1 kStr := opn_str Tryd.underlying9 (by kernel_rfl)
theorem og26 : Opn Tryd.prog 42 4 kV := Opn.imp (fun x => (⟨x.1, x.2.1, x.2.2.1, x.2.2.2⟩ : V)) (opn_struct (opn_cons rfl og3 rfl (opn_cons rfl og2 rfl (opn_cons rfl og9 rfl (opn_one rfl og3)))) Tryd.underlying42 rfl (by kernel_rfl)) (fun _ _ _ h => kV_of h)
theorem og146 : Opn Tryd.prog 196 8 kP := Opn.imp (fun x => (⟨x.1, x.2⟩ : Pr)) (opn_struct (opn_cons rfl og26 rfl (opn_one rfl og26)) Tryd.underlying196 rfl (by kernel_rfl)) (fun _ _ _ h => kP_of h)
theorem og115 : Opn Tryd.prog 133 1 kPs := Opn.imp id (opn_slice Tryd.underlying133 (by kernel_rfl) (by decide) og146) (fun _ _ _ h => kPs_of h)
theorem og117 : Opn Tryd.prog 135 1 kPs := opn_struct (opn_one rfl og115) Tryd.underlying135 rfl (by kernel_rfl)
theorem og41 : Opn Tryd.prog 43 1 kTs := Opn.imp id (opn_slice Tryd.underlying43 (by kernel_rfl) (by decide) og117) (fun _ _ _ h => kTs_of h)
theorem og43 : Opn Tryd.prog 45 5 kG := Opn.imp id (opn_struct (opn_cons rfl og26 rfl (opn_one rfl og41)) Tryd.underlying45 rfl (by kernel_rfl)) (fun _ _ _ h => kG_of h)
end Go.Proofs.YtkamfnmbidnhdaaDoor
/- What the arguments of the laws of this seat are. No condition. -/
namespace Go.Sy
def kIs : Hp → List Int → List Value → Prop := fun u l cs => ∃ A c, cs = [.slice A l.length c] ∧ l.length ≤ c ∧ l.length ≤ maxLen ∧ Ints u A l.length l ∧ ∀ x ∈ l, (Lit.int .i64 x).wf = true
def kIss : Hp → List (List Int) → List Value → Prop := fun u ts cs => ∃ A c, cs = [.slice A ts.length c] ∧ ts.length ≤ c ∧ ts.length ≤ maxLen ∧ Mat u A ts.length ts ∧ ∀ t ∈ ts, t.length ≤ maxLen ∧ ∀ x ∈ t, (Lit.int .i64 x).wf = true
theorem kIs_of {u : Hp} {l : List Int} {cs : List Value} (h : kSl 1 (kInt .i64) u l cs) : kIs u l cs := by
  obtain ⟨A, c, ds, rfl, h1, h2, h3, _, h5, h6⟩ := h
  refine ⟨A, c, rfl, h1, h2, ⟨rfl, ?_⟩, all_of h3 (fun i d y hd hy => (h5 i d y hd hy).2)⟩
  rw [← flat_of (c := Ic) h3 (fun i d y hd hy => (h5 i d y hd hy).1)]; exact h6
/-- Rows of rows, of any element. -/
theorem kRows_of {α : Type} {c0 : α → List Value} {sz : Nat} {p : α → Prop} {u : Hp} {ts : List (List α)} {cs : List Value}
    (h : kSl 1 (fun u l cs => ∃ A c, cs = [.slice A l.length c] ∧ l.length ≤ c ∧ l.length ≤ maxLen ∧ Rd c0 sz u A l.length l ∧ ∀ x ∈ l, p x) u ts cs) :
    ∃ A c, cs = [.slice A ts.length c] ∧ ts.length ≤ c ∧ ts.length ≤ maxLen ∧ TabG c0 sz u A ts.length ts ∧ ∀ t ∈ ts, t.length ≤ maxLen ∧ ∀ x ∈ t, p x := by
  obtain ⟨A, c, ds, rfl, h1, h2, h3, _, h5, h6⟩ := h
  have hall := all_of h3 (p := fun t : List α => t.length ≤ maxLen ∧ ∀ x ∈ t, p x) (fun i d y hd hy => by obtain ⟨_, _, _, _, g3, _, g5⟩ := h5 i d y hd hy; exact ⟨g3, g5⟩)
  refine ⟨A, c, rfl, h1, h2, ?_, hall⟩
  have hh : ∀ (ds : List (List Value)) (ts : List (List α)), ds.length = ts.length → (∀ (i : Nat) d y, ds[i]? = some d → ts[i]? = some y → ∃ A c, d = [.slice A y.length c] ∧ y.length ≤ c ∧ Rd c0 sz u A y.length y) →
      ∃ hs : List Hd, hs.length = ts.length ∧ ds.flatten = hs.flatMap Hd.v ∧ ∀ (i : Nat) (x : Hd) (t : List α), hs[i]? = some x → ts[i]? = some t → x.n ≤ x.c ∧ Rd c0 sz u x.A x.n t := by
    intro ds
    induction ds with
    | nil =>
      intro ts hl _
      have : ts = [] := List.length_eq_zero_iff.1 (by simpa using hl.symm)
      subst this
      exact ⟨[], rfl, rfl, fun i x t hx => by simp at hx⟩
    | cons d r ih =>
      intro ts hl h
      cases ts with
      | nil => simp at hl
      | cons t ts =>
        obtain ⟨hs, g1, g2, g3⟩ := ih ts (by simpa using hl) (fun i d' y' hd hy => h (i + 1) d' y' (by simpa using hd) (by simpa using hy))
        obtain ⟨A', c', rfl, k1, k3⟩ := h 0 d t rfl rfl
        refine ⟨⟨A', t.length, c'⟩ :: hs, by simp [g1], by rw [List.flatten_cons, g2, List.flatMap_cons]; rfl, fun i x t' hx ht => ?_⟩
        cases i with
        | zero => simp at hx ht; subst hx; subst ht; exact ⟨k1, k3⟩
        | succ i => exact g3 i x t' (by simpa using hx) (by simpa using ht)
  obtain ⟨hs, g1, g2, g3⟩ := hh ds ts h3 (fun i d y hd hy => by obtain ⟨A, c, e, e1, _, e3, _⟩ := h5 i d y hd hy; exact ⟨A, c, e, e1, e3⟩)
  exact ⟨hs, g1, ⟨g1.symm, by rw [← g2]; exact h6⟩, g3⟩
theorem kIss_of {u : Hp} {ts : List (List Int)} {cs : List Value} (h : kSl 1 kIs u ts cs) : kIss u ts cs := kRows_of h
end Go.Sy
namespace Go.Proofs.YtkamfnmbidnhdaaDoor
open Go.Sy
set_option maxRecDepth 100000
theorem op3 : Opn Tryd.prog 3 1 (kInt .i64) := opn_int Tryd.underlying3 (by kernel_rfl)
theorem op25 : Opn Tryd.prog 25 1 kIs := Opn.imp id (opn_slice Tryd.underlying25 (by kernel_rfl) (by decide) op3) (fun _ _ _ h => kIs_of h)
theorem op24 : Opn Tryd.prog 24 1 kIss := Opn.imp id (opn_slice Tryd.underlying24 (by kernel_rfl) (by decide) op25) (fun _ _ _ h => kIss_of h)
end Go.Proofs.YtkamfnmbidnhdaaDoor
/- The listed variable of the Sort laws; a start that meets the condition. -/
namespace Go.Proofs.YtkamfnmbidnhdaaDoor
open Go.Sy Go.ChangeShapes Go.WideShapes Go.ChangeAt Go.RowKit Go.Stop
theorem own : ownKnob Tryd.prog.godebug = none := by kernel_rfl
theorem laidOut : laidOutB Tryd.prog = true := by kernel_rfl
theorem gE : Tryd.prog.globalNamed "loop.example/cloth/impl.errFails" = some 0 := by kernel_rfl
theorem gEt : (Tryd.prog.globals[0]?).map (·.type) = some 72 := by kernel_rfl
theorem star : "*" ++ "errors.errorString" = "*errors.errorString" := by decide
theorem row228 (u : TypeId) (h : Tryd.prog.typeName? 3 u = some "*errors.errorString") : u = 228 :=
  typeName_ptr_named (nm := "errors.errorString") (by rw [star]; kernel_rfl) (by kernel_rfl) (by decide) u (by rw [star]; exact h)
theorem cells242 : Tryd.prog.cellsOf 242 = 1 := by kernel_rfl
theorem cells9 : Tryd.prog.cellsOf 9 = 1 := by kernel_rfl
theorem below_var {W W' : World} (h : Below W.heap.size W W') {n : String} {cs : Array Value} (hv : W.var? Tryd.prog n = some cs) : W'.var? Tryd.prog n = some cs := by
  unfold World.var? at hv ⊢
  cases hg : Tryd.prog.globalNamed n with
  | none => simp [hg] at hv
  | some g =>
    simp only [hg, Option.bind_some] at hv ⊢
    have hlt : g < W.heap.size := by
      cases hh : W.heap[g]? with
      | none => simp [hh] at hv
      | some o => exact (Array.getElem?_eq_some_iff.1 hh).1
    rw [h.block g hlt]; exact hv
/-- What the condition on the listed variable gives. -/
theorem of_laid {W : World} (h : laidMetH Tryd.prog [("loop.example/cloth/impl.errFails", Rows.laid_loop_example_cloth_impl_errFails)] W) :
    ∃ a, W.var? Tryd.prog "loop.example/cloth/impl.errFails" = some #[.iface 228 (.pointer (some a))] ∧ At (hpOf W) 0 0 [.iface 228 (.pointer (some a))] := by
  rw [MakeChecks.laidMetH_plain _ _ _ (by kernel_rfl)] at h
  obtain ⟨a, s, hv, _⟩ := laid_sentinel h gE gEt Tryd.underlying72 row228 Tryd.underlying228 Tryd.underlying242 rfl rfl Tryd.underlying9 cells242 cells9
  refine ⟨a, hv, ?_⟩
  unfold World.var? at hv
  rw [gE] at hv
  simp only [Option.bind_some] at hv
  unfold At hpOf
  cases hh : W.heap[0]? with
  | none => simp [hh] at hv
  | some o =>
    cases o with
    | cells cs t fr =>
      simp [hh] at hv
      subst hv
      exact ⟨_, _, _, rfl, fun j v hj => by simpa using hj⟩
    | _ => simp [hh] at hv
theorem door_met (os : Os) (args : Array Value) : laidMetH Tryd.prog [("loop.example/cloth/impl.errFails", Rows.laid_loop_example_cloth_impl_errFails)] ((World.doorLaid Tryd.prog 400 os).forCall (fun _ _ => 0) ⟨#[], args, []⟩).memory :=
  laidMetH_of_parts3 (fuel := 8) (laidMet_of_run' 8 (by kernel_rfl) (by kernel_rfl)) (by kernel_rfl) (by kernel_rfl)
end Go.Proofs.YtkamfnmbidnhdaaDoor
/- The listed tables of the laws that print numbers; a start that meets the condition. -/
namespace Go.Proofs.YtkamfnmbidnhdaaDoor
open Go.Sy Go.ChangeShapes Go.WideShapes Go.ChangeAt Go.RowKit Go.Stop
theorem laidVars_third {P : Program} {W : World} {x0 x1 : String × DataW Unit} {name : String} {k : IntKind} {zs : List Int} {rest : List (String × DataW Unit)} {g : Nat} {t e : TypeId} {n : Nat}
    (hg : P.globalNamed name = some g) (hty : (P.globals[g]?).map (·.type) = some t) (ht : P.underlying t = some (.array n e)) (he : P.underlying e = some (.int k)) (hce : P.cellsOf e = 1) (hct : P.cellsOf t = n)
    (h : laidMet P (x0 :: x1 :: (name, Lib.tabData k zs) :: rest) W) : Lib.TabIs P W name k zs := by
  obtain ⟨ps, ⟨_, _, _, _, _, _, _, _, _, _, ⟨_, _, _, _, _, _, _, _, _, _, ⟨g', t', cs, fuel, p, q, hg', ht', hvar, hd, _, _⟩, _⟩, _⟩, _⟩ := h
  obtain rfl := Option.some.inj (hg.symm.trans hg')
  obtain rfl := Option.some.inj (hty.symm.trans ht')
  unfold Lib.TabIs
  rw [hvar, ← Lib.cells_of_tab ht he hce hct hd]
abbrev laid3 : List (String × DataW Unit) := [("math/bits.deBruijn32tab", Rows.laid_math_bits_deBruijn32tab), ("math/bits.deBruijn64tab", Rows.laid_math_bits_deBruijn64tab), ("internal/strconv.uint64pow10", Rows.laid_internal_strconv_uint64pow10)]
theorem laid_pow10 : (Rows.laid_internal_strconv_uint64pow10 : DataW Unit) = Lib.tabData .u64 Lib.pow10Tab := by kernel_rfl
theorem tab_hp {W : World} (h : Lib.TabIs Tryd.prog W "internal/strconv.uint64pow10" .u64 Lib.pow10Tab) : Tab10 (hpOf W) := by
  intro w hw
  unfold Lib.TabIs World.var? at h ⊢
  cases hg : Tryd.prog.globalNamed "internal/strconv.uint64pow10" with
  | none => rw [hg] at h; cases h
  | some g =>
    rw [hg] at h
    simp only [Option.bind_some] at h ⊢
    cases hh : W.heap[g]? with
    | none => rw [hh] at h; cases h
    | some o => rw [hh] at h; rw [hw g o hh]; exact h
set_option maxRecDepth 100000 in
theorem of_laid3 {W : World} (h : laidMetH Tryd.prog laid3 W) : Tab10 (hpOf W) := by
  rw [MakeChecks.laidMetH_plain _ _ _ (by kernel_rfl)] at h
  unfold laid3 at h
  rw [laid_pow10] at h
  exact tab_hp (laidVars_third (g := 2) (t := 217) (e := 120) (n := 20) (by kernel_rfl) (by kernel_rfl) Tryd.underlying217 Tryd.underlying120 (by kernel_rfl) (by kernel_rfl) h)
theorem door_met3 (os : Os) (args : Array Value) : laidMetH Tryd.prog laid3 ((World.doorLaid Tryd.prog 400 os).forCall (fun _ _ => 0) ⟨#[], args, []⟩).memory :=
  laidMetH_of_parts3 (fuel := 8) (laidMet_of_run' 8 (by kernel_rfl) (by kernel_rfl)) (by kernel_rfl) (by kernel_rfl)
end Go.Proofs.YtkamfnmbidnhdaaDoor
