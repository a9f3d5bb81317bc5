/- spec.l2less, spec.l3alike, spec.l3looks. No condition. -/
import Derived.Test.YtkamfnmbidnhdaaDoorSqAJ
import Derived.Test.YtkamfnmbidnhdaaDoorSqAL
import Derived.Test.YtkamfnmbidnhdaaDoorSqAH
import Derived.Test.YtkamfnmbidnhdaaDoorSqAE
import Derived.Test.YtkamfnmbidnhdaaDoorSqAK
import Derived.Test.YtkamfnmbidnhdaaDoorSqAG
import Derived.Shelf.SlSortCmp.NoneTotal
import Derived.Test.YtkamfnmbidnhdaaDoorProg
set_option linter.unusedVariables false
set_option linter.unusedSimpArgs false
set_option linter.unusedSectionVars false
namespace Go.Proofs.YtkamfnmbidnhdaaDoor
open Go.Sy
set_option maxRecDepth 100000
set_option maxHeartbeats 4000000
set_option linter.unusedVariables false
set_option linter.unusedSimpArgs false
theorem lexB_nil (b : List UInt8) : lexB [] b = decide (0 < b.length) := by cases b <;> simp [lexB]
theorem lexB_nil' (a : List UInt8) : lexB a [] = false := by cases a <;> rfl
theorem less129 (x y : V) (h : Hp) (hs : x.s.size ≤ 1000000) (hs' : y.s.size ≤ 1000000) : Pur Tryd.prog 129 [.ag x.sv, .ag y.sv] h (fun z : Bool => .v (.bool z)) (sl x y) := by
  refine enterS Tryd.func129 rfl (n := 63) rfl rfl (fun k N => ?_)
  have hlx : x.s.data.toList.length = x.s.size := Array.length_toList
  have hly : y.s.data.toList.length = y.s.size := Array.length_toList
  by_cases hk : x.k = y.k
  · by_cases h3 : x.k = 3
    · have hsl : sl x y = lexB x.s.data.toList y.s.data.toList := by unfold sl; rw [if_pos hk, if_pos h3]
      repeat' (first | (refine r_pure hT rfl rfl rfl rfl ?_) | (refine r_new hT rfl rfl rfl rfl ?_) | (refine r_write hT rfl rfl rfl ?_) | (refine r_nil ?_) | (refine q_nil ?_) | (refine c_no rfl (fun h => h hk) ?_) | (refine c_no rfl (fun h => h h3) ?_) | (refine r_arith rfl rfl rfl rfl rfl rfl rfl (by omega) ?_) | (with_reducible refine r_seq ?_) | (with_reducible refine x_then ?_) | (with_reducible refine r_region ?_) | (refine r_draw hM (by kernel_rfl) ?_) | (with_reducible refine r_skip ?_) | (with_reducible refine r_ret ?_) | (with_reducible refine x_then_ret ?_) | (with_reducible refine r_block ?_) | (with_reducible refine x_block ?_) | (with_reducible refine x_block_ret ?_) | (with_reducible refine r_exit ?_) | (with_reducible refine x_then_exit ?_) | (with_reducible refine x_block_here ?_) | (refine x_block_past rfl ?_) | (refine c_yes rfl (by omega) ?_) | (refine c_no rfl (by omega) ?_) | (refine c_no rfl (fun h => h rfl) ?_) | (refine r_cond_false rfl ?_) | (refine r_cond_true rfl ?_) | (refine r_cond_dec rfl (fun _ => ?_) (fun _ => ?_)) | (refine r_cond_true rfl ?_) | (refine r_cond_false rfl ?_) | (refine c_not rfl (fun _ => ?_) (fun _ => ?_)) | (refine r_off rfl rfl rfl ?_) | (refine q_guard rfl rfl (fun _ => ?_) (fun _ => ?_)) | (refine q_guardn rfl rfl (fun _ => ?_) (fun _ => ?_)))
      refine r_loop (γ := Nat) (fun i => i ≤ x.s.size ∧ i ≤ y.s.size ∧ sl x y = lexB (x.s.data.toList.drop i) (y.s.data.toList.drop i)) (fun i => [(2, .p 2 0), (3, .p 3 0), (5, .v (.int .i64 (i : Int)))]) (fun _ => [(3, ⟨none, y.sv, 48⟩), (2, ⟨none, x.sv, 48⟩)]) (fun _ => h) (fun i => x.s.size - i)
        0 ⟨Nat.zero_le _, Nat.zero_le _, hsl⟩ (into rfl ⟨rfl, rfl, rfl, trivial⟩ ⟨rfl, rfl, trivial⟩ rfl rfl) ?_
      rintro i ⟨hi, hi', ho⟩
      by_cases hlt : i < x.s.size
      · have hltI : (i : Int) < (x.s.size : Int) := by omega
        obtain ⟨c, hc⟩ : ∃ c, x.s.data.toList[i]? = some c := ⟨_, List.getElem?_eq_getElem (by omega)⟩
        have hdx : x.s.data.toList.drop i = c :: x.s.data.toList.drop (i + 1) := by
          obtain ⟨g1, g2⟩ := List.getElem?_eq_some_iff.1 hc
          rw [List.drop_eq_getElem_cons g1, g2]
        by_cases hlt' : i < y.s.size
        · have hltI' : (i : Int) < (y.s.size : Int) := by omega
          obtain ⟨d, hd⟩ : ∃ d, y.s.data.toList[i]? = some d := ⟨_, List.getElem?_eq_getElem (by omega)⟩
          have hdy : y.s.data.toList.drop i = d :: y.s.data.toList.drop (i + 1) := by
            obtain ⟨g1, g2⟩ := List.getElem?_eq_some_iff.1 hd
            rw [List.drop_eq_getElem_cons g1, g2]
          rw [hdx, hdy, lexB] at ho
          have hbx := byt_at hc
          have hby := byt_at hd
          by_cases hcd : c = d
          · have hcd' : (c.toNat : Int) = (d.toNat : Int) := by rw [hcd]
            rw [if_pos hcd] at ho
            repeat' (first | (refine r_pure hT rfl rfl rfl rfl ?_) | (refine r_new hT rfl rfl rfl rfl ?_) | (refine r_write hT rfl rfl rfl ?_) | (refine r_nil ?_) | (refine q_nil ?_) | (refine q_guard rfl rfl (fun _ => ?_) (fun hx => absurd hltI hx)) | (refine c_yes rfl hltI' ?_) | ((refine r_byte (s := x.s) hT rfl rfl rfl rfl rfl rfl rfl rfl hlt ?_ ; rw [hbx])) | ((refine r_byte (s := y.s) hT rfl rfl rfl rfl rfl rfl rfl rfl hlt' ?_ ; rw [hby])) | (refine c_no rfl (fun h => h hcd') ?_) | (refine r_arith rfl rfl rfl rfl rfl rfl rfl (by omega) ?_) | (with_reducible refine r_seq ?_) | (with_reducible refine x_then ?_) | (with_reducible refine r_region ?_) | (refine r_draw hM (by kernel_rfl) ?_) | (with_reducible refine r_skip ?_) | (with_reducible refine r_ret ?_) | (with_reducible refine x_then_ret ?_) | (with_reducible refine r_block ?_) | (with_reducible refine x_block ?_) | (with_reducible refine x_block_ret ?_) | (with_reducible refine r_exit ?_) | (with_reducible refine x_then_exit ?_) | (with_reducible refine x_block_here ?_) | (refine x_block_past rfl ?_) | (refine c_yes rfl (by omega) ?_) | (refine c_no rfl (by omega) ?_) | (refine c_no rfl (fun h => h rfl) ?_) | (refine r_cond_false rfl ?_) | (refine r_cond_true rfl ?_) | (refine r_cond_dec rfl (fun _ => ?_) (fun _ => ?_)) | (refine r_cond_true rfl ?_) | (refine r_cond_false rfl ?_) | (refine c_not rfl (fun _ => ?_) (fun _ => ?_)) | (refine r_off rfl rfl rfl ?_))
            exact x_round (i + 1) ⟨hlt, hlt', ho⟩ (by omega) (into rfl ⟨rfl, rfl, rfl, trivial⟩ ⟨rfl, rfl, trivial⟩ rfl rfl)
          · have hcd' : ¬ (c.toNat : Int) = (d.toNat : Int) := fun e => hcd (UInt8.toNat_inj.1 (by omega))
            rw [if_neg hcd] at ho
            repeat' (first | (refine r_pure hT rfl rfl rfl rfl ?_) | (refine r_new hT rfl rfl rfl rfl ?_) | (refine r_write hT rfl rfl rfl ?_) | (refine r_nil ?_) | (refine q_nil ?_) | (refine q_guard rfl rfl (fun _ => ?_) (fun hx => absurd hltI hx)) | (refine c_yes rfl hltI' ?_) | ((refine r_byte (s := x.s) hT rfl rfl rfl rfl rfl rfl rfl rfl hlt ?_ ; rw [hbx])) | ((refine r_byte (s := y.s) hT rfl rfl rfl rfl rfl rfl rfl rfl hlt' ?_ ; rw [hby])) | (refine c_yes rfl hcd' ?_) | (refine r_arith rfl rfl rfl rfl rfl rfl rfl (by omega) ?_) | (with_reducible refine r_seq ?_) | (with_reducible refine x_then ?_) | (with_reducible refine r_region ?_) | (refine r_draw hM (by kernel_rfl) ?_) | (with_reducible refine r_skip ?_) | (with_reducible refine r_ret ?_) | (with_reducible refine x_then_ret ?_) | (with_reducible refine r_block ?_) | (with_reducible refine x_block ?_) | (with_reducible refine x_block_ret ?_) | (with_reducible refine r_exit ?_) | (with_reducible refine x_then_exit ?_) | (with_reducible refine x_block_here ?_) | (refine x_block_past rfl ?_) | (refine c_yes rfl (by omega) ?_) | (refine c_no rfl (by omega) ?_) | (refine c_no rfl (fun h => h rfl) ?_) | (refine r_cond_false rfl ?_) | (refine r_cond_true rfl ?_) | (refine r_cond_dec rfl (fun _ => ?_) (fun _ => ?_)) | (refine r_cond_true rfl ?_) | (refine r_cond_false rfl ?_) | (refine c_not rfl (fun _ => ?_) (fun _ => ?_)) | (refine r_off rfl rfl rfl ?_))
            exact r_fin hT rfl _ rfl rfl rfl trivial rfl ⟨by rw [ho, decide_eq_decide, UInt8.lt_iff_toNat_lt]; omega, rfl⟩
        · have hltI' : ¬ (i : Int) < (y.s.size : Int) := by omega
          have e2 : y.s.data.toList.drop i = [] := List.drop_of_length_le (by omega)
          rw [e2, lexB_nil'] at ho
          have hno : ¬ (x.s.size : Int) < (y.s.size : Int) := by omega
          repeat' (first | (refine r_pure hT rfl rfl rfl rfl ?_) | (refine r_new hT rfl rfl rfl rfl ?_) | (refine r_write hT rfl rfl rfl ?_) | (refine r_nil ?_) | (refine q_nil ?_) | (refine q_guard rfl rfl (fun _ => ?_) (fun hx => absurd hltI hx)) | (refine c_no rfl hltI' ?_) | (refine r_arith rfl rfl rfl rfl rfl rfl rfl (by omega) ?_) | (with_reducible refine r_seq ?_) | (with_reducible refine x_then ?_) | (with_reducible refine r_region ?_) | (refine r_draw hM (by kernel_rfl) ?_) | (with_reducible refine r_skip ?_) | (with_reducible refine r_ret ?_) | (with_reducible refine x_then_ret ?_) | (with_reducible refine r_block ?_) | (with_reducible refine x_block ?_) | (with_reducible refine x_block_ret ?_) | (with_reducible refine r_exit ?_) | (with_reducible refine x_then_exit ?_) | (with_reducible refine x_block_here ?_) | (refine x_block_past rfl ?_) | (refine c_yes rfl (by omega) ?_) | (refine c_no rfl (by omega) ?_) | (refine c_no rfl (fun h => h rfl) ?_) | (refine r_cond_false rfl ?_) | (refine r_cond_true rfl ?_) | (refine r_cond_dec rfl (fun _ => ?_) (fun _ => ?_)) | (refine r_cond_true rfl ?_) | (refine r_cond_false rfl ?_) | (refine c_not rfl (fun _ => ?_) (fun _ => ?_)) | (refine r_off rfl rfl rfl ?_))
          exact r_fin hT rfl _ rfl rfl rfl trivial rfl ⟨by rw [ho]; exact decide_eq_false hno, rfl⟩
      · have hltI : ¬ (i : Int) < (x.s.size : Int) := by omega
        have e1 : x.s.data.toList.drop i = [] := List.drop_of_length_le (by omega)
        rw [e1, lexB_nil, List.length_drop] at ho
        repeat' (first | (refine r_pure hT rfl rfl rfl rfl ?_) | (refine r_new hT rfl rfl rfl rfl ?_) | (refine r_write hT rfl rfl rfl ?_) | (refine r_nil ?_) | (refine q_nil ?_) | (refine r_offu rfl rfl rfl rfl rfl rfl ?_) | (refine q_guard rfl rfl (fun hx => absurd hx hltI) (fun _ => ?_)) | (refine r_arith rfl rfl rfl rfl rfl rfl rfl (by omega) ?_) | (with_reducible refine r_seq ?_) | (with_reducible refine x_then ?_) | (with_reducible refine r_region ?_) | (refine r_draw hM (by kernel_rfl) ?_) | (with_reducible refine r_skip ?_) | (with_reducible refine r_ret ?_) | (with_reducible refine x_then_ret ?_) | (with_reducible refine r_block ?_) | (with_reducible refine x_block ?_) | (with_reducible refine x_block_ret ?_) | (with_reducible refine r_exit ?_) | (with_reducible refine x_then_exit ?_) | (with_reducible refine x_block_here ?_) | (refine x_block_past rfl ?_) | (refine c_yes rfl (by omega) ?_) | (refine c_no rfl (by omega) ?_) | (refine c_no rfl (fun h => h rfl) ?_) | (refine r_cond_false rfl ?_) | (refine r_cond_true rfl ?_) | (refine r_cond_dec rfl (fun _ => ?_) (fun _ => ?_)) | (refine r_cond_true rfl ?_) | (refine r_cond_false rfl ?_) | (refine c_not rfl (fun _ => ?_) (fun _ => ?_)) | (refine r_off rfl rfl rfl ?_))
        exact r_fin hT rfl _ rfl rfl rfl trivial rfl ⟨by rw [ho, decide_eq_decide]; omega, rfl⟩
    · repeat' (first | (refine r_pure hT rfl rfl rfl rfl ?_) | (refine r_new hT rfl rfl rfl rfl ?_) | (refine r_write hT rfl rfl rfl ?_) | (refine r_nil ?_) | (refine q_nil ?_) | (refine c_no rfl (fun h => h hk) ?_) | (refine c_yes rfl h3 ?_) | (refine r_arith rfl rfl rfl rfl rfl rfl rfl (by omega) ?_) | (with_reducible refine r_seq ?_) | (with_reducible refine x_then ?_) | (with_reducible refine r_region ?_) | (refine r_draw hM (by kernel_rfl) ?_) | (with_reducible refine r_skip ?_) | (with_reducible refine r_ret ?_) | (with_reducible refine x_then_ret ?_) | (with_reducible refine r_block ?_) | (with_reducible refine x_block ?_) | (with_reducible refine x_block_ret ?_) | (with_reducible refine r_exit ?_) | (with_reducible refine x_then_exit ?_) | (with_reducible refine x_block_here ?_) | (refine x_block_past rfl ?_) | (refine c_yes rfl (by omega) ?_) | (refine c_no rfl (by omega) ?_) | (refine c_no rfl (fun h => h rfl) ?_) | (refine r_cond_false rfl ?_) | (refine r_cond_true rfl ?_) | (refine r_cond_dec rfl (fun _ => ?_) (fun _ => ?_)) | (refine r_cond_true rfl ?_) | (refine r_cond_false rfl ?_) | (refine c_not rfl (fun _ => ?_) (fun _ => ?_)) | (refine r_off rfl rfl rfl ?_) | (refine q_guard rfl rfl (fun _ => ?_) (fun _ => ?_)) | (refine q_guardn rfl rfl (fun _ => ?_) (fun _ => ?_)))
      exact r_fin hT rfl _ rfl rfl rfl trivial rfl ⟨by unfold sl; rw [if_pos hk, if_neg h3], rfl⟩
  · repeat' (first | (refine r_pure hT rfl rfl rfl rfl ?_) | (refine r_new hT rfl rfl rfl rfl ?_) | (refine r_write hT rfl rfl rfl ?_) | (refine r_nil ?_) | (refine q_nil ?_) | (refine c_yes rfl hk ?_) | (refine r_arith rfl rfl rfl rfl rfl rfl rfl (by omega) ?_) | (with_reducible refine r_seq ?_) | (with_reducible refine x_then ?_) | (with_reducible refine r_region ?_) | (refine r_draw hM (by kernel_rfl) ?_) | (with_reducible refine r_skip ?_) | (with_reducible refine r_ret ?_) | (with_reducible refine x_then_ret ?_) | (with_reducible refine r_block ?_) | (with_reducible refine x_block ?_) | (with_reducible refine x_block_ret ?_) | (with_reducible refine r_exit ?_) | (with_reducible refine x_then_exit ?_) | (with_reducible refine x_block_here ?_) | (refine x_block_past rfl ?_) | (refine c_yes rfl (by omega) ?_) | (refine c_no rfl (by omega) ?_) | (refine c_no rfl (fun h => h rfl) ?_) | (refine r_cond_false rfl ?_) | (refine r_cond_true rfl ?_) | (refine r_cond_dec rfl (fun _ => ?_) (fun _ => ?_)) | (refine r_cond_true rfl ?_) | (refine r_cond_false rfl ?_) | (refine c_not rfl (fun _ => ?_) (fun _ => ?_)) | (refine r_off rfl rfl rfl ?_) | (refine q_guard rfl rfl (fun _ => ?_) (fun _ => ?_)) | (refine q_guardn rfl rfl (fun _ => ?_) (fun _ => ?_)))
    exact r_fin hT rfl _ rfl rfl rfl trivial rfl ⟨by unfold sl; rw [if_neg hk], rfl⟩
/-- Classes, as the program holds them. -/
def cI (c : List Nat) : List Int := c.map fun x : Nat => (x : Int)
theorem cI_len (c : List Nat) : (cI c).length = c.length := by simp [cI]
theorem cI_get {c : List Nat} {i : Nat} {p : Int} (h : (cI c)[i]? = some p) : p = (at0 c i : Nat) := by
  unfold cI at h
  rw [List.getElem?_map] at h
  unfold at0
  cases e : c[i]? with
  | none => rw [e] at h; cases h
  | some x =>
    rw [e] at h
    rw [List.getD_eq_getElem?_getD, e]
    exact (Option.some.inj h).symm
theorem alike85 (v w : V) (c : List Nat) (A : Option Addr) (n cc : Nat) (h : Hp) (hP : Ints h A n (cI c)) (hv : In c.length v) (hw : In c.length w) :
    Pur Tryd.prog 85 [.ag v.sv, .ag w.sv, .v (.slice A n cc)] h (fun z : Bool => .v (.bool z)) (alike c v w) := by
  have hnn := hP.1
  rw [cI_len] at hnn
  subst hnn
  refine enterS Tryd.func85 rfl (n := 29) rfl rfl (fun k N => ?_)
  by_cases hk : v.k = w.k
  · by_cases h4 : v.k = 4
    · have hv' := hv h4
      have hw' := hw (hk ▸ h4)
      obtain ⟨b, off, p, rfl, hd, hix, hm, hat⟩ := hP.elem Ic_len (i := v.a.toNat) (by rw [cI_len]; omega)
      obtain ⟨b', off', q, e', hd', hix', hm', hat'⟩ := hP.elem Ic_len (i := w.a.toNat) (by rw [cI_len]; omega)
      have e3 := Option.some.inj e'
      simp only [Addr.mk.injEq] at e3
      obtain ⟨rfl, rfl, _⟩ := e3
      obtain rfl := cI_get hix
      obtain rfl := cI_get hix'
      repeat' (first | (refine r_pure hT rfl rfl rfl rfl ?_) | (refine r_new hT rfl rfl rfl rfl ?_) | (refine r_write hT rfl rfl rfl ?_) | (refine r_nil ?_) | (refine q_nil ?_) | (refine c_no rfl (fun h => h hk) ?_) | (refine c_yes rfl h4 ?_) | (refine r_index hT rfl rfl rfl rfl rfl rfl rfl rfl rfl hv'.1 hv'.2 ?_) | (refine r_index hT rfl rfl rfl rfl rfl rfl rfl rfl rfl hw'.1 hw'.2 ?_) | (refine r_load hT hat rfl rfl rfl rfl rfl (Nat.add_zero _).symm rfl rfl rfl rfl rfl ?_) | (refine r_load hT hat' rfl rfl rfl rfl rfl (Nat.add_zero _).symm rfl rfl rfl rfl rfl ?_) | (refine r_arith rfl rfl rfl rfl rfl rfl rfl (by omega) ?_) | (with_reducible refine r_seq ?_) | (with_reducible refine x_then ?_) | (with_reducible refine r_region ?_) | (refine r_draw hM (by kernel_rfl) ?_) | (with_reducible refine r_skip ?_) | (with_reducible refine r_ret ?_) | (with_reducible refine x_then_ret ?_) | (with_reducible refine r_block ?_) | (with_reducible refine x_block ?_) | (with_reducible refine x_block_ret ?_) | (with_reducible refine r_exit ?_) | (with_reducible refine x_then_exit ?_) | (with_reducible refine x_block_here ?_) | (refine x_block_past rfl ?_) | (refine c_yes rfl (by omega) ?_) | (refine c_no rfl (by omega) ?_) | (refine c_no rfl (fun h => h rfl) ?_) | (refine r_cond_false rfl ?_) | (refine r_cond_true rfl ?_) | (refine r_cond_dec rfl (fun _ => ?_) (fun _ => ?_)) | (refine r_cond_true rfl ?_) | (refine r_cond_false rfl ?_) | (refine c_not rfl (fun _ => ?_) (fun _ => ?_)) | (refine r_off rfl rfl rfl ?_) | (refine q_guard rfl rfl (fun _ => ?_) (fun _ => ?_)) | (refine q_guardn rfl rfl (fun _ => ?_) (fun _ => ?_)))
      exact r_fin hT rfl _ rfl rfl rfl trivial rfl ⟨by unfold alike; rw [if_pos hk, if_pos h4, decide_eq_decide]; omega, rfl⟩
    · repeat' (first | (refine r_pure hT rfl rfl rfl rfl ?_) | (refine r_new hT rfl rfl rfl rfl ?_) | (refine r_write hT rfl rfl rfl ?_) | (refine r_nil ?_) | (refine q_nil ?_) | (refine c_no rfl (fun h => h hk) ?_) | (refine c_no rfl h4 ?_) | (refine r_eqs (fun z => eq29f z _ _ _ _ w) (by kernel_rfl) (.inl rfl) rfl rfl rfl rfl rfl rfl rfl rfl ?_) | (refine r_arith rfl rfl rfl rfl rfl rfl rfl (by omega) ?_) | (with_reducible refine r_seq ?_) | (with_reducible refine x_then ?_) | (with_reducible refine r_region ?_) | (refine r_draw hM (by kernel_rfl) ?_) | (with_reducible refine r_skip ?_) | (with_reducible refine r_ret ?_) | (with_reducible refine x_then_ret ?_) | (with_reducible refine r_block ?_) | (with_reducible refine x_block ?_) | (with_reducible refine x_block_ret ?_) | (with_reducible refine r_exit ?_) | (with_reducible refine x_then_exit ?_) | (with_reducible refine x_block_here ?_) | (refine x_block_past rfl ?_) | (refine c_yes rfl (by omega) ?_) | (refine c_no rfl (by omega) ?_) | (refine c_no rfl (fun h => h rfl) ?_) | (refine r_cond_false rfl ?_) | (refine r_cond_true rfl ?_) | (refine r_cond_dec rfl (fun _ => ?_) (fun _ => ?_)) | (refine r_cond_true rfl ?_) | (refine r_cond_false rfl ?_) | (refine c_not rfl (fun _ => ?_) (fun _ => ?_)) | (refine r_off rfl rfl rfl ?_) | (refine q_guard rfl rfl (fun _ => ?_) (fun _ => ?_)) | (refine q_guardn rfl rfl (fun _ => ?_) (fun _ => ?_)))
      exact r_fin hT rfl _ rfl rfl rfl trivial rfl ⟨by unfold alike; rw [if_pos hk, if_neg h4]; exact vEq_dec, rfl⟩
  · repeat' (first | (refine r_pure hT rfl rfl rfl rfl ?_) | (refine r_new hT rfl rfl rfl rfl ?_) | (refine r_write hT rfl rfl rfl ?_) | (refine r_nil ?_) | (refine q_nil ?_) | (refine c_yes rfl hk ?_) | (refine r_arith rfl rfl rfl rfl rfl rfl rfl (by omega) ?_) | (with_reducible refine r_seq ?_) | (with_reducible refine x_then ?_) | (with_reducible refine r_region ?_) | (refine r_draw hM (by kernel_rfl) ?_) | (with_reducible refine r_skip ?_) | (with_reducible refine r_ret ?_) | (with_reducible refine x_then_ret ?_) | (with_reducible refine r_block ?_) | (with_reducible refine x_block ?_) | (with_reducible refine x_block_ret ?_) | (with_reducible refine r_exit ?_) | (with_reducible refine x_then_exit ?_) | (with_reducible refine x_block_here ?_) | (refine x_block_past rfl ?_) | (refine c_yes rfl (by omega) ?_) | (refine c_no rfl (by omega) ?_) | (refine c_no rfl (fun h => h rfl) ?_) | (refine r_cond_false rfl ?_) | (refine r_cond_true rfl ?_) | (refine r_cond_dec rfl (fun _ => ?_) (fun _ => ?_)) | (refine r_cond_true rfl ?_) | (refine r_cond_false rfl ?_) | (refine c_not rfl (fun _ => ?_) (fun _ => ?_)) | (refine r_off rfl rfl rfl ?_) | (refine q_guard rfl rfl (fun _ => ?_) (fun _ => ?_)) | (refine q_guardn rfl rfl (fun _ => ?_) (fun _ => ?_)))
    exact r_fin hT rfl _ rfl rfl rfl trivial rfl ⟨by unfold alike; rw [if_neg hk], rfl⟩
theorem looksB_len {c : List Nat} : ∀ {t t' : List Pr}, t.length ≠ t'.length → looksB c t t' = false
  | [], [], h => absurd rfl h
  | [], q :: t', _ => rfl
  | p :: t, [], _ => rfl
  | p :: t, q :: t', h => by rw [looksB, looksB_len (fun e => h (by simp [e])), Bool.and_false]
theorem looks125 (t t' : List Pr) (c : List Nat) (A1 A2 A : Option Addr) (n1 c1 n2 c2 n cc : Nat) (h : Hp) (h1 : Pairs h A1 n1 t) (h2 : Pairs h A2 n2 t') (hP : Ints h A n (cI c)) (hv : ∀ p ∈ t, In c.length p.val) (hw : ∀ p ∈ t', In c.length p.val) (hl : t.length ≤ 1000000) (hl' : t'.length ≤ 1000000) :
    Pur Tryd.prog 125 [.ag [.v (.slice A1 n1 c1)], .ag [.v (.slice A2 n2 c2)], .v (.slice A n cc)] h (fun z : Bool => .v (.bool z)) (looksB c t t') := by
  obtain rfl := h1.1
  obtain rfl := h2.1
  refine enterS Tryd.func125 rfl (n := 52) rfl rfl (fun k N => ?_)
  by_cases hlen : t.length = t'.length
  · have hlenI : (t.length : Int) = (t'.length : Int) := by omega
    repeat' (first | (refine r_pure hT rfl rfl rfl rfl ?_) | (refine r_new hT rfl rfl rfl rfl ?_) | (refine r_write hT rfl rfl rfl ?_) | (refine r_nil ?_) | (refine q_nil ?_) | (refine c_no rfl (fun h => h hlenI) ?_) | (refine r_arith rfl rfl rfl rfl rfl rfl rfl (by omega) ?_) | (with_reducible refine r_seq ?_) | (with_reducible refine x_then ?_) | (with_reducible refine r_region ?_) | (refine r_draw hM (by kernel_rfl) ?_) | (with_reducible refine r_skip ?_) | (with_reducible refine r_ret ?_) | (with_reducible refine x_then_ret ?_) | (with_reducible refine r_block ?_) | (with_reducible refine x_block ?_) | (with_reducible refine x_block_ret ?_) | (with_reducible refine r_exit ?_) | (with_reducible refine x_then_exit ?_) | (with_reducible refine x_block_here ?_) | (refine x_block_past rfl ?_) | (refine c_yes rfl (by omega) ?_) | (refine c_no rfl (by omega) ?_) | (refine c_no rfl (fun h => h rfl) ?_) | (refine r_cond_false rfl ?_) | (refine r_cond_true rfl ?_) | (refine r_cond_dec rfl (fun _ => ?_) (fun _ => ?_)) | (refine r_cond_true rfl ?_) | (refine r_cond_false rfl ?_) | (refine c_not rfl (fun _ => ?_) (fun _ => ?_)) | (refine r_off rfl rfl rfl ?_) | (refine q_guard rfl rfl (fun _ => ?_) (fun _ => ?_)) | (refine q_guardn rfl rfl (fun _ => ?_) (fun _ => ?_)))
    refine r_loop (γ := Nat) (fun i => i ≤ t.length ∧ looksB c t t' = looksB c (t.drop i) (t'.drop i)) (fun i => [(2, .v (.slice A n cc)), (3, .p 3 0), (4, .p 4 0), (17, .v (.int .i64 (t.length : Int))), (18, .v (.int .i64 (i : Int)))])
      (fun _ => [(4, ⟨none, [.v (.slice A2 t'.length c2)], 59⟩), (3, ⟨none, [.v (.slice A1 t.length c1)], 59⟩)]) (fun _ => h) (fun i => t.length - i)
      0 ⟨Nat.zero_le _, rfl⟩ (into rfl ⟨rfl, rfl, rfl, rfl, rfl, trivial⟩ ⟨rfl, rfl, trivial⟩ rfl rfl) ?_
    rintro i ⟨hi, ho⟩
    by_cases hlt : i < t.length
    · obtain ⟨b, off, p, rfl, hd, hix, hm, hat⟩ := h1.elem Pr.c_len hlt
      obtain ⟨b', off', q, rfl, hd', hix', hm', hat'⟩ := h2.elem Pr.c_len (i := i) (by omega)
      have hlt' : i < t'.length := by omega
      have hal := alike85 p.val q.val c A n cc h hP (hv p hm) (hw q hm')
      rw [hd, hd', looksB] at ho
      by_cases hk : p.key = q.key
      · have heq : ∀ z, (Op.equalIn Op.maxDepth 48 (.agg p.key.c.toArray) (.agg q.key.c.toArray)).run Tryd.prog z = .ok true z := fun z => (eq29f z p.key.k p.key.n p.key.s p.key.a q.key).trans (by rw [decide_eq_true (show ((⟨p.key.k, p.key.n, p.key.s, p.key.a⟩ : V) = q.key) from hk)])
        have hkv : vEq p.key q.key = true := vEq_iff.2 hk
        cases ha : alike c p.val q.val with
        | true =>
          rw [hkv, ha] at ho
          rw [ha] at hal
          repeat' (first | (refine r_pure hT rfl rfl rfl rfl ?_) | (refine r_new hT rfl rfl rfl rfl ?_) | (refine r_write hT rfl rfl rfl ?_) | (refine r_nil ?_) | (refine q_nil ?_) | (refine r_indexN hT rfl rfl rfl rfl rfl rfl rfl rfl rfl (by omega) ?_) | (refine r_load hT hat rfl rfl rfl rfl rfl rfl rfl rfl rfl rfl rfl ?_) | (refine r_load hT hat' rfl rfl rfl rfl rfl rfl rfl rfl rfl rfl rfl ?_) | (refine r_load hT hat rfl rfl rfl rfl rfl (Nat.add_zero _).symm rfl rfl rfl rfl rfl ?_) | (refine r_load hT hat' rfl rfl rfl rfl rfl (Nat.add_zero _).symm rfl rfl rfl rfl rfl ?_) | (refine r_eqs heq (by kernel_rfl) (.inr rfl) rfl rfl rfl rfl rfl rfl rfl rfl ?_) | (refine p_call hal rfl rfl rfl rfl rfl (hC _ rfl) rfl rfl rfl ?_) | (refine r_arith rfl rfl rfl rfl rfl rfl rfl (by omega) ?_) | (with_reducible refine r_seq ?_) | (with_reducible refine x_then ?_) | (with_reducible refine r_region ?_) | (refine r_draw hM (by kernel_rfl) ?_) | (with_reducible refine r_skip ?_) | (with_reducible refine r_ret ?_) | (with_reducible refine x_then_ret ?_) | (with_reducible refine r_block ?_) | (with_reducible refine x_block ?_) | (with_reducible refine x_block_ret ?_) | (with_reducible refine r_exit ?_) | (with_reducible refine x_then_exit ?_) | (with_reducible refine x_block_here ?_) | (refine x_block_past rfl ?_) | (refine c_yes rfl (by omega) ?_) | (refine c_no rfl (by omega) ?_) | (refine c_no rfl (fun h => h rfl) ?_) | (refine r_cond_false rfl ?_) | (refine r_cond_true rfl ?_) | (refine r_cond_dec rfl (fun _ => ?_) (fun _ => ?_)) | (refine r_cond_true rfl ?_) | (refine r_cond_false rfl ?_) | (refine c_not rfl (fun _ => ?_) (fun _ => ?_)) | (refine r_off rfl rfl rfl ?_) | (refine q_guard rfl rfl (fun _ => ?_) (fun _ => ?_)) | (refine q_guardn rfl rfl (fun _ => ?_) (fun _ => ?_)))
          exact x_round (i + 1) ⟨hlt, by simpa using ho⟩ (by omega) (into rfl ⟨rfl, rfl, rfl, rfl, rfl, trivial⟩ ⟨rfl, rfl, trivial⟩ rfl rfl)
        | false =>
          rw [hkv, ha] at ho
          rw [ha] at hal
          repeat' (first | (refine r_pure hT rfl rfl rfl rfl ?_) | (refine r_new hT rfl rfl rfl rfl ?_) | (refine r_write hT rfl rfl rfl ?_) | (refine r_nil ?_) | (refine q_nil ?_) | (refine r_indexN hT rfl rfl rfl rfl rfl rfl rfl rfl rfl (by omega) ?_) | (refine r_load hT hat rfl rfl rfl rfl rfl rfl rfl rfl rfl rfl rfl ?_) | (refine r_load hT hat' rfl rfl rfl rfl rfl rfl rfl rfl rfl rfl rfl ?_) | (refine r_load hT hat rfl rfl rfl rfl rfl (Nat.add_zero _).symm rfl rfl rfl rfl rfl ?_) | (refine r_load hT hat' rfl rfl rfl rfl rfl (Nat.add_zero _).symm rfl rfl rfl rfl rfl ?_) | (refine r_eqs heq (by kernel_rfl) (.inr rfl) rfl rfl rfl rfl rfl rfl rfl rfl ?_) | (refine p_call hal rfl rfl rfl rfl rfl (hC _ rfl) rfl rfl rfl ?_) | (refine r_arith rfl rfl rfl rfl rfl rfl rfl (by omega) ?_) | (with_reducible refine r_seq ?_) | (with_reducible refine x_then ?_) | (with_reducible refine r_region ?_) | (refine r_draw hM (by kernel_rfl) ?_) | (with_reducible refine r_skip ?_) | (with_reducible refine r_ret ?_) | (with_reducible refine x_then_ret ?_) | (with_reducible refine r_block ?_) | (with_reducible refine x_block ?_) | (with_reducible refine x_block_ret ?_) | (with_reducible refine r_exit ?_) | (with_reducible refine x_then_exit ?_) | (with_reducible refine x_block_here ?_) | (refine x_block_past rfl ?_) | (refine c_yes rfl (by omega) ?_) | (refine c_no rfl (by omega) ?_) | (refine c_no rfl (fun h => h rfl) ?_) | (refine r_cond_false rfl ?_) | (refine r_cond_true rfl ?_) | (refine r_cond_dec rfl (fun _ => ?_) (fun _ => ?_)) | (refine r_cond_true rfl ?_) | (refine r_cond_false rfl ?_) | (refine c_not rfl (fun _ => ?_) (fun _ => ?_)) | (refine r_off rfl rfl rfl ?_) | (refine q_guard rfl rfl (fun _ => ?_) (fun _ => ?_)) | (refine q_guardn rfl rfl (fun _ => ?_) (fun _ => ?_)))
          exact r_fin hT rfl (false : Bool) rfl rfl rfl trivial rfl ⟨by simpa using ho.symm, rfl⟩
      · have heq : ∀ z, (Op.equalIn Op.maxDepth 48 (.agg p.key.c.toArray) (.agg q.key.c.toArray)).run Tryd.prog z = .ok false z := fun z => (eq29f z p.key.k p.key.n p.key.s p.key.a q.key).trans (by rw [decide_eq_false (show ¬ ((⟨p.key.k, p.key.n, p.key.s, p.key.a⟩ : V) = q.key) from hk)])
        have hkv : vEq p.key q.key = false := by
          cases e : vEq p.key q.key with
          | false => rfl
          | true => exact absurd (vEq_iff.1 e) hk
        rw [hkv] at ho
        repeat' (first | (refine r_pure hT rfl rfl rfl rfl ?_) | (refine r_new hT rfl rfl rfl rfl ?_) | (refine r_write hT rfl rfl rfl ?_) | (refine r_nil ?_) | (refine q_nil ?_) | (refine r_indexN hT rfl rfl rfl rfl rfl rfl rfl rfl rfl (by omega) ?_) | (refine r_load hT hat rfl rfl rfl rfl rfl rfl rfl rfl rfl rfl rfl ?_) | (refine r_load hT hat' rfl rfl rfl rfl rfl rfl rfl rfl rfl rfl rfl ?_) | (refine r_load hT hat rfl rfl rfl rfl rfl (Nat.add_zero _).symm rfl rfl rfl rfl rfl ?_) | (refine r_load hT hat' rfl rfl rfl rfl rfl (Nat.add_zero _).symm rfl rfl rfl rfl rfl ?_) | (refine r_eqs heq (by kernel_rfl) (.inr rfl) rfl rfl rfl rfl rfl rfl rfl rfl ?_) | (refine p_call hal rfl rfl rfl rfl rfl (hC _ rfl) rfl rfl rfl ?_) | (refine r_arith rfl rfl rfl rfl rfl rfl rfl (by omega) ?_) | (with_reducible refine r_seq ?_) | (with_reducible refine x_then ?_) | (with_reducible refine r_region ?_) | (refine r_draw hM (by kernel_rfl) ?_) | (with_reducible refine r_skip ?_) | (with_reducible refine r_ret ?_) | (with_reducible refine x_then_ret ?_) | (with_reducible refine r_block ?_) | (with_reducible refine x_block ?_) | (with_reducible refine x_block_ret ?_) | (with_reducible refine r_exit ?_) | (with_reducible refine x_then_exit ?_) | (with_reducible refine x_block_here ?_) | (refine x_block_past rfl ?_) | (refine c_yes rfl (by omega) ?_) | (refine c_no rfl (by omega) ?_) | (refine c_no rfl (fun h => h rfl) ?_) | (refine r_cond_false rfl ?_) | (refine r_cond_true rfl ?_) | (refine r_cond_dec rfl (fun _ => ?_) (fun _ => ?_)) | (refine r_cond_true rfl ?_) | (refine r_cond_false rfl ?_) | (refine c_not rfl (fun _ => ?_) (fun _ => ?_)) | (refine r_off rfl rfl rfl ?_) | (refine q_guard rfl rfl (fun _ => ?_) (fun _ => ?_)) | (refine q_guardn rfl rfl (fun _ => ?_) (fun _ => ?_)))
        exact r_fin hT rfl (false : Bool) rfl rfl rfl trivial rfl ⟨by simpa using ho.symm, rfl⟩
    · obtain rfl : i = t.length := by omega
      rw [List.drop_length, List.drop_of_length_le (by omega)] at ho
      repeat' (first | (refine r_pure hT rfl rfl rfl rfl ?_) | (refine r_new hT rfl rfl rfl rfl ?_) | (refine r_write hT rfl rfl rfl ?_) | (refine r_nil ?_) | (refine q_nil ?_) | (refine r_arith rfl rfl rfl rfl rfl rfl rfl (by omega) ?_) | (with_reducible refine r_seq ?_) | (with_reducible refine x_then ?_) | (with_reducible refine r_region ?_) | (refine r_draw hM (by kernel_rfl) ?_) | (with_reducible refine r_skip ?_) | (with_reducible refine r_ret ?_) | (with_reducible refine x_then_ret ?_) | (with_reducible refine r_block ?_) | (with_reducible refine x_block ?_) | (with_reducible refine x_block_ret ?_) | (with_reducible refine r_exit ?_) | (with_reducible refine x_then_exit ?_) | (with_reducible refine x_block_here ?_) | (refine x_block_past rfl ?_) | (refine c_yes rfl (by omega) ?_) | (refine c_no rfl (by omega) ?_) | (refine c_no rfl (fun h => h rfl) ?_) | (refine r_cond_false rfl ?_) | (refine r_cond_true rfl ?_) | (refine r_cond_dec rfl (fun _ => ?_) (fun _ => ?_)) | (refine r_cond_true rfl ?_) | (refine r_cond_false rfl ?_) | (refine c_not rfl (fun _ => ?_) (fun _ => ?_)) | (refine r_off rfl rfl rfl ?_) | (refine q_guard rfl rfl (fun _ => ?_) (fun _ => ?_)) | (refine q_guardn rfl rfl (fun _ => ?_) (fun _ => ?_)))
      exact r_fin hT rfl (true : Bool) rfl rfl rfl trivial rfl ⟨ho.symm, rfl⟩
  · have hlenI : ¬ (t.length : Int) = (t'.length : Int) := by omega
    repeat' (first | (refine r_pure hT rfl rfl rfl rfl ?_) | (refine r_new hT rfl rfl rfl rfl ?_) | (refine r_write hT rfl rfl rfl ?_) | (refine r_nil ?_) | (refine q_nil ?_) | (refine c_yes rfl hlenI ?_) | (refine r_arith rfl rfl rfl rfl rfl rfl rfl (by omega) ?_) | (with_reducible refine r_seq ?_) | (with_reducible refine x_then ?_) | (with_reducible refine r_region ?_) | (refine r_draw hM (by kernel_rfl) ?_) | (with_reducible refine r_skip ?_) | (with_reducible refine r_ret ?_) | (with_reducible refine x_then_ret ?_) | (with_reducible refine r_block ?_) | (with_reducible refine x_block ?_) | (with_reducible refine x_block_ret ?_) | (with_reducible refine r_exit ?_) | (with_reducible refine x_then_exit ?_) | (with_reducible refine x_block_here ?_) | (refine x_block_past rfl ?_) | (refine c_yes rfl (by omega) ?_) | (refine c_no rfl (by omega) ?_) | (refine c_no rfl (fun h => h rfl) ?_) | (refine r_cond_false rfl ?_) | (refine r_cond_true rfl ?_) | (refine r_cond_dec rfl (fun _ => ?_) (fun _ => ?_)) | (refine r_cond_true rfl ?_) | (refine r_cond_false rfl ?_) | (refine c_not rfl (fun _ => ?_) (fun _ => ?_)) | (refine r_off rfl rfl rfl ?_) | (refine q_guard rfl rfl (fun _ => ?_) (fun _ => ?_)) | (refine q_guardn rfl rfl (fun _ => ?_) (fun _ => ?_)))
    exact r_fin hT rfl (false : Bool) rfl rfl rfl trivial rfl ⟨(looksB_len hlen).symm, rfl⟩
end Go.Proofs.YtkamfnmbidnhdaaDoor
/- Well-made graphs and the order of keys; what stays well made when tables are told by their classes. Plain; no condition. -/
namespace Go.Proofs.YtkamfnmbidnhdaaDoor
open Go.Sy
set_option linter.unusedVariables false
theorem ky_of {v : V} (h : KOk v) : Ky v := by
  obtain ⟨hk, h⟩ := h
  rcases h with ⟨a, _⟩ | ⟨a, b, c, d⟩ | ⟨a, c, d⟩ | ⟨a, b, c, d⟩ | ⟨a, b, c, d, e⟩
  · omega
  · exact ⟨by omega, by omega, fun x => by omega, fun _ => by rw [← ByteArray.toList_eq]; exact c, d⟩
  · exact ⟨by omega, by omega, fun x => by omega, fun _ => by rw [← ByteArray.toList_eq]; exact c, d⟩
  · exact ⟨by omega, by omega, fun x => b, fun x => absurd a x, c⟩
  · omega
theorem tv_of {v : V} {n : Nat} (h : VOk v n) : Tv v := fun h4 => by
  rcases h with ⟨a, _⟩ | ⟨a, b, c, d⟩ | ⟨a, c, d⟩ | ⟨a, b, c, d⟩ | ⟨a, b, c, d, e⟩
  · omega
  · omega
  · omega
  · omega
  · exact ⟨b, by rw [← ByteArray.toList_eq]; exact c⟩
theorem tok_srt {t : List Pr} {n : Nat} (h : TOk t n) : TOk (srt t) n :=
  ⟨by rw [(srt_perm t).length_eq]; exact h.1, fun p hp => h.2.1 p ((srt_perm t).mem_iff.1 hp), ((srt_perm t).map _).nodup_iff.2 h.2.2⟩
theorem tok_uniq {t ys : List Pr} {n : Nat} (h : TOk t n) (h1 : ys.Perm t) (h2 : Srt ys) : ys = srt t := srt_of (fun p hp => ky_of (h.2.1 p hp).1) h.2.2 h1 h2
def CIn (n : Nat) (c : List Nat) : Prop := ∀ i, i < n → at0 c i < n
theorem good_cin {n : Nat} {c : List Nat} (h : GoodC n c) : CIn n c := fun i hi => Nat.lt_of_le_of_lt (h.le i hi) hi
theorem vok_lk {c : List Nat} {n : Nat} {v : V} (h : VOk v n) (hc : CIn n c) : VOk (lk c v) n := by
  unfold lk
  split
  · rename_i h4
    rcases h with ⟨a, _⟩ | ⟨a, b, c, d⟩ | ⟨a, c, d⟩ | ⟨a, b, c, d⟩ | ⟨a, b, c, d, e⟩
    · omega
    · omega
    · omega
    · omega
    · have := hc v.a.toNat (by omega)
      unfold at0 at this
      exact .inr (.inr (.inr (.inr ⟨h4, b, c, by simp only; omega, by simp only; omega⟩)))
  · exact h
theorem lk_k (c : List Nat) (v : V) : (lk c v).k = v.k := by unfold lk; split <;> rfl
theorem tok_look {c : List Nat} {n : Nat} {t : List Pr} (h : TOk t n) (hc : CIn n c) : TOk (lookT c t) n := by
  refine ⟨by simp only [lookT, List.length_map]; exact h.1, fun p hp => ?_, ?_⟩
  · obtain ⟨q, hq, rfl⟩ := List.mem_map.1 hp
    obtain ⟨h1, h2, h3⟩ := h.2.1 q hq
    exact ⟨h1, vok_lk h2 hc, by rw [lk_k]; exact h3⟩
  · have : (lookT c t).map (·.key) = t.map (·.key) := by simp [lookT]
    rw [this]; exact h.2.2
theorem gok_look {c : List Nat} {v : V} {ts : List (List Pr)} (h : GOk v ts) (hc : CIn ts.length c) : GOk (lk c v) (ts.map fun t => lookT c (srt t)) := by
  refine ⟨by simp only [List.length_map]; exact h.1, by rw [List.length_map]; exact vok_lk h.2.1 hc, fun t ht => ?_⟩
  obtain ⟨t', ht', rfl⟩ := List.mem_map.1 ht
  rw [List.length_map]
  exact tok_look (tok_srt (h.2.2 t' ht')) hc
theorem allin_srt {ts : List (List Pr)} (h : AllIn ts) : AllIn (ts.map srt) := fun t ht p hp => by
  obtain ⟨t', ht', rfl⟩ := List.mem_map.1 ht
  rw [List.length_map]
  exact h t' ht' p ((srt_perm t').mem_iff.1 hp)
end Go.Proofs.YtkamfnmbidnhdaaDoor
/- spec.l3sorted: the pairs of a table, put in the order of their keys one by one. No condition. -/
namespace Go.Proofs.YtkamfnmbidnhdaaDoor
open Go.Sy
set_option maxRecDepth 100000
set_option maxHeartbeats 4000000
set_option linter.unusedVariables false
set_option linter.unusedSimpArgs false
theorem r_predN {F : Fr} {tm : Tm} {L : Lm} {u : Hp} {P : Program} {Q : Exit → Act → World → Prop} {qq : Md} {l : List Oper} {o : Oper} {r : List Oper} {d : Nat} {t t' : TypeId} {x y : Operand} {p : Nat} (hw : wantE l tm o = some true) (ho : o.dst = some d) (hn : Nat.blt d F.n.z = true)
    (hop : o.op = .binOp .sub t x y t') (hx : ev tm x = some (.v (.int .i64 ((p + 1 : Nat) : Int)))) (hy : ev tm y = some (.v (.int .i64 1))) (hr : p ≤ 1000000000)
    (next : Run P Q F ((d, .v (.int .i64 (p : Int))) :: tm) L u qq l r) : Run P Q F tm L u qq l (o :: r) :=
  r_arith (c := (p : Int)) hw ho hn hop hx hy (by show some (((p + 1 : Nat) : Int) - 1) = some (p : Int); congr 1; omega) (by omega) next
theorem Pr.one (ps : List Pr) : ∀ v ∈ ps.flatMap Pr.c, Go.Sy.one v = true := fun v hv => by
  obtain ⟨x, _, hx⟩ := List.mem_flatMap.1 hv
  simp only [Pr.c, List.mem_cons, List.not_mem_nil, or_false] at hx
  rcases hx with rfl | rfl | rfl | rfl | rfl | rfl | rfl | rfl <;> rfl
theorem own_shift {u : Hp} {A : Option Addr} {n c e sz : Nat} {pre l : List Value} {p : Pr} (h : Own u A n c e sz (pre ++ (p.c ++ l))) : Own u A n c e sz ((pre ++ p.c) ++ l) := by rw [List.append_assoc]; exact h
theorem own_eq {u : Hp} {A : Option Addr} {n c e sz : Nat} {cs ds : List Value} (h : Own u A n c e sz cs) (e1 : cs = ds) : Own u A n c e sz ds := e1 ▸ h
theorem own_pairs {u : Hp} {A : Option Addr} {n c e : Nat} {ps : List Pr} (h : Own u A n c e 8 (ps.flatMap Pr.c)) : Pairs u A n ps := ⟨by have := h.len; rw [flat_length Pr.c_len] at this; omega, h.sl⟩
theorem sorted90 (t : List Pr) (A : Option Addr) (n c : Nat) (h : Hp) (hP : Pairs h A n t) (hk : ∀ p ∈ t, Ky p.key ∧ p.key.s.size ≤ 1000000) (hl : t.length ≤ 1000000) :
    TriS Tryd.prog 90 [.ag [.v (.slice A n c)]] [] h (fun y : Option Addr × Nat => .ag [.v (.slice y.1 t.length y.2)]) (fun _ => []) (fun y h' => ∃ ys : List Pr, ys.Perm t ∧ Srt ys ∧ Own h' y.1 t.length y.2 61 8 (ys.flatMap Pr.c) ∧ Le h h' ∧ Off h y.1) := by
  obtain rfl := hP.1
  refine enterS Tryd.func90 rfl (n := 70) rfl rfl (fun k N => ?_)
  repeat' (first | (refine r_pure hT rfl rfl rfl rfl ?_) | (refine r_new hT rfl rfl rfl rfl ?_) | (refine r_write hT rfl rfl rfl ?_) | (refine r_nil ?_) | (refine q_nil ?_) | (refine r_arith rfl rfl rfl rfl rfl rfl rfl (by omega) ?_) | (with_reducible refine r_seq ?_) | (with_reducible refine x_then ?_) | (with_reducible refine r_region ?_) | (refine r_draw hM (by kernel_rfl) ?_) | (with_reducible refine r_skip ?_) | (with_reducible refine r_ret ?_) | (with_reducible refine x_then_ret ?_) | (with_reducible refine r_block ?_) | (with_reducible refine x_block ?_) | (with_reducible refine x_block_ret ?_) | (with_reducible refine r_exit ?_) | (with_reducible refine x_then_exit ?_) | (with_reducible refine x_block_here ?_) | (refine x_block_past rfl ?_) | (refine c_yes rfl (by omega) ?_) | (refine c_no rfl (by omega) ?_) | (refine c_no rfl (fun h => h rfl) ?_) | (refine r_cond_false rfl ?_) | (refine r_cond_true rfl ?_) | (refine r_cond_dec rfl (fun _ => ?_) (fun _ => ?_)) | (refine r_cond_true rfl ?_) | (refine r_cond_false rfl ?_) | (refine c_not rfl (fun _ => ?_) (fun _ => ?_)) | (refine r_off rfl rfl rfl ?_) | (refine q_guard rfl rfl (fun _ => ?_) (fun _ => ?_)) | (refine q_guardn rfl rfl (fun _ => ?_) (fun _ => ?_)))
  refine r_loop (γ := (Nat × Hp) × ((Option Addr × Nat) × List Pr)) (fun g => g.1.1 ≤ t.length ∧ g.2.2.Perm (t.take g.1.1) ∧ Srt g.2.2 ∧ Own g.1.2 g.2.1.1 g.1.1 g.2.1.2 61 8 (g.2.2.flatMap Pr.c) ∧ Le h g.1.2 ∧ Off h g.2.1.1)
    (fun g => [(2, .p 2 0), (3, .p 3 0), (10, .v (.slice A t.length c)), (11, .v (.int .i64 (t.length : Int))), (12, .v (.int .i64 (g.1.1 : Int)))])
    (fun g => [(3, ⟨none, [.v (.slice g.2.1.1 g.1.1 g.2.1.2)], 59⟩), (2, ⟨none, [.v (.slice none 0 0)], 59⟩)]) (fun g => g.1.2) (fun g => t.length - g.1.1)
    ((0, h), ((none, 0), [])) ⟨Nat.zero_le _, List.Perm.refl _, List.Pairwise.nil, own_nil, Le.refl h, off_nil⟩ (into rfl ⟨rfl, rfl, rfl, rfl, rfl, trivial⟩ ⟨rfl, rfl, trivial⟩ rfl rfl) ?_
  rintro ⟨⟨i, v⟩, ⟨⟨Ay, cy⟩, ys⟩⟩ ⟨hi, hpm, hsr, hO, hle, hoff⟩
  dsimp only at *
  by_cases hlt : i < t.length
  · obtain ⟨b, off, p, rfl, hd, hix, hm, hat⟩ := (hP.le hle).elem Pr.c_len hlt
    have hys : ys.length = i := by rw [hpm.length_eq]; simp; omega
    have hpk := hk p hm
    have hyk : ∀ q ∈ ys, Ky q.key ∧ q.key.s.size ≤ 1000000 := fun q hq => hk q (List.mem_of_mem_take (hpm.mem_iff.1 hq))
    repeat' (first | (refine r_pure hT rfl rfl rfl rfl ?_) | (refine r_new hT rfl rfl rfl rfl ?_) | (refine r_write hT rfl rfl rfl ?_) | (refine r_nil ?_) | (refine q_nil ?_) | (refine r_indexN hT rfl rfl rfl rfl rfl rfl rfl rfl rfl (by omega) ?_) | (refine r_load hT hat rfl rfl rfl rfl rfl (Nat.add_zero _).symm rfl rfl rfl rfl rfl ?_) | (refine r_bslice hT (ps := [(0, .tmp 18)]) rfl rfl rfl rfl rfl rfl rfl (by simp) rfl rfl (by decide) (fun b3 hb3 => ?_)) | ((refine r_append hT (cs := ys.flatMap Pr.c) (news := [p].flatMap Pr.c) rfl rfl rfl rfl rfl rfl rfl rfl rfl rfl rfl (own_fr hO hb3) (sl_blk (upd_here ..) rfl) (Pr.one _) (by dsimp only; omega) (by omega) (fun A' c' u3 hO3 hG3 => ?_))) | (refine r_predN rfl rfl rfl rfl rfl rfl (by omega) ?_) | (refine r_arith rfl rfl rfl rfl rfl rfl rfl (by omega) ?_) | (with_reducible refine r_seq ?_) | (with_reducible refine x_then ?_) | (with_reducible refine r_region ?_) | (refine r_draw hM (by kernel_rfl) ?_) | (with_reducible refine r_skip ?_) | (with_reducible refine r_ret ?_) | (with_reducible refine x_then_ret ?_) | (with_reducible refine r_block ?_) | (with_reducible refine x_block ?_) | (with_reducible refine x_block_ret ?_) | (with_reducible refine r_exit ?_) | (with_reducible refine x_then_exit ?_) | (with_reducible refine x_block_here ?_) | (refine x_block_past rfl ?_) | (refine c_yes rfl (by omega) ?_) | (refine c_no rfl (by omega) ?_) | (refine c_no rfl (fun h => h rfl) ?_) | (refine r_cond_false rfl ?_) | (refine r_cond_true rfl ?_) | (refine r_cond_dec rfl (fun _ => ?_) (fun _ => ?_)) | (refine r_cond_true rfl ?_) | (refine r_cond_false rfl ?_) | (refine c_not rfl (fun _ => ?_) (fun _ => ?_)) | (refine r_off rfl rfl rfl ?_) | (refine q_guard rfl rfl (fun _ => ?_) (fun _ => ?_)) | (refine q_guardn rfl rfl (fun _ => ?_) (fun _ => ?_)))
    have hu3 := hG3 h (le_frsh hle hb3) hoff
    refine r_loop (γ := (List Pr × List Pr) × (Nat × Hp)) (fun g => g.1.1 ++ g.1.2 = ys ∧ g.1.1.length = g.2.1 ∧ (∀ q ∈ g.1.2, kl p.key q.key = true) ∧ Own g.2.2 A' (i + 1) c' 61 8 ((g.1.1 ++ p :: g.1.2).flatMap Pr.c) ∧ ∀ x, blk A' ≠ some x → g.2.2 x = u3 x)
      (fun g => [(2, .p 2 0), (3, .p 3 0), (6, .v (.int .i64 (g.2.1 : Int))), (10, .v (.slice (some ⟨b, off, none⟩) t.length c)), (11, .v (.int .i64 (t.length : Int))), (12, .v (.int .i64 (i : Int)))])
      (fun g => [(3, ⟨none, [.v (.slice A' (i + 1) c')], 59⟩), (2, ⟨none, [.v (.slice none 0 0)], 59⟩)]) (fun g => g.2.2) (fun g => g.2.1)
      ((ys, []), (i, u3)) ⟨by simp, hys, fun q hq => (by cases hq), own_eq hO3 (by simp), fun _ _ => rfl⟩ (into rfl ⟨rfl, rfl, rfl, rfl, rfl, rfl, trivial⟩ ⟨rfl, rfl, trivial⟩ rfl rfl) ?_
    rintro ⟨⟨Y, B⟩, ⟨kk, w⟩⟩ ⟨hYB, hYk, hB, hOw, hKw⟩
    dsimp only at *
    have fin : (Y = [] ∨ ∃ z, Y.getLast? = some z ∧ kl p.key z.key = false) → (Y ++ p :: B).Perm (t.take (i + 1)) ∧ Srt (Y ++ p :: B) := fun hz => by
      refine ⟨?_, ?_⟩
      · rw [take_snoc hix]
        refine List.perm_middle.trans ?_
        rw [hYB]
        exact ((List.perm_cons p).2 hpm).trans (List.perm_append_singleton p _).symm
      · refine srt_ins (by rw [hYB]; exact hsr) hB (fun q hq => ?_)
        rcases hz with rfl | ⟨z, hz1, hz2⟩
        · cases hq
        · rw [hz1] at hq; rw [← Option.some.inj hq]; exact hz2
    have hlw : Le h w := fun x o hx => by
      rw [hKw x (fun e => by rw [hu3.2 x e] at hx; cases hx)]
      exact hu3.1 x o hx
    rcases List.eq_nil_or_concat Y with rfl | ⟨Y0, z, rfl⟩
    · have hz : ¬ ((kk : Int) > 0) := by rw [List.length_nil] at hYk; omega
      repeat' (first | (refine r_pure hT rfl rfl rfl rfl ?_) | (refine r_new hT rfl rfl rfl rfl ?_) | (refine r_write hT rfl rfl rfl ?_) | (refine r_nil ?_) | (refine q_nil ?_) | (refine r_offu rfl rfl rfl rfl rfl rfl ?_) | (refine q_guard rfl rfl (fun hx => absurd hx hz) (fun _ => ?_)) | (refine r_arith rfl rfl rfl rfl rfl rfl rfl (by omega) ?_) | (with_reducible refine r_seq ?_) | (with_reducible refine x_then ?_) | (with_reducible refine r_region ?_) | (refine r_draw hM (by kernel_rfl) ?_) | (with_reducible refine r_skip ?_) | (with_reducible refine r_ret ?_) | (with_reducible refine x_then_ret ?_) | (with_reducible refine r_block ?_) | (with_reducible refine x_block ?_) | (with_reducible refine x_block_ret ?_) | (with_reducible refine r_exit ?_) | (with_reducible refine x_then_exit ?_) | (with_reducible refine x_block_here ?_) | (refine x_block_past rfl ?_) | (refine c_yes rfl (by omega) ?_) | (refine c_no rfl (by omega) ?_) | (refine c_no rfl (fun h => h rfl) ?_) | (refine r_cond_false rfl ?_) | (refine r_cond_true rfl ?_) | (refine r_cond_dec rfl (fun _ => ?_) (fun _ => ?_)) | (refine r_cond_true rfl ?_) | (refine r_cond_false rfl ?_) | (refine c_not rfl (fun _ => ?_) (fun _ => ?_)) | (refine r_off rfl rfl rfl ?_))
      obtain ⟨f1, f2⟩ := fin (.inl rfl)
      exact x_round ((i + 1, w), ((A', c'), p :: B)) ⟨hlt, f1, f2, hOw, hlw, hu3.2⟩ (by dsimp only; omega) (into rfl ⟨rfl, rfl, rfl, rfl, rfl, trivial⟩ ⟨rfl, rfl, trivial⟩ rfl rfl)
    · rw [List.concat_eq_append] at *
      obtain ⟨k', hk'⟩ : ∃ k', kk = k' + 1 := ⟨Y0.length, by rw [← hYk]; simp⟩
      subst hk'
      have hY0 : Y0.length = k' := by simpa using hYk
      have hz : (((k' + 1 : Nat) : Int) > 0) := by omega
      have hmz : z ∈ ys := by rw [← hYB]; simp
      have hki : k' + 1 < i + 1 := by
        have e1 := congrArg List.length hYB
        rw [hys] at e1
        simp only [List.length_append, List.length_cons, List.length_nil] at e1
        omega
      have hrl : ((Y0 ++ [z]) ++ p :: B).length = i + 1 := by
        have e1 := congrArg List.length hYB
        rw [hys] at e1
        simp only [List.length_append, List.length_cons, List.length_nil] at e1 ⊢
        omega
      obtain ⟨b2, off2, p', rfl, _, hixp, _, hatp⟩ := (own_pairs hOw).elem Pr.c_len (i := k' + 1) (by rw [hrl]; omega)
      obtain ⟨b4, off4, z', e4, _, hixz, _, hatz⟩ := (own_pairs hOw).elem Pr.c_len (i := k') (by rw [hrl]; omega)
      have e5 := Option.some.inj e4
      simp only [Addr.mk.injEq] at e5
      obtain ⟨rfl, rfl, _⟩ := e5
      have ep : p' = p := by
        rw [List.getElem?_append_right (by simp; omega)] at hixp
        simp [hY0] at hixp
        exact hixp.symm
      have ez : z' = z := by
        rw [List.append_assoc, List.getElem?_append_right (by omega)] at hixz
        simp [hY0] at hixz
        exact hixz.symm
      rw [ep] at hatp
      rw [ez] at hatz
      have hL := less129 p.key z.key w hpk.2 (hyk z hmz).2
      rw [sl_kl hpk.1 (hyk z hmz).1] at hL
      cases hkl : kl p.key z.key with
      | false =>
        rw [hkl] at hL
        repeat' (first | (refine r_pure hT rfl rfl rfl rfl ?_) | (refine r_new hT rfl rfl rfl rfl ?_) | (refine r_write hT rfl rfl rfl ?_) | (refine r_nil ?_) | (refine q_nil ?_) | (refine q_guard rfl rfl (fun _ => ?_) (fun hx => absurd hz hx)) | (refine r_predN rfl rfl rfl rfl rfl rfl (by omega) ?_) | (refine r_indexN hT rfl rfl rfl rfl rfl rfl rfl rfl rfl (by omega) ?_) | (refine r_load hT hatp rfl rfl rfl rfl rfl rfl rfl rfl rfl rfl rfl ?_) | (refine r_load hT hatz rfl rfl rfl rfl rfl rfl rfl rfl rfl rfl rfl ?_) | (refine r_load hT hatp rfl rfl rfl rfl rfl (Nat.add_zero _).symm rfl rfl rfl rfl rfl ?_) | (refine r_load hT hatz rfl rfl rfl rfl rfl (Nat.add_zero _).symm rfl rfl rfl rfl rfl ?_) | (refine p_call hL rfl rfl rfl rfl rfl (hC _ rfl) rfl rfl rfl ?_) | (refine r_arith rfl rfl rfl rfl rfl rfl rfl (by omega) ?_) | (with_reducible refine r_seq ?_) | (with_reducible refine x_then ?_) | (with_reducible refine r_region ?_) | (refine r_draw hM (by kernel_rfl) ?_) | (with_reducible refine r_skip ?_) | (with_reducible refine r_ret ?_) | (with_reducible refine x_then_ret ?_) | (with_reducible refine r_block ?_) | (with_reducible refine x_block ?_) | (with_reducible refine x_block_ret ?_) | (with_reducible refine r_exit ?_) | (with_reducible refine x_then_exit ?_) | (with_reducible refine x_block_here ?_) | (refine x_block_past rfl ?_) | (refine c_yes rfl (by omega) ?_) | (refine c_no rfl (by omega) ?_) | (refine c_no rfl (fun h => h rfl) ?_) | (refine r_cond_false rfl ?_) | (refine r_cond_true rfl ?_) | (refine r_cond_dec rfl (fun _ => ?_) (fun _ => ?_)) | (refine r_cond_true rfl ?_) | (refine r_cond_false rfl ?_) | (refine c_not rfl (fun _ => ?_) (fun _ => ?_)) | (refine r_off rfl rfl rfl ?_))
        obtain ⟨f1, f2⟩ := fin (.inr ⟨z, by simp, hkl⟩)
        exact x_round ((i + 1, w), ((_, c'), (Y0 ++ [z]) ++ p :: B)) ⟨hlt, f1, f2, hOw, hlw, hu3.2⟩ (by dsimp only; omega) (into rfl ⟨rfl, rfl, rfl, rfl, rfl, trivial⟩ ⟨rfl, rfl, trivial⟩ rfl rfl)
      | true =>
        rw [hkl] at hL
        have hO1 : Own w (some ⟨b2, off2, none⟩) (i + 1) c' 61 8 (Y0.flatMap Pr.c ++ (z.c ++ (p.c ++ B.flatMap Pr.c))) := own_eq hOw (by simp)
        have hK1 : ∀ x, x ≠ b2 → w x = u3 x := fun x hx => hKw x (fun e => hx (Option.some.inj e).symm)
        have hq1 : off2 + k' * 8 = off2 + (Y0.flatMap Pr.c).length := by rw [flat_length Pr.c_len, hY0]
        have hq2 : off2 + (k' + 1) * 8 = off2 + (Y0.flatMap Pr.c ++ p.c).length := by rw [List.length_append, flat_length Pr.c_len, hY0, Pr.c_len]; omega
        repeat' (first | (refine r_pure hT rfl rfl rfl rfl ?_) | (refine r_new hT rfl rfl rfl rfl ?_) | (refine r_write hT rfl rfl rfl ?_) | (refine r_nil ?_) | (refine q_nil ?_) | (refine q_guard rfl rfl (fun _ => ?_) (fun hx => absurd hz hx)) | (refine r_predN rfl rfl rfl rfl rfl rfl (by omega) ?_) | (refine r_indexN hT rfl rfl rfl rfl rfl rfl rfl rfl rfl (by omega) ?_) | (refine r_load hT hatp rfl rfl rfl rfl rfl rfl rfl rfl rfl rfl rfl ?_) | (refine r_load hT hatz rfl rfl rfl rfl rfl rfl rfl rfl rfl rfl rfl ?_) | (refine r_load hT hatp rfl rfl rfl rfl rfl (Nat.add_zero _).symm rfl rfl rfl rfl rfl ?_) | (refine r_load hT hatz rfl rfl rfl rfl rfl (Nat.add_zero _).symm rfl rfl rfl rfl rfl ?_) | (refine p_call hL rfl rfl rfl rfl rfl (hC _ rfl) rfl rfl rfl ?_) | ((refine r_store_row0 hT hO1 hK1 rfl rfl rfl rfl hq1 rfl rfl rfl rfl rfl rfl rfl (fun u4 hO4 hK4 => ?_) ; replace hO4 := own_shift (p := p) (l := p.c ++ B.flatMap Pr.c) hO4)) | (refine r_store_row0 hT hO4 hK4 rfl rfl rfl rfl hq2 rfl rfl rfl rfl rfl rfl rfl (fun u5 hO5 hK5 => ?_)) | (refine r_arith rfl rfl rfl rfl rfl rfl rfl (by omega) ?_) | (with_reducible refine r_seq ?_) | (with_reducible refine x_then ?_) | (with_reducible refine r_region ?_) | (refine r_draw hM (by kernel_rfl) ?_) | (with_reducible refine r_skip ?_) | (with_reducible refine r_ret ?_) | (with_reducible refine x_then_ret ?_) | (with_reducible refine r_block ?_) | (with_reducible refine x_block ?_) | (with_reducible refine x_block_ret ?_) | (with_reducible refine r_exit ?_) | (with_reducible refine x_then_exit ?_) | (with_reducible refine x_block_here ?_) | (refine x_block_past rfl ?_) | (refine c_yes rfl (by omega) ?_) | (refine c_no rfl (by omega) ?_) | (refine c_no rfl (fun h => h rfl) ?_) | (refine r_cond_false rfl ?_) | (refine r_cond_true rfl ?_) | (refine r_cond_dec rfl (fun _ => ?_) (fun _ => ?_)) | (refine r_cond_true rfl ?_) | (refine r_cond_false rfl ?_) | (refine c_not rfl (fun _ => ?_) (fun _ => ?_)) | (refine r_off rfl rfl rfl ?_))
        refine x_round ((Y0, z :: B), (k', u5)) ⟨by rw [← hYB]; simp, hY0, fun q hq => ?_, own_eq (ds := (Y0 ++ p :: z :: B).flatMap Pr.c) hO5 (by simp [Pr.c]), fun x hx => hK5 x (fun e => hx (by rw [e]; rfl))⟩ (by dsimp only; omega)
          (into rfl ⟨rfl, rfl, rfl, rfl, rfl, rfl, trivial⟩ ⟨rfl, rfl, trivial⟩ rfl rfl)
        rcases List.mem_cons.1 hq with rfl | hq
        · exact hkl
        · exact hB q hq
  · obtain rfl : i = t.length := by omega
    rw [List.take_length] at hpm
    repeat' (first | (refine r_pure hT rfl rfl rfl rfl ?_) | (refine r_new hT rfl rfl rfl rfl ?_) | (refine r_write hT rfl rfl rfl ?_) | (refine r_nil ?_) | (refine q_nil ?_) | (refine r_arith rfl rfl rfl rfl rfl rfl rfl (by omega) ?_) | (with_reducible refine r_seq ?_) | (with_reducible refine x_then ?_) | (with_reducible refine r_region ?_) | (refine r_draw hM (by kernel_rfl) ?_) | (with_reducible refine r_skip ?_) | (with_reducible refine r_ret ?_) | (with_reducible refine x_then_ret ?_) | (with_reducible refine r_block ?_) | (with_reducible refine x_block ?_) | (with_reducible refine x_block_ret ?_) | (with_reducible refine r_exit ?_) | (with_reducible refine x_then_exit ?_) | (with_reducible refine x_block_here ?_) | (refine x_block_past rfl ?_) | (refine c_yes rfl (by omega) ?_) | (refine c_no rfl (by omega) ?_) | (refine c_no rfl (fun h => h rfl) ?_) | (refine r_cond_false rfl ?_) | (refine r_cond_true rfl ?_) | (refine r_cond_dec rfl (fun _ => ?_) (fun _ => ?_)) | (refine r_cond_true rfl ?_) | (refine r_cond_false rfl ?_) | (refine c_not rfl (fun _ => ?_) (fun _ => ?_)) | (refine r_off rfl rfl rfl ?_) | (refine q_guard rfl rfl (fun _ => ?_) (fun _ => ?_)) | (refine q_guardn rfl rfl (fun _ => ?_) (fun _ => ?_)))
    exact r_fin hT rfl (Ay, cy) rfl rfl rfl trivial rfl ⟨ys, hpm, hsr, hO, hle, hoff⟩
end Go.Proofs.YtkamfnmbidnhdaaDoor
/- slices.SortFunc at pairs and at values by the shelf's own theorem: written by the kit's lay-plain. No condition. -/
namespace Go.Proofs
open Go.Shelf
def Tryd.sortPr_ren : Go.Shelf.Ren := ⟨fun | 6 => 117 | 15 => 121 | 14 => 145 | 28 => 154 | 29 => 155 | 20 => 170 | 21 => 171 | 22 => 172 | 23 => 173 | 24 => 174 | 25 => 175 | 26 => 176 | 27 => 177 | 46 => 188 | 47 => 179 | 48 => 180 | 49 => 189 | 50 => 190 | 57 => 194 | n => n, fun | 22 => 57 | 24 => 61 | 25 => 158 | 3 => 3 | 39 => 162 | 0 => 0 | 53 => 190 | 55 => 120 | 4 => 4 | 46 => 184 | 45 => 183 | 50 => 144 | 5 => 5 | 9 => 9 | 66 => 210 | 70 => 214 | 76 => 222 | 77 => 223 | n => n, fun | n => n⟩
theorem Tryd.sortPr : Go.Proofs.SlLaysF0.n6 Tryd.prog Tryd.sortPr_ren := {
  mixed := by kernel_rfl
  f6 := ⟨Tryd.f117.name, by decide, Tryd.func117.trans (congrArg some (by kernel_rfl))⟩
  f14 := ⟨Tryd.f145.name, by decide, Tryd.func145.trans (congrArg some (by kernel_rfl))⟩
  f15 := Tryd.func121.trans (congrArg some (by kernel_rfl))
  f20 := ⟨Tryd.f170.name, by decide, Tryd.func170.trans (congrArg some (by kernel_rfl))⟩
  f21 := ⟨Tryd.f171.name, by decide, Tryd.func171.trans (congrArg some (by kernel_rfl))⟩
  f22 := ⟨Tryd.f172.name, by decide, Tryd.func172.trans (congrArg some (by kernel_rfl))⟩
  f23 := ⟨Tryd.f173.name, by decide, Tryd.func173.trans (congrArg some (by kernel_rfl))⟩
  f24 := ⟨Tryd.f174.name, by decide, Tryd.func174.trans (congrArg some (by kernel_rfl))⟩
  f25 := ⟨Tryd.f175.name, by decide, Tryd.func175.trans (congrArg some (by kernel_rfl))⟩
  f26 := ⟨Tryd.f176.name, by decide, Tryd.func176.trans (congrArg some (by kernel_rfl))⟩
  f27 := ⟨Tryd.f177.name, by decide, Tryd.func177.trans (congrArg some (by kernel_rfl))⟩
  f28 := Tryd.func154.trans (congrArg some (by kernel_rfl))
  f29 := Tryd.func155.trans (congrArg some (by kernel_rfl))
  f46 := ⟨Tryd.f188.name, by decide, Tryd.func188.trans (congrArg some (by kernel_rfl))⟩
  f47 := Tryd.func179.trans (congrArg some (by kernel_rfl))
  f48 := Tryd.func180.trans (congrArg some (by kernel_rfl))
  f49 := ⟨Tryd.f189.name, by decide, Tryd.func189.trans (congrArg some (by kernel_rfl))⟩
  f50 := ⟨Tryd.f190.name, by decide, Tryd.func190.trans (congrArg some (by kernel_rfl))⟩
  f57 := ⟨Tryd.f194.name, by decide, Tryd.func194.trans (congrArg some (by kernel_rfl))⟩
  t0 := Tryd.underlying0
  a0 := Tryd.isAgg0
  z0 := Tryd.sizeOf0
  v0 := Tryd.zeroValue0
  t3 := Tryd.underlying3
  a3 := Tryd.isAgg3
  z3 := Tryd.sizeOf3
  v3 := Tryd.zeroValue3
  t4 := Tryd.underlying4
  a4 := Tryd.isAgg4
  z4 := Tryd.sizeOf4
  v4 := Tryd.zeroValue4
  t5 := Tryd.underlying5
  a5 := Tryd.isAgg5
  z5 := Tryd.sizeOf5
  v5 := Tryd.zeroValue5
  t9 := Tryd.underlying9
  a9 := Tryd.isAgg9
  z9 := Tryd.sizeOf9
  v9 := Tryd.zeroValue9
  t22 := Tryd.underlying57
  a22 := Tryd.isAgg57
  z22 := Tryd.sizeOf57
  v22 := Tryd.zeroValue57
  t25 := Tryd.underlying158
  a25 := Tryd.isAgg158
  z25 := Tryd.sizeOf158
  v25 := Tryd.zeroValue158
  t39 := Tryd.underlying162
  a39 := Tryd.isAgg162
  z39 := Tryd.sizeOf162
  v39 := Tryd.zeroValue162
  t45 := Tryd.underlying183
  a45 := Tryd.isAgg183
  z45 := Tryd.sizeOf183
  v45 := Tryd.zeroValue183
  t46 := Tryd.underlying184
  a46 := Tryd.isAgg184
  z46 := Tryd.sizeOf184
  v46 := Tryd.zeroValue184
  t50 := Tryd.underlying144
  a50 := Tryd.isAgg144
  z50 := Tryd.sizeOf144
  v50 := Tryd.zeroValue144
  t53 := Tryd.underlying190
  a53 := Tryd.isAgg190
  z53 := Tryd.sizeOf190
  v53 := Tryd.zeroValue190
  t55 := Tryd.underlying120
  a55 := Tryd.isAgg120
  z55 := Tryd.sizeOf120
  v55 := Tryd.zeroValue120
  t66 := Tryd.underlying210
  a66 := Tryd.isAgg210
  z66 := Tryd.sizeOf210
  v66 := Tryd.zeroValue210
  t70 := Tryd.underlying214
  a70 := Tryd.isAgg214
  z70 := Tryd.sizeOf214
  v70 := Tryd.zeroValue214
  t76 := Tryd.underlying222
  a76 := Tryd.isAgg222
  z76 := Tryd.sizeOf222
  v76 := Tryd.zeroValue222
  t77 := Tryd.underlying223
  a77 := Tryd.isAgg223
  z77 := Tryd.sizeOf223
  v77 := Tryd.zeroValue223 }
end Go.Proofs
