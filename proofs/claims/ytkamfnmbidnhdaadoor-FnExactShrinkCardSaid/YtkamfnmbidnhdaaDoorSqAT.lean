/- spec.l2less, spec.l3alike, spec.l3looks. No condition. -/
import Derived.Test.YtkamfnmbidnhdaaDoorSqAM
import Derived.Test.YtkamfnmbidnhdaaDoorSqAR
import Derived.Test.YtkamfnmbidnhdaaDoorSqAS
import Derived.Test.YtkamfnmbidnhdaaDoorSqAK
set_option linter.unusedVariables false
set_option linter.unusedSimpArgs false
set_option linter.unusedSectionVars false
namespace Go.Proofs.YtkamfnmbidnhdaaDoor
open Go.Sy
set_option maxRecDepth 100000
set_option maxHeartbeats 4000000
set_option linter.unusedVariables false
set_option linter.unusedSimpArgs false
theorem lexB_nil (b : List UInt8) : lexB [] b = decide (0 < b.length) := by cases b <;> simp [lexB]
theorem lexB_nil' (a : List UInt8) : lexB a [] = false := by cases a <;> rfl
theorem less129 (x y : V) (h : Hp) (hs : x.s.size ≤ 1000000) (hs' : y.s.size ≤ 1000000) : Pur Tryd.prog 129 [.ag x.sv, .ag y.sv] h (fun z : Bool => .v (.bool z)) (sl x y) := by
  refine enterS Tryd.func129 rfl (n := 63) rfl rfl (fun k N => ?_)
  have hlx : x.s.data.toList.length = x.s.size := Array.length_toList
  have hly : y.s.data.toList.length = y.s.size := Array.length_toList
  by_cases hk : x.k = y.k
  · by_cases h3 : x.k = 3
    · have hsl : sl x y = lexB x.s.data.toList y.s.data.toList := by unfold sl; rw [if_pos hk, if_pos h3]
      repeat' (first | (refine r_pure hT rfl rfl rfl rfl ?_) | (refine r_new hT rfl rfl rfl rfl ?_) | (refine r_write hT rfl rfl rfl ?_) | (refine r_nil ?_) | (refine q_nil ?_) | (refine c_no rfl (fun h => h hk) ?_) | (refine c_no rfl (fun h => h h3) ?_) | (refine r_arith rfl rfl rfl rfl rfl rfl rfl (by omega) ?_) | (with_reducible refine r_seq ?_) | (with_reducible refine x_then ?_) | (with_reducible refine r_region ?_) | (refine r_draw hM (by kernel_rfl) ?_) | (with_reducible refine r_skip ?_) | (with_reducible refine r_ret ?_) | (with_reducible refine x_then_ret ?_) | (with_reducible refine r_block ?_) | (with_reducible refine x_block ?_) | (with_reducible refine x_block_ret ?_) | (with_reducible refine r_exit ?_) | (with_reducible refine x_then_exit ?_) | (with_reducible refine x_block_here ?_) | (refine x_block_past rfl ?_) | (refine c_yes rfl (by omega) ?_) | (refine c_no rfl (by omega) ?_) | (refine c_no rfl (fun h => h rfl) ?_) | (refine r_cond_false rfl ?_) | (refine r_cond_true rfl ?_) | (refine r_cond_dec rfl (fun _ => ?_) (fun _ => ?_)) | (refine r_cond_true rfl ?_) | (refine r_cond_false rfl ?_) | (refine c_not rfl (fun _ => ?_) (fun _ => ?_)) | (refine r_off rfl rfl rfl ?_) | (refine q_guard rfl rfl (fun _ => ?_) (fun _ => ?_)) | (refine q_guardn rfl rfl (fun _ => ?_) (fun _ => ?_)))
      refine r_loop (γ := Nat) (fun i => i ≤ x.s.size ∧ i ≤ y.s.size ∧ sl x y = lexB (x.s.data.toList.drop i) (y.s.data.toList.drop i)) (fun i => [(2, .p 2 0), (3, .p 3 0), (5, .v (.int .i64 (i : Int)))]) (fun _ => [(3, ⟨none, y.sv, 48⟩), (2, ⟨none, x.sv, 48⟩)]) (fun _ => h) (fun i => x.s.size - i)
        0 ⟨Nat.zero_le _, Nat.zero_le _, hsl⟩ (into rfl ⟨rfl, rfl, rfl, trivial⟩ ⟨rfl, rfl, trivial⟩ rfl rfl) ?_
      rintro i ⟨hi, hi', ho⟩
      by_cases hlt : i < x.s.size
      · have hltI : (i : Int) < (x.s.size : Int) := by omega
        obtain ⟨c, hc⟩ : ∃ c, x.s.data.toList[i]? = some c := ⟨_, List.getElem?_eq_getElem (by omega)⟩
        have hdx : x.s.data.toList.drop i = c :: x.s.data.toList.drop (i + 1) := by
          obtain ⟨g1, g2⟩ := List.getElem?_eq_some_iff.1 hc
          rw [List.drop_eq_getElem_cons g1, g2]
        by_cases hlt' : i < y.s.size
        · have hltI' : (i : Int) < (y.s.size : Int) := by omega
          obtain ⟨d, hd⟩ : ∃ d, y.s.data.toList[i]? = some d := ⟨_, List.getElem?_eq_getElem (by omega)⟩
          have hdy : y.s.data.toList.drop i = d :: y.s.data.toList.drop (i + 1) := by
            obtain ⟨g1, g2⟩ := List.getElem?_eq_some_iff.1 hd
            rw [List.drop_eq_getElem_cons g1, g2]
          rw [hdx, hdy, lexB] at ho
          have hbx := byt_at hc
          have hby := byt_at hd
          by_cases hcd : c = d
          · have hcd' : (c.toNat : Int) = (d.toNat : Int) := by rw [hcd]
            rw [if_pos hcd] at ho
            repeat' (first | (refine r_pure hT rfl rfl rfl rfl ?_) | (refine r_new hT rfl rfl rfl rfl ?_) | (refine r_write hT rfl rfl rfl ?_) | (refine r_nil ?_) | (refine q_nil ?_) | (refine q_guard rfl rfl (fun _ => ?_) (fun hx => absurd hltI hx)) | (refine c_yes rfl hltI' ?_) | ((refine r_byte (s := x.s) hT rfl rfl rfl rfl rfl rfl rfl rfl hlt ?_ ; rw [hbx])) | ((refine r_byte (s := y.s) hT rfl rfl rfl rfl rfl rfl rfl rfl hlt' ?_ ; rw [hby])) | (refine c_no rfl (fun h => h hcd') ?_) | (refine r_arith rfl rfl rfl rfl rfl rfl rfl (by omega) ?_) | (with_reducible refine r_seq ?_) | (with_reducible refine x_then ?_) | (with_reducible refine r_region ?_) | (refine r_draw hM (by kernel_rfl) ?_) | (with_reducible refine r_skip ?_) | (with_reducible refine r_ret ?_) | (with_reducible refine x_then_ret ?_) | (with_reducible refine r_block ?_) | (with_reducible refine x_block ?_) | (with_reducible refine x_block_ret ?_) | (with_reducible refine r_exit ?_) | (with_reducible refine x_then_exit ?_) | (with_reducible refine x_block_here ?_) | (refine x_block_past rfl ?_) | (refine c_yes rfl (by omega) ?_) | (refine c_no rfl (by omega) ?_) | (refine c_no rfl (fun h => h rfl) ?_) | (refine r_cond_false rfl ?_) | (refine r_cond_true rfl ?_) | (refine r_cond_dec rfl (fun _ => ?_) (fun _ => ?_)) | (refine r_cond_true rfl ?_) | (refine r_cond_false rfl ?_) | (refine c_not rfl (fun _ => ?_) (fun _ => ?_)) | (refine r_off rfl rfl rfl ?_))
            exact x_round (i + 1) ⟨hlt, hlt', ho⟩ (by omega) (into rfl ⟨rfl, rfl, rfl, trivial⟩ ⟨rfl, rfl, trivial⟩ rfl rfl)
          · have hcd' : ¬ (c.toNat : Int) = (d.toNat : Int) := fun e => hcd (UInt8.toNat_inj.1 (by omega))
            rw [if_neg hcd] at ho
            repeat' (first | (refine r_pure hT rfl rfl rfl rfl ?_) | (refine r_new hT rfl rfl rfl rfl ?_) | (refine r_write hT rfl rfl rfl ?_) | (refine r_nil ?_) | (refine q_nil ?_) | (refine q_guard rfl rfl (fun _ => ?_) (fun hx => absurd hltI hx)) | (refine c_yes rfl hltI' ?_) | ((refine r_byte (s := x.s) hT rfl rfl rfl rfl rfl rfl rfl rfl hlt ?_ ; rw [hbx])) | ((refine r_byte (s := y.s) hT rfl rfl rfl rfl rfl rfl rfl rfl hlt' ?_ ; rw [hby])) | (refine c_yes rfl hcd' ?_) | (refine r_arith rfl rfl rfl rfl rfl rfl rfl (by omega) ?_) | (with_reducible refine r_seq ?_) | (with_reducible refine x_then ?_) | (with_reducible refine r_region ?_) | (refine r_draw hM (by kernel_rfl) ?_) | (with_reducible refine r_skip ?_) | (with_reducible refine r_ret ?_) | (with_reducible refine x_then_ret ?_) | (with_reducible refine r_block ?_) | (with_reducible refine x_block ?_) | (with_reducible refine x_block_ret ?_) | (with_reducible refine r_exit ?_) | (with_reducible refine x_then_exit ?_) | (with_reducible refine x_block_here ?_) | (refine x_block_past rfl ?_) | (refine c_yes rfl (by omega) ?_) | (refine c_no rfl (by omega) ?_) | (refine c_no rfl (fun h => h rfl) ?_) | (refine r_cond_false rfl ?_) | (refine r_cond_true rfl ?_) | (refine r_cond_dec rfl (fun _ => ?_) (fun _ => ?_)) | (refine r_cond_true rfl ?_) | (refine r_cond_false rfl ?_) | (refine c_not rfl (fun _ => ?_) (fun _ => ?_)) | (refine r_off rfl rfl rfl ?_))
            exact r_fin hT rfl _ rfl rfl rfl trivial rfl ⟨by rw [ho, decide_eq_decide, UInt8.lt_iff_toNat_lt]; omega, rfl⟩
        · have hltI' : ¬ (i : Int) < (y.s.size : Int) := by omega
          have e2 : y.s.data.toList.drop i = [] := List.drop_of_length_le (by omega)
          rw [e2, lexB_nil'] at ho
          have hno : ¬ (x.s.size : Int) < (y.s.size : Int) := by omega
          repeat' (first | (refine r_pure hT rfl rfl rfl rfl ?_) | (refine r_new hT rfl rfl rfl rfl ?_) | (refine r_write hT rfl rfl rfl ?_) | (refine r_nil ?_) | (refine q_nil ?_) | (refine q_guard rfl rfl (fun _ => ?_) (fun hx => absurd hltI hx)) | (refine c_no rfl hltI' ?_) | (refine r_arith rfl rfl rfl rfl rfl rfl rfl (by omega) ?_) | (with_reducible refine r_seq ?_) | (with_reducible refine x_then ?_) | (with_reducible refine r_region ?_) | (refine r_draw hM (by kernel_rfl) ?_) | (with_reducible refine r_skip ?_) | (with_reducible refine r_ret ?_) | (with_reducible refine x_then_ret ?_) | (with_reducible refine r_block ?_) | (with_reducible refine x_block ?_) | (with_reducible refine x_block_ret ?_) | (with_reducible refine r_exit ?_) | (with_reducible refine x_then_exit ?_) | (with_reducible refine x_block_here ?_) | (refine x_block_past rfl ?_) | (refine c_yes rfl (by omega) ?_) | (refine c_no rfl (by omega) ?_) | (refine c_no rfl (fun h => h rfl) ?_) | (refine r_cond_false rfl ?_) | (refine r_cond_true rfl ?_) | (refine r_cond_dec rfl (fun _ => ?_) (fun _ => ?_)) | (refine r_cond_true rfl ?_) | (refine r_cond_false rfl ?_) | (refine c_not rfl (fun _ => ?_) (fun _ => ?_)) | (refine r_off rfl rfl rfl ?_))
          exact r_fin hT rfl _ rfl rfl rfl trivial rfl ⟨by rw [ho]; exact decide_eq_false hno, rfl⟩
      · have hltI : ¬ (i : Int) < (x.s.size : Int) := by omega
        have e1 : x.s.data.toList.drop i = [] := List.drop_of_length_le (by omega)
        rw [e1, lexB_nil, List.length_drop] at ho
        repeat' (first | (refine r_pure hT rfl rfl rfl rfl ?_) | (refine r_new hT rfl rfl rfl rfl ?_) | (refine r_write hT rfl rfl rfl ?_) | (refine r_nil ?_) | (refine q_nil ?_) | (refine r_offu rfl rfl rfl rfl rfl rfl ?_) | (refine q_guard rfl rfl (fun hx => absurd hx hltI) (fun _ => ?_)) | (refine r_arith rfl rfl rfl rfl rfl rfl rfl (by omega) ?_) | (with_reducible refine r_seq ?_) | (with_reducible refine x_then ?_) | (with_reducible refine r_region ?_) | (refine r_draw hM (by kernel_rfl) ?_) | (with_reducible refine r_skip ?_) | (with_reducible refine r_ret ?_) | (with_reducible refine x_then_ret ?_) | (with_reducible refine r_block ?_) | (with_reducible refine x_block ?_) | (with_reducible refine x_block_ret ?_) | (with_reducible refine r_exit ?_) | (with_reducible refine x_then_exit ?_) | (with_reducible refine x_block_here ?_) | (refine x_block_past rfl ?_) | (refine c_yes rfl (by omega) ?_) | (refine c_no rfl (by omega) ?_) | (refine c_no rfl (fun h => h rfl) ?_) | (refine r_cond_false rfl ?_) | (refine r_cond_true rfl ?_) | (refine r_cond_dec rfl (fun _ => ?_) (fun _ => ?_)) | (refine r_cond_true rfl ?_) | (refine r_cond_false rfl ?_) | (refine c_not rfl (fun _ => ?_) (fun _ => ?_)) | (refine r_off rfl rfl rfl ?_))
        exact r_fin hT rfl _ rfl rfl rfl trivial rfl ⟨by rw [ho, decide_eq_decide]; omega, rfl⟩
    · repeat' (first | (refine r_pure hT rfl rfl rfl rfl ?_) | (refine r_new hT rfl rfl rfl rfl ?_) | (refine r_write hT rfl rfl rfl ?_) | (refine r_nil ?_) | (refine q_nil ?_) | (refine c_no rfl (fun h => h hk) ?_) | (refine c_yes rfl h3 ?_) | (refine r_arith rfl rfl rfl rfl rfl rfl rfl (by omega) ?_) | (with_reducible refine r_seq ?_) | (with_reducible refine x_then ?_) | (with_reducible refine r_region ?_) | (refine r_draw hM (by kernel_rfl) ?_) | (with_reducible refine r_skip ?_) | (with_reducible refine r_ret ?_) | (with_reducible refine x_then_ret ?_) | (with_reducible refine r_block ?_) | (with_reducible refine x_block ?_) | (with_reducible refine x_block_ret ?_) | (with_reducible refine r_exit ?_) | (with_reducible refine x_then_exit ?_) | (with_reducible refine x_block_here ?_) | (refine x_block_past rfl ?_) | (refine c_yes rfl (by omega) ?_) | (refine c_no rfl (by omega) ?_) | (refine c_no rfl (fun h => h rfl) ?_) | (refine r_cond_false rfl ?_) | (refine r_cond_true rfl ?_) | (refine r_cond_dec rfl (fun _ => ?_) (fun _ => ?_)) | (refine r_cond_true rfl ?_) | (refine r_cond_false rfl ?_) | (refine c_not rfl (fun _ => ?_) (fun _ => ?_)) | (refine r_off rfl rfl rfl ?_) | (refine q_guard rfl rfl (fun _ => ?_) (fun _ => ?_)) | (refine q_guardn rfl rfl (fun _ => ?_) (fun _ => ?_)))
      exact r_fin hT rfl _ rfl rfl rfl trivial rfl ⟨by unfold sl; rw [if_pos hk, if_neg h3], rfl⟩
  · repeat' (first | (refine r_pure hT rfl rfl rfl rfl ?_) | (refine r_new hT rfl rfl rfl rfl ?_) | (refine r_write hT rfl rfl rfl ?_) | (refine r_nil ?_) | (refine q_nil ?_) | (refine c_yes rfl hk ?_) | (refine r_arith rfl rfl rfl rfl rfl rfl rfl (by omega) ?_) | (with_reducible refine r_seq ?_) | (with_reducible refine x_then ?_) | (with_reducible refine r_region ?_) | (refine r_draw hM (by kernel_rfl) ?_) | (with_reducible refine r_skip ?_) | (with_reducible refine r_ret ?_) | (with_reducible refine x_then_ret ?_) | (with_reducible refine r_block ?_) | (with_reducible refine x_block ?_) | (with_reducible refine x_block_ret ?_) | (with_reducible refine r_exit ?_) | (with_reducible refine x_then_exit ?_) | (with_reducible refine x_block_here ?_) | (refine x_block_past rfl ?_) | (refine c_yes rfl (by omega) ?_) | (refine c_no rfl (by omega) ?_) | (refine c_no rfl (fun h => h rfl) ?_) | (refine r_cond_false rfl ?_) | (refine r_cond_true rfl ?_) | (refine r_cond_dec rfl (fun _ => ?_) (fun _ => ?_)) | (refine r_cond_true rfl ?_) | (refine r_cond_false rfl ?_) | (refine c_not rfl (fun _ => ?_) (fun _ => ?_)) | (refine r_off rfl rfl rfl ?_) | (refine q_guard rfl rfl (fun _ => ?_) (fun _ => ?_)) | (refine q_guardn rfl rfl (fun _ => ?_) (fun _ => ?_)))
    exact r_fin hT rfl _ rfl rfl rfl trivial rfl ⟨by unfold sl; rw [if_neg hk], rfl⟩
/-- Classes, as the program holds them. -/
def cI (c : List Nat) : List Int := c.map fun x : Nat => (x : Int)
theorem cI_len (c : List Nat) : (cI c).length = c.length := by simp [cI]
theorem cI_get {c : List Nat} {i : Nat} {p : Int} (h : (cI c)[i]? = some p) : p = (at0 c i : Nat) := by
  unfold cI at h
  rw [List.getElem?_map] at h
  unfold at0
  cases e : c[i]? with
  | none => rw [e] at h; cases h
  | some x =>
    rw [e] at h
    rw [List.getD_eq_getElem?_getD, e]
    exact (Option.some.inj h).symm
theorem alike85 (v w : V) (c : List Nat) (A : Option Addr) (n cc : Nat) (h : Hp) (hP : Ints h A n (cI c)) (hv : In c.length v) (hw : In c.length w) :
    Pur Tryd.prog 85 [.ag v.sv, .ag w.sv, .v (.slice A n cc)] h (fun z : Bool => .v (.bool z)) (alike c v w) := by
  have hnn := hP.1
  rw [cI_len] at hnn
  subst hnn
  refine enterS Tryd.func85 rfl (n := 29) rfl rfl (fun k N => ?_)
  by_cases hk : v.k = w.k
  · by_cases h4 : v.k = 4
    · have hv' := hv h4
      have hw' := hw (hk ▸ h4)
      obtain ⟨b, off, p, rfl, hd, hix, hm, hat⟩ := hP.elem Ic_len (i := v.a.toNat) (by rw [cI_len]; omega)
      obtain ⟨b', off', q, e', hd', hix', hm', hat'⟩ := hP.elem Ic_len (i := w.a.toNat) (by rw [cI_len]; omega)
      have e3 := Option.some.inj e'
      simp only [Addr.mk.injEq] at e3
      obtain ⟨rfl, rfl, _⟩ := e3
      obtain rfl := cI_get hix
      obtain rfl := cI_get hix'
      repeat' (first | (refine r_pure hT rfl rfl rfl rfl ?_) | (refine r_new hT rfl rfl rfl rfl ?_) | (refine r_write hT rfl rfl rfl ?_) | (refine r_nil ?_) | (refine q_nil ?_) | (refine c_no rfl (fun h => h hk) ?_) | (refine c_yes rfl h4 ?_) | (refine r_index hT rfl rfl rfl rfl rfl rfl rfl rfl rfl hv'.1 hv'.2 ?_) | (refine r_index hT rfl rfl rfl rfl rfl rfl rfl rfl rfl hw'.1 hw'.2 ?_) | (refine r_load hT hat rfl rfl rfl rfl rfl (Nat.add_zero _).symm rfl rfl rfl rfl rfl ?_) | (refine r_load hT hat' rfl rfl rfl rfl rfl (Nat.add_zero _).symm rfl rfl rfl rfl rfl ?_) | (refine r_arith rfl rfl rfl rfl rfl rfl rfl (by omega) ?_) | (with_reducible refine r_seq ?_) | (with_reducible refine x_then ?_) | (with_reducible refine r_region ?_) | (refine r_draw hM (by kernel_rfl) ?_) | (with_reducible refine r_skip ?_) | (with_reducible refine r_ret ?_) | (with_reducible refine x_then_ret ?_) | (with_reducible refine r_block ?_) | (with_reducible refine x_block ?_) | (with_reducible refine x_block_ret ?_) | (with_reducible refine r_exit ?_) | (with_reducible refine x_then_exit ?_) | (with_reducible refine x_block_here ?_) | (refine x_block_past rfl ?_) | (refine c_yes rfl (by omega) ?_) | (refine c_no rfl (by omega) ?_) | (refine c_no rfl (fun h => h rfl) ?_) | (refine r_cond_false rfl ?_) | (refine r_cond_true rfl ?_) | (refine r_cond_dec rfl (fun _ => ?_) (fun _ => ?_)) | (refine r_cond_true rfl ?_) | (refine r_cond_false rfl ?_) | (refine c_not rfl (fun _ => ?_) (fun _ => ?_)) | (refine r_off rfl rfl rfl ?_) | (refine q_guard rfl rfl (fun _ => ?_) (fun _ => ?_)) | (refine q_guardn rfl rfl (fun _ => ?_) (fun _ => ?_)))
      exact r_fin hT rfl _ rfl rfl rfl trivial rfl ⟨by unfold alike; rw [if_pos hk, if_pos h4, decide_eq_decide]; omega, rfl⟩
    · repeat' (first | (refine r_pure hT rfl rfl rfl rfl ?_) | (refine r_new hT rfl rfl rfl rfl ?_) | (refine r_write hT rfl rfl rfl ?_) | (refine r_nil ?_) | (refine q_nil ?_) | (refine c_no rfl (fun h => h hk) ?_) | (refine c_no rfl h4 ?_) | (refine r_eqs (fun z => eq29f z _ _ _ _ w) (by kernel_rfl) (.inl rfl) rfl rfl rfl rfl rfl rfl rfl rfl ?_) | (refine r_arith rfl rfl rfl rfl rfl rfl rfl (by omega) ?_) | (with_reducible refine r_seq ?_) | (with_reducible refine x_then ?_) | (with_reducible refine r_region ?_) | (refine r_draw hM (by kernel_rfl) ?_) | (with_reducible refine r_skip ?_) | (with_reducible refine r_ret ?_) | (with_reducible refine x_then_ret ?_) | (with_reducible refine r_block ?_) | (with_reducible refine x_block ?_) | (with_reducible refine x_block_ret ?_) | (with_reducible refine r_exit ?_) | (with_reducible refine x_then_exit ?_) | (with_reducible refine x_block_here ?_) | (refine x_block_past rfl ?_) | (refine c_yes rfl (by omega) ?_) | (refine c_no rfl (by omega) ?_) | (refine c_no rfl (fun h => h rfl) ?_) | (refine r_cond_false rfl ?_) | (refine r_cond_true rfl ?_) | (refine r_cond_dec rfl (fun _ => ?_) (fun _ => ?_)) | (refine r_cond_true rfl ?_) | (refine r_cond_false rfl ?_) | (refine c_not rfl (fun _ => ?_) (fun _ => ?_)) | (refine r_off rfl rfl rfl ?_) | (refine q_guard rfl rfl (fun _ => ?_) (fun _ => ?_)) | (refine q_guardn rfl rfl (fun _ => ?_) (fun _ => ?_)))
      exact r_fin hT rfl _ rfl rfl rfl trivial rfl ⟨by unfold alike; rw [if_pos hk, if_neg h4]; exact vEq_dec, rfl⟩
  · repeat' (first | (refine r_pure hT rfl rfl rfl rfl ?_) | (refine r_new hT rfl rfl rfl rfl ?_) | (refine r_write hT rfl rfl rfl ?_) | (refine r_nil ?_) | (refine q_nil ?_) | (refine c_yes rfl hk ?_) | (refine r_arith rfl rfl rfl rfl rfl rfl rfl (by omega) ?_) | (with_reducible refine r_seq ?_) | (with_reducible refine x_then ?_) | (with_reducible refine r_region ?_) | (refine r_draw hM (by kernel_rfl) ?_) | (with_reducible refine r_skip ?_) | (with_reducible refine r_ret ?_) | (with_reducible refine x_then_ret ?_) | (with_reducible refine r_block ?_) | (with_reducible refine x_block ?_) | (with_reducible refine x_block_ret ?_) | (with_reducible refine r_exit ?_) | (with_reducible refine x_then_exit ?_) | (with_reducible refine x_block_here ?_) | (refine x_block_past rfl ?_) | (refine c_yes rfl (by omega) ?_) | (refine c_no rfl (by omega) ?_) | (refine c_no rfl (fun h => h rfl) ?_) | (refine r_cond_false rfl ?_) | (refine r_cond_true rfl ?_) | (refine r_cond_dec rfl (fun _ => ?_) (fun _ => ?_)) | (refine r_cond_true rfl ?_) | (refine r_cond_false rfl ?_) | (refine c_not rfl (fun _ => ?_) (fun _ => ?_)) | (refine r_off rfl rfl rfl ?_) | (refine q_guard rfl rfl (fun _ => ?_) (fun _ => ?_)) | (refine q_guardn rfl rfl (fun _ => ?_) (fun _ => ?_)))
    exact r_fin hT rfl _ rfl rfl rfl trivial rfl ⟨by unfold alike; rw [if_neg hk], rfl⟩
theorem looksB_len {c : List Nat} : ∀ {t t' : List Pr}, t.length ≠ t'.length → looksB c t t' = false
  | [], [], h => absurd rfl h
  | [], q :: t', _ => rfl
  | p :: t, [], _ => rfl
  | p :: t, q :: t', h => by rw [looksB, looksB_len (fun e => h (by simp [e])), Bool.and_false]
theorem looks125 (t t' : List Pr) (c : List Nat) (A1 A2 A : Option Addr) (n1 c1 n2 c2 n cc : Nat) (h : Hp) (h1 : Pairs h A1 n1 t) (h2 : Pairs h A2 n2 t') (hP : Ints h A n (cI c)) (hv : ∀ p ∈ t, In c.length p.val) (hw : ∀ p ∈ t', In c.length p.val) (hl : t.length ≤ 1000000) (hl' : t'.length ≤ 1000000) :
    Pur Tryd.prog 125 [.ag [.v (.slice A1 n1 c1)], .ag [.v (.slice A2 n2 c2)], .v (.slice A n cc)] h (fun z : Bool => .v (.bool z)) (looksB c t t') := by
  obtain rfl := h1.1
  obtain rfl := h2.1
  refine enterS Tryd.func125 rfl (n := 52) rfl rfl (fun k N => ?_)
  by_cases hlen : t.length = t'.length
  · have hlenI : (t.length : Int) = (t'.length : Int) := by omega
    repeat' (first | (refine r_pure hT rfl rfl rfl rfl ?_) | (refine r_new hT rfl rfl rfl rfl ?_) | (refine r_write hT rfl rfl rfl ?_) | (refine r_nil ?_) | (refine q_nil ?_) | (refine c_no rfl (fun h => h hlenI) ?_) | (refine r_arith rfl rfl rfl rfl rfl rfl rfl (by omega) ?_) | (with_reducible refine r_seq ?_) | (with_reducible refine x_then ?_) | (with_reducible refine r_region ?_) | (refine r_draw hM (by kernel_rfl) ?_) | (with_reducible refine r_skip ?_) | (with_reducible refine r_ret ?_) | (with_reducible refine x_then_ret ?_) | (with_reducible refine r_block ?_) | (with_reducible refine x_block ?_) | (with_reducible refine x_block_ret ?_) | (with_reducible refine r_exit ?_) | (with_reducible refine x_then_exit ?_) | (with_reducible refine x_block_here ?_) | (refine x_block_past rfl ?_) | (refine c_yes rfl (by omega) ?_) | (refine c_no rfl (by omega) ?_) | (refine c_no rfl (fun h => h rfl) ?_) | (refine r_cond_false rfl ?_) | (refine r_cond_true rfl ?_) | (refine r_cond_dec rfl (fun _ => ?_) (fun _ => ?_)) | (refine r_cond_true rfl ?_) | (refine r_cond_false rfl ?_) | (refine c_not rfl (fun _ => ?_) (fun _ => ?_)) | (refine r_off rfl rfl rfl ?_) | (refine q_guard rfl rfl (fun _ => ?_) (fun _ => ?_)) | (refine q_guardn rfl rfl (fun _ => ?_) (fun _ => ?_)))
    refine r_loop (γ := Nat) (fun i => i ≤ t.length ∧ looksB c t t' = looksB c (t.drop i) (t'.drop i)) (fun i => [(2, .v (.slice A n cc)), (3, .p 3 0), (4, .p 4 0), (17, .v (.int .i64 (t.length : Int))), (18, .v (.int .i64 (i : Int)))])
      (fun _ => [(4, ⟨none, [.v (.slice A2 t'.length c2)], 59⟩), (3, ⟨none, [.v (.slice A1 t.length c1)], 59⟩)]) (fun _ => h) (fun i => t.length - i)
      0 ⟨Nat.zero_le _, rfl⟩ (into rfl ⟨rfl, rfl, rfl, rfl, rfl, trivial⟩ ⟨rfl, rfl, trivial⟩ rfl rfl) ?_
    rintro i ⟨hi, ho⟩
    by_cases hlt : i < t.length
    · obtain ⟨b, off, p, rfl, hd, hix, hm, hat⟩ := h1.elem Pr.c_len hlt
      obtain ⟨b', off', q, rfl, hd', hix', hm', hat'⟩ := h2.elem Pr.c_len (i := i) (by omega)
      have hlt' : i < t'.length := by omega
      have hal := alike85 p.val q.val c A n cc h hP (hv p hm) (hw q hm')
      rw [hd, hd', looksB] at ho
      by_cases hk : p.key = q.key
      · have heq : ∀ z, (Op.equalIn Op.maxDepth 48 (.agg p.key.c.toArray) (.agg q.key.c.toArray)).run Tryd.prog z = .ok true z := fun z => (eq29f z p.key.k p.key.n p.key.s p.key.a q.key).trans (by rw [decide_eq_true (show ((⟨p.key.k, p.key.n, p.key.s, p.key.a⟩ : V) = q.key) from hk)])
        have hkv : vEq p.key q.key = true := vEq_iff.2 hk
        cases ha : alike c p.val q.val with
        | true =>
          rw [hkv, ha] at ho
          rw [ha] at hal
          repeat' (first | (refine r_pure hT rfl rfl rfl rfl ?_) | (refine r_new hT rfl rfl rfl rfl ?_) | (refine r_write hT rfl rfl rfl ?_) | (refine r_nil ?_) | (refine q_nil ?_) | (refine r_indexN hT rfl rfl rfl rfl rfl rfl rfl rfl rfl (by omega) ?_) | (refine r_load hT hat rfl rfl rfl rfl rfl rfl rfl rfl rfl rfl rfl ?_) | (refine r_load hT hat' rfl rfl rfl rfl rfl rfl rfl rfl rfl rfl rfl ?_) | (refine r_load hT hat rfl rfl rfl rfl rfl (Nat.add_zero _).symm rfl rfl rfl rfl rfl ?_) | (refine r_load hT hat' rfl rfl rfl rfl rfl (Nat.add_zero _).symm rfl rfl rfl rfl rfl ?_) | (refine r_eqs heq (by kernel_rfl) (.inr rfl) rfl rfl rfl rfl rfl rfl rfl rfl ?_) | (refine p_call hal rfl rfl rfl rfl rfl (hC _ rfl) rfl rfl rfl ?_) | (refine r_arith rfl rfl rfl rfl rfl rfl rfl (by omega) ?_) | (with_reducible refine r_seq ?_) | (with_reducible refine x_then ?_) | (with_reducible refine r_region ?_) | (refine r_draw hM (by kernel_rfl) ?_) | (with_reducible refine r_skip ?_) | (with_reducible refine r_ret ?_) | (with_reducible refine x_then_ret ?_) | (with_reducible refine r_block ?_) | (with_reducible refine x_block ?_) | (with_reducible refine x_block_ret ?_) | (with_reducible refine r_exit ?_) | (with_reducible refine x_then_exit ?_) | (with_reducible refine x_block_here ?_) | (refine x_block_past rfl ?_) | (refine c_yes rfl (by omega) ?_) | (refine c_no rfl (by omega) ?_) | (refine c_no rfl (fun h => h rfl) ?_) | (refine r_cond_false rfl ?_) | (refine r_cond_true rfl ?_) | (refine r_cond_dec rfl (fun _ => ?_) (fun _ => ?_)) | (refine r_cond_true rfl ?_) | (refine r_cond_false rfl ?_) | (refine c_not rfl (fun _ => ?_) (fun _ => ?_)) | (refine r_off rfl rfl rfl ?_) | (refine q_guard rfl rfl (fun _ => ?_) (fun _ => ?_)) | (refine q_guardn rfl rfl (fun _ => ?_) (fun _ => ?_)))
          exact x_round (i + 1) ⟨hlt, by simpa using ho⟩ (by omega) (into rfl ⟨rfl, rfl, rfl, rfl, rfl, trivial⟩ ⟨rfl, rfl, trivial⟩ rfl rfl)
        | false =>
          rw [hkv, ha] at ho
          rw [ha] at hal
          repeat' (first | (refine r_pure hT rfl rfl rfl rfl ?_) | (refine r_new hT rfl rfl rfl rfl ?_) | (refine r_write hT rfl rfl rfl ?_) | (refine r_nil ?_) | (refine q_nil ?_) | (refine r_indexN hT rfl rfl rfl rfl rfl rfl rfl rfl rfl (by omega) ?_) | (refine r_load hT hat rfl rfl rfl rfl rfl rfl rfl rfl rfl rfl rfl ?_) | (refine r_load hT hat' rfl rfl rfl rfl rfl rfl rfl rfl rfl rfl rfl ?_) | (refine r_load hT hat rfl rfl rfl rfl rfl (Nat.add_zero _).symm rfl rfl rfl rfl rfl ?_) | (refine r_load hT hat' rfl rfl rfl rfl rfl (Nat.add_zero _).symm rfl rfl rfl rfl rfl ?_) | (refine r_eqs heq (by kernel_rfl) (.inr rfl) rfl rfl rfl rfl rfl rfl rfl rfl ?_) | (refine p_call hal rfl rfl rfl rfl rfl (hC _ rfl) rfl rfl rfl ?_) | (refine r_arith rfl rfl rfl rfl rfl rfl rfl (by omega) ?_) | (with_reducible refine r_seq ?_) | (with_reducible refine x_then ?_) | (with_reducible refine r_region ?_) | (refine r_draw hM (by kernel_rfl) ?_) | (with_reducible refine r_skip ?_) | (with_reducible refine r_ret ?_) | (with_reducible refine x_then_ret ?_) | (with_reducible refine r_block ?_) | (with_reducible refine x_block ?_) | (with_reducible refine x_block_ret ?_) | (with_reducible refine r_exit ?_) | (with_reducible refine x_then_exit ?_) | (with_reducible refine x_block_here ?_) | (refine x_block_past rfl ?_) | (refine c_yes rfl (by omega) ?_) | (refine c_no rfl (by omega) ?_) | (refine c_no rfl (fun h => h rfl) ?_) | (refine r_cond_false rfl ?_) | (refine r_cond_true rfl ?_) | (refine r_cond_dec rfl (fun _ => ?_) (fun _ => ?_)) | (refine r_cond_true rfl ?_) | (refine r_cond_false rfl ?_) | (refine c_not rfl (fun _ => ?_) (fun _ => ?_)) | (refine r_off rfl rfl rfl ?_) | (refine q_guard rfl rfl (fun _ => ?_) (fun _ => ?_)) | (refine q_guardn rfl rfl (fun _ => ?_) (fun _ => ?_)))
          exact r_fin hT rfl (false : Bool) rfl rfl rfl trivial rfl ⟨by simpa using ho.symm, rfl⟩
      · have heq : ∀ z, (Op.equalIn Op.maxDepth 48 (.agg p.key.c.toArray) (.agg q.key.c.toArray)).run Tryd.prog z = .ok false z := fun z => (eq29f z p.key.k p.key.n p.key.s p.key.a q.key).trans (by rw [decide_eq_false (show ¬ ((⟨p.key.k, p.key.n, p.key.s, p.key.a⟩ : V) = q.key) from hk)])
        have hkv : vEq p.key q.key = false := by
          cases e : vEq p.key q.key with
          | false => rfl
          | true => exact absurd (vEq_iff.1 e) hk
        rw [hkv] at ho
        repeat' (first | (refine r_pure hT rfl rfl rfl rfl ?_) | (refine r_new hT rfl rfl rfl rfl ?_) | (refine r_write hT rfl rfl rfl ?_) | (refine r_nil ?_) | (refine q_nil ?_) | (refine r_indexN hT rfl rfl rfl rfl rfl rfl rfl rfl rfl (by omega) ?_) | (refine r_load hT hat rfl rfl rfl rfl rfl rfl rfl rfl rfl rfl rfl ?_) | (refine r_load hT hat' rfl rfl rfl rfl rfl rfl rfl rfl rfl rfl rfl ?_) | (refine r_load hT hat rfl rfl rfl rfl rfl (Nat.add_zero _).symm rfl rfl rfl rfl rfl ?_) | (refine r_load hT hat' rfl rfl rfl rfl rfl (Nat.add_zero _).symm rfl rfl rfl rfl rfl ?_) | (refine r_eqs heq (by kernel_rfl) (.inr rfl) rfl rfl rfl rfl rfl rfl rfl rfl ?_) | (refine p_call hal rfl rfl rfl rfl rfl (hC _ rfl) rfl rfl rfl ?_) | (refine r_arith rfl rfl rfl rfl rfl rfl rfl (by omega) ?_) | (with_reducible refine r_seq ?_) | (with_reducible refine x_then ?_) | (with_reducible refine r_region ?_) | (refine r_draw hM (by kernel_rfl) ?_) | (with_reducible refine r_skip ?_) | (with_reducible refine r_ret ?_) | (with_reducible refine x_then_ret ?_) | (with_reducible refine r_block ?_) | (with_reducible refine x_block ?_) | (with_reducible refine x_block_ret ?_) | (with_reducible refine r_exit ?_) | (with_reducible refine x_then_exit ?_) | (with_reducible refine x_block_here ?_) | (refine x_block_past rfl ?_) | (refine c_yes rfl (by omega) ?_) | (refine c_no rfl (by omega) ?_) | (refine c_no rfl (fun h => h rfl) ?_) | (refine r_cond_false rfl ?_) | (refine r_cond_true rfl ?_) | (refine r_cond_dec rfl (fun _ => ?_) (fun _ => ?_)) | (refine r_cond_true rfl ?_) | (refine r_cond_false rfl ?_) | (refine c_not rfl (fun _ => ?_) (fun _ => ?_)) | (refine r_off rfl rfl rfl ?_) | (refine q_guard rfl rfl (fun _ => ?_) (fun _ => ?_)) | (refine q_guardn rfl rfl (fun _ => ?_) (fun _ => ?_)))
        exact r_fin hT rfl (false : Bool) rfl rfl rfl trivial rfl ⟨by simpa using ho.symm, rfl⟩
    · obtain rfl : i = t.length := by omega
      rw [List.drop_length, List.drop_of_length_le (by omega)] at ho
      repeat' (first | (refine r_pure hT rfl rfl rfl rfl ?_) | (refine r_new hT rfl rfl rfl rfl ?_) | (refine r_write hT rfl rfl rfl ?_) | (refine r_nil ?_) | (refine q_nil ?_) | (refine r_arith rfl rfl rfl rfl rfl rfl rfl (by omega) ?_) | (with_reducible refine r_seq ?_) | (with_reducible refine x_then ?_) | (with_reducible refine r_region ?_) | (refine r_draw hM (by kernel_rfl) ?_) | (with_reducible refine r_skip ?_) | (with_reducible refine r_ret ?_) | (with_reducible refine x_then_ret ?_) | (with_reducible refine r_block ?_) | (with_reducible refine x_block ?_) | (with_reducible refine x_block_ret ?_) | (with_reducible refine r_exit ?_) | (with_reducible refine x_then_exit ?_) | (with_reducible refine x_block_here ?_) | (refine x_block_past rfl ?_) | (refine c_yes rfl (by omega) ?_) | (refine c_no rfl (by omega) ?_) | (refine c_no rfl (fun h => h rfl) ?_) | (refine r_cond_false rfl ?_) | (refine r_cond_true rfl ?_) | (refine r_cond_dec rfl (fun _ => ?_) (fun _ => ?_)) | (refine r_cond_true rfl ?_) | (refine r_cond_false rfl ?_) | (refine c_not rfl (fun _ => ?_) (fun _ => ?_)) | (refine r_off rfl rfl rfl ?_) | (refine q_guard rfl rfl (fun _ => ?_) (fun _ => ?_)) | (refine q_guardn rfl rfl (fun _ => ?_) (fun _ => ?_)))
      exact r_fin hT rfl (true : Bool) rfl rfl rfl trivial rfl ⟨ho.symm, rfl⟩
  · have hlenI : ¬ (t.length : Int) = (t'.length : Int) := by omega
    repeat' (first | (refine r_pure hT rfl rfl rfl rfl ?_) | (refine r_new hT rfl rfl rfl rfl ?_) | (refine r_write hT rfl rfl rfl ?_) | (refine r_nil ?_) | (refine q_nil ?_) | (refine c_yes rfl hlenI ?_) | (refine r_arith rfl rfl rfl rfl rfl rfl rfl (by omega) ?_) | (with_reducible refine r_seq ?_) | (with_reducible refine x_then ?_) | (with_reducible refine r_region ?_) | (refine r_draw hM (by kernel_rfl) ?_) | (with_reducible refine r_skip ?_) | (with_reducible refine r_ret ?_) | (with_reducible refine x_then_ret ?_) | (with_reducible refine r_block ?_) | (with_reducible refine x_block ?_) | (with_reducible refine x_block_ret ?_) | (with_reducible refine r_exit ?_) | (with_reducible refine x_then_exit ?_) | (with_reducible refine x_block_here ?_) | (refine x_block_past rfl ?_) | (refine c_yes rfl (by omega) ?_) | (refine c_no rfl (by omega) ?_) | (refine c_no rfl (fun h => h rfl) ?_) | (refine r_cond_false rfl ?_) | (refine r_cond_true rfl ?_) | (refine r_cond_dec rfl (fun _ => ?_) (fun _ => ?_)) | (refine r_cond_true rfl ?_) | (refine r_cond_false rfl ?_) | (refine c_not rfl (fun _ => ?_) (fun _ => ?_)) | (refine r_off rfl rfl rfl ?_) | (refine q_guard rfl rfl (fun _ => ?_) (fun _ => ?_)) | (refine q_guardn rfl rfl (fun _ => ?_) (fun _ => ?_)))
    exact r_fin hT rfl (false : Bool) rfl rfl rfl trivial rfl ⟨(looksB_len hlen).symm, rfl⟩
end Go.Proofs.YtkamfnmbidnhdaaDoor
/- Well-made graphs and the order of keys; what stays well made when tables are told by their classes. Plain; no condition. -/
namespace Go.Proofs.YtkamfnmbidnhdaaDoor
open Go.Sy
set_option linter.unusedVariables false
theorem ky_of {v : V} (h : KOk v) : Ky v := by
  obtain ⟨hk, h⟩ := h
  rcases h with ⟨a, _⟩ | ⟨a, b, c, d⟩ | ⟨a, c, d⟩ | ⟨a, b, c, d⟩ | ⟨a, b, c, d, e⟩
  · omega
  · exact ⟨by omega, by omega, fun x => by omega, fun _ => by rw [← ByteArray.toList_eq]; exact c, d⟩
  · exact ⟨by omega, by omega, fun x => by omega, fun _ => by rw [← ByteArray.toList_eq]; exact c, d⟩
  · exact ⟨by omega, by omega, fun x => b, fun x => absurd a x, c⟩
  · omega
theorem tv_of {v : V} {n : Nat} (h : VOk v n) : Tv v := fun h4 => by
  rcases h with ⟨a, _⟩ | ⟨a, b, c, d⟩ | ⟨a, c, d⟩ | ⟨a, b, c, d⟩ | ⟨a, b, c, d, e⟩
  · omega
  · omega
  · omega
  · omega
  · exact ⟨b, by rw [← ByteArray.toList_eq]; exact c⟩
theorem tok_srt {t : List Pr} {n : Nat} (h : TOk t n) : TOk (srt t) n :=
  ⟨by rw [(srt_perm t).length_eq]; exact h.1, fun p hp => h.2.1 p ((srt_perm t).mem_iff.1 hp), ((srt_perm t).map _).nodup_iff.2 h.2.2⟩
theorem tok_uniq {t ys : List Pr} {n : Nat} (h : TOk t n) (h1 : ys.Perm t) (h2 : Srt ys) : ys = srt t := srt_of (fun p hp => ky_of (h.2.1 p hp).1) h.2.2 h1 h2
def CIn (n : Nat) (c : List Nat) : Prop := ∀ i, i < n → at0 c i < n
theorem good_cin {n : Nat} {c : List Nat} (h : GoodC n c) : CIn n c := fun i hi => Nat.lt_of_le_of_lt (h.le i hi) hi
theorem vok_lk {c : List Nat} {n : Nat} {v : V} (h : VOk v n) (hc : CIn n c) : VOk (lk c v) n := by
  unfold lk
  split
  · rename_i h4
    rcases h with ⟨a, _⟩ | ⟨a, b, c, d⟩ | ⟨a, c, d⟩ | ⟨a, b, c, d⟩ | ⟨a, b, c, d, e⟩
    · omega
    · omega
    · omega
    · omega
    · have := hc v.a.toNat (by omega)
      unfold at0 at this
      exact .inr (.inr (.inr (.inr ⟨h4, b, c, by simp only; omega, by simp only; omega⟩)))
  · exact h
theorem lk_k (c : List Nat) (v : V) : (lk c v).k = v.k := by unfold lk; split <;> rfl
theorem tok_look {c : List Nat} {n : Nat} {t : List Pr} (h : TOk t n) (hc : CIn n c) : TOk (lookT c t) n := by
  refine ⟨by simp only [lookT, List.length_map]; exact h.1, fun p hp => ?_, ?_⟩
  · obtain ⟨q, hq, rfl⟩ := List.mem_map.1 hp
    obtain ⟨h1, h2, h3⟩ := h.2.1 q hq
    exact ⟨h1, vok_lk h2 hc, by rw [lk_k]; exact h3⟩
  · have : (lookT c t).map (·.key) = t.map (·.key) := by simp [lookT]
    rw [this]; exact h.2.2
theorem gok_look {c : List Nat} {v : V} {ts : List (List Pr)} (h : GOk v ts) (hc : CIn ts.length c) : GOk (lk c v) (ts.map fun t => lookT c (srt t)) := by
  refine ⟨by simp only [List.length_map]; exact h.1, by rw [List.length_map]; exact vok_lk h.2.1 hc, fun t ht => ?_⟩
  obtain ⟨t', ht', rfl⟩ := List.mem_map.1 ht
  rw [List.length_map]
  exact tok_look (tok_srt (h.2.2 t' ht')) hc
theorem allin_srt {ts : List (List Pr)} (h : AllIn ts) : AllIn (ts.map srt) := fun t ht p hp => by
  obtain ⟨t', ht', rfl⟩ := List.mem_map.1 ht
  rw [List.length_map]
  exact h t' ht' p ((srt_perm t').mem_iff.1 hp)
end Go.Proofs.YtkamfnmbidnhdaaDoor
