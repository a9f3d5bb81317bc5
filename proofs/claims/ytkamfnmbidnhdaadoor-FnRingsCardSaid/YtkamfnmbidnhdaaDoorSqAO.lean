/- slices.Compact of values. No condition. -/
import Derived.Test.YtkamfnmbidnhdaaDoorSqAN
import Derived.Test.YtkamfnmbidnhdaaDoorSqAG
import Derived.Test.YtkamfnmbidnhdaaDoorSqAI
set_option linter.unusedVariables false
set_option linter.unusedSimpArgs false
set_option linter.unusedSectionVars false
namespace Go.Sy
theorem subA_some {b off c l sz : Nat} (h : c ≠ l) : subA (some ⟨b, off, none⟩) c l sz = some ⟨b, off + l * sz, none⟩ := by
  unfold subA
  rw [if_neg h]
  simp only [Option.map_some, Option.some.injEq, Addr.add]
  split <;> simp_all
theorem setL_take {α : Type} (l : List α) (n : Nat) (vs : List α) (h : n ≤ l.length) : (setL l n vs).take n = l.take n := by
  simp only [setL]
  rw [List.take_append_of_le_length (by rw [List.length_take]; omega), List.take_take]
  congr 1; omega
theorem cmpV_one {xs : List V} (h : xs.length < 2) : cmpV xs = xs := by
  match xs, h with
  | [], _ => rfl
  | [x], _ => rfl
end Go.Sy
namespace Go.Proofs.YtkamfnmbidnhdaaDoor
open Go.Sy
set_option maxRecDepth 100000
set_option maxHeartbeats 4000000
set_option linter.unusedVariables false
set_option linter.unusedSimpArgs false
theorem compact82 (xs : List V) (A : Option Addr) (n c : Nat) (h : Hp) (hO : Own h A n c 48 4 (xs.flatMap V.c)) (hl : xs.length ≤ 100000) :
    TriS Tryd.prog 82 [.v (.slice A n c)] [] h (fun _ : Unit => .v (.slice A (cmpV xs).length c)) (fun _ => []) (fun _ h' => Own h' A (cmpV xs).length c 48 4 ((cmpV xs).flatMap V.c) ∧ ∀ b, blk A ≠ some b → h' b = h b) := by
  have hn : n = xs.length := by have := hO.len; rw [flat_length V.c_len] at this; omega
  subst hn
  have hcap := hO.cap
  refine enterS Tryd.func82 rfl (n := 61) rfl rfl (fun k N => ?_)
  by_cases h2 : xs.length < 2
  · rw [cmpV_one h2]
    repeat' (first | (refine r_pure hT rfl rfl rfl rfl ?_) | (refine r_new hT rfl rfl rfl rfl ?_) | (refine r_write hT rfl rfl rfl ?_) | (refine r_nil ?_) | (refine q_nil ?_) | (refine r_arith rfl rfl rfl rfl rfl rfl rfl (by omega) ?_) | (with_reducible refine r_seq ?_) | (with_reducible refine x_then ?_) | (with_reducible refine r_region ?_) | (refine r_draw hM (by kernel_rfl) ?_) | (with_reducible refine r_skip ?_) | (with_reducible refine r_ret ?_) | (with_reducible refine x_then_ret ?_) | (with_reducible refine r_block ?_) | (with_reducible refine x_block ?_) | (with_reducible refine x_block_ret ?_) | (with_reducible refine r_exit ?_) | (with_reducible refine x_then_exit ?_) | (with_reducible refine x_block_here ?_) | (refine x_block_past rfl ?_) | (refine c_yes rfl (by omega) ?_) | (refine c_no rfl (by omega) ?_) | (refine c_no rfl (fun h => h rfl) ?_) | (refine r_cond_false rfl ?_) | (refine r_cond_true rfl ?_) | (refine r_cond_dec rfl (fun _ => ?_) (fun _ => ?_)) | (refine r_cond_true rfl ?_) | (refine r_cond_false rfl ?_) | (refine c_not rfl (fun _ => ?_) (fun _ => ?_)) | (refine r_off rfl rfl rfl ?_) | (refine q_guard rfl rfl (fun _ => ?_) (fun _ => ?_)) | (refine q_guardn rfl rfl (fun _ => ?_) (fun _ => ?_)))
    exact r_fin hT rfl () rfl rfl rfl trivial rfl ⟨hO, fun _ _ => rfl⟩
  obtain ⟨b, off, rfl⟩ := own_some hO (by omega : 0 < xs.length)
  have hRd : Rd V.c 4 h (some ⟨b, off, none⟩) xs.length xs := ⟨rfl, hO.sl⟩
  repeat' (first | (refine r_pure hT rfl rfl rfl rfl ?_) | (refine r_new hT rfl rfl rfl rfl ?_) | (refine r_write hT rfl rfl rfl ?_) | (refine r_nil ?_) | (refine q_nil ?_) | (refine r_arith rfl rfl rfl rfl rfl rfl rfl (by omega) ?_) | (with_reducible refine r_seq ?_) | (with_reducible refine x_then ?_) | (with_reducible refine r_region ?_) | (refine r_draw hM (by kernel_rfl) ?_) | (with_reducible refine r_skip ?_) | (with_reducible refine r_ret ?_) | (with_reducible refine x_then_ret ?_) | (with_reducible refine r_block ?_) | (with_reducible refine x_block ?_) | (with_reducible refine x_block_ret ?_) | (with_reducible refine r_exit ?_) | (with_reducible refine x_then_exit ?_) | (with_reducible refine x_block_here ?_) | (refine x_block_past rfl ?_) | (refine c_yes rfl (by omega) ?_) | (refine c_no rfl (by omega) ?_) | (refine c_no rfl (fun h => h rfl) ?_) | (refine r_cond_false rfl ?_) | (refine r_cond_true rfl ?_) | (refine r_cond_dec rfl (fun _ => ?_) (fun _ => ?_)) | (refine r_cond_true rfl ?_) | (refine r_cond_false rfl ?_) | (refine c_not rfl (fun _ => ?_) (fun _ => ?_)) | (refine r_off rfl rfl rfl ?_) | (refine q_guard rfl rfl (fun _ => ?_) (fun _ => ?_)) | (refine q_guardn rfl rfl (fun _ => ?_) (fun _ => ?_)))
  refine r_loop (γ := Nat) (fun i => (1 ≤ i ∧ i ≤ xs.length) ∧ cmpV (xs.take i) = xs.take i) (fun i => [(0, .v (.slice (some ⟨b, off, none⟩) xs.length c)), (3, .v (.int .i64 (i : Int)))]) (fun _ => []) (fun _ => h) (fun i => xs.length - i)
    1 ⟨⟨Nat.le_refl _, by omega⟩, cmpV_one (by rw [List.length_take]; omega)⟩ (into rfl ⟨rfl, rfl, trivial⟩ trivial rfl rfl) ?_
  rintro i ⟨⟨hi1, hi2⟩, hci⟩
  by_cases hlt : i < xs.length
  · obtain ⟨b1, off1, x, e1, _, hix, _, hatx⟩ := hRd.elem V.c_len hlt
    have e2 := Option.some.inj e1
    simp only [Addr.mk.injEq] at e2
    obtain ⟨rfl, rfl, _⟩ := e2
    obtain ⟨b2, off2, y, e3, _, hiy, _, haty⟩ := hRd.elem V.c_len (i := i - 1) (by omega)
    have e4 := Option.some.inj e3
    simp only [Addr.mk.injEq] at e4
    obtain ⟨rfl, rfl, _⟩ := e4
    have hnx := cmpV_next (i := i - 1) hiy (by rw [show i - 1 + 1 = i by omega]; exact hix)
    rw [show i - 1 + 1 = i by omega, show i - 1 + 2 = i + 1 by omega] at hnx
    by_cases hxy : y = x
    · rw [if_pos hxy, hci] at hnx
      have heq : ∀ z, (Op.equalIn Op.maxDepth 48 (.agg x.c.toArray) (.agg y.c.toArray)).run Tryd.prog z = .ok true z := fun z => (eq29f z x.k x.n x.s x.a y).trans (by rw [decide_eq_true (show ((⟨x.k, x.n, x.s, x.a⟩ : V) = y) from hxy.symm)])
      have hs1 : subA (some ⟨b, off, none⟩) c i 4 = some ⟨b, off + i * 4, none⟩ := subA_some (by omega)
      repeat' (first | (refine r_pure hT rfl rfl rfl rfl ?_) | (refine r_new hT rfl rfl rfl rfl ?_) | (refine r_write hT rfl rfl rfl ?_) | (refine r_nil ?_) | (refine q_nil ?_) | (refine r_arith (c := ((i - 1 : Nat) : Int)) rfl rfl rfl rfl rfl rfl (by show some _ = some _; congr 1; omega) (by omega) ?_) | (refine r_indexN hT rfl rfl rfl rfl rfl rfl rfl rfl rfl hlt ?_) | (refine r_indexN hT rfl rfl rfl rfl rfl rfl rfl rfl rfl (show i - 1 < xs.length by omega) ?_) | (refine r_load hT hatx rfl rfl rfl rfl rfl (Nat.add_zero _).symm rfl rfl rfl rfl rfl ?_) | (refine r_load hT haty rfl rfl rfl rfl rfl (Nat.add_zero _).symm rfl rfl rfl rfl rfl ?_) | (refine r_eqs heq (by kernel_rfl) (.inl rfl) rfl rfl rfl rfl rfl rfl rfl rfl ?_) | ((refine r_slice1 (lo := i) hT rfl rfl rfl rfl rfl rfl rfl rfl rfl hi2 (by omega) ?_ ; rw [hs1])) | (refine r_arith rfl rfl rfl rfl rfl rfl rfl (by omega) ?_) | (with_reducible refine r_seq ?_) | (with_reducible refine x_then ?_) | (with_reducible refine r_region ?_) | (refine r_draw hM (by kernel_rfl) ?_) | (with_reducible refine r_skip ?_) | (with_reducible refine r_ret ?_) | (with_reducible refine x_then_ret ?_) | (with_reducible refine r_block ?_) | (with_reducible refine x_block ?_) | (with_reducible refine x_block_ret ?_) | (with_reducible refine r_exit ?_) | (with_reducible refine x_then_exit ?_) | (with_reducible refine x_block_here ?_) | (refine x_block_past rfl ?_) | (refine c_yes rfl (by omega) ?_) | (refine c_no rfl (by omega) ?_) | (refine c_no rfl (fun h => h rfl) ?_) | (refine r_cond_false rfl ?_) | (refine r_cond_true rfl ?_) | (refine r_cond_dec rfl (fun _ => ?_) (fun _ => ?_)) | (refine r_cond_true rfl ?_) | (refine r_cond_false rfl ?_) | (refine c_not rfl (fun _ => ?_) (fun _ => ?_)) | (refine r_off rfl rfl rfl ?_) | (refine q_guard rfl rfl (fun _ => ?_) (fun _ => ?_)) | (refine q_guardn rfl rfl (fun _ => ?_) (fun _ => ?_)))
      refine r_loop (γ := (Nat × Hp) × List V) (fun g => (1 ≤ g.1.1 ∧ i + g.1.1 ≤ xs.length) ∧ g.2.length = xs.length ∧ g.2.take (cmpV (xs.take (i + g.1.1))).length = cmpV (xs.take (i + g.1.1)) ∧ (∀ j, i + g.1.1 - 1 ≤ j → g.2[j]? = xs[j]?) ∧ (cmpV (xs.take (i + g.1.1))).length + 1 ≤ i + g.1.1 ∧ Own g.1.2 (some ⟨b, off, none⟩) xs.length c 48 4 (g.2.flatMap V.c) ∧ ∀ z, z ≠ b → g.1.2 z = h z)
        (fun g => [(0, .v (.slice (some ⟨b, off, none⟩) xs.length c)), (3, .v (.int .i64 ((cmpV (xs.take (i + g.1.1))).length : Int))), (4, .v (.slice (some ⟨b, off + i * 4, none⟩) (xs.length - i) (c - i))), (5, .v (.int .i64 (g.1.1 : Int)))]) (fun _ => []) (fun g => g.1.2) (fun g => xs.length - (i + g.1.1))
        ((1, h), xs) ⟨⟨Nat.le_refl _, hlt⟩, rfl, by dsimp only; rw [hnx, List.length_take, Nat.min_eq_left hi2], fun _ _ => rfl, by dsimp only; rw [hnx, List.length_take]; omega, hO, fun _ _ => rfl⟩
        (into rfl ⟨rfl, congrArg (fun z : Nat => some (SV.v (.int .i64 (z : Int)))) (show i = (cmpV (xs.take (i + 1))).length by rw [hnx, List.length_take]; omega), rfl, rfl, trivial⟩ trivial rfl rfl) ?_
      rintro ⟨⟨k2, u⟩, R⟩ ⟨⟨hk1, hk2⟩, hRl, hRt, hRr, hol, hOu, hKu⟩
      dsimp only at *
      have hRdu : Rd V.c 4 u (some ⟨b, off, none⟩) xs.length R := ⟨hRl.symm, hOu.sl⟩
      by_cases hltk : i + k2 < xs.length
      · obtain ⟨b3, off3, x2, e5, _, hix2, _, hatx2⟩ := hRdu.elem V.c_len (i := i + k2) (by omega)
        have e6 := Option.some.inj e5
        simp only [Addr.mk.injEq] at e6
        obtain ⟨rfl, rfl, _⟩ := e6
        obtain ⟨b4, off4, y2, e7, _, hiy2, _, haty2⟩ := hRdu.elem V.c_len (i := i + k2 - 1) (by omega)
        have e8 := Option.some.inj e7
        simp only [Addr.mk.injEq] at e8
        obtain ⟨rfl, rfl, _⟩ := e8
        have hx0 : xs[i + k2]? = some x2 := by rw [← hRr _ (by omega)]; exact hix2
        have hy0 : xs[i + k2 - 1]? = some y2 := by rw [← hRr _ (by omega)]; exact hiy2
        have hnx2 := cmpV_next (i := i + k2 - 1) hy0 (by rw [show i + k2 - 1 + 1 = i + k2 by omega]; exact hx0)
        rw [show i + k2 - 1 + 1 = i + k2 by omega, show i + k2 - 1 + 2 = i + (k2 + 1) by omega] at hnx2
        rw [show (i + k2) * 4 = i * 4 + k2 * 4 by omega, ← Nat.add_assoc] at hatx2
        rw [show (i + k2 - 1) * 4 = i * 4 + (k2 - 1) * 4 by omega, ← Nat.add_assoc] at haty2
        by_cases hxy2 : y2 = x2
        · rw [if_pos hxy2] at hnx2
          have heq2 : ∀ z, (Op.equalIn Op.maxDepth 48 (.agg x2.c.toArray) (.agg y2.c.toArray)).run Tryd.prog z = .ok true z := fun z => (eq29f z x2.k x2.n x2.s x2.a y2).trans (by rw [decide_eq_true (show ((⟨x2.k, x2.n, x2.s, x2.a⟩ : V) = y2) from hxy2.symm)])
          repeat' (first | (refine r_pure hT rfl rfl rfl rfl ?_) | (refine r_new hT rfl rfl rfl rfl ?_) | (refine r_write hT rfl rfl rfl ?_) | (refine r_nil ?_) | (refine q_nil ?_) | (refine c_yes rfl (by omega) ?_) | (refine r_arith (c := ((k2 - 1 : Nat) : Int)) rfl rfl rfl rfl rfl rfl (by show some _ = some _; congr 1; omega) (by omega) ?_) | (refine r_indexN hT rfl rfl rfl rfl rfl rfl rfl rfl rfl (show k2 < xs.length - i by omega) ?_) | (refine r_indexN hT rfl rfl rfl rfl rfl rfl rfl rfl rfl (show k2 - 1 < xs.length - i by omega) ?_) | (refine r_load hT hatx2 rfl rfl rfl rfl rfl (Nat.add_zero _).symm rfl rfl rfl rfl rfl ?_) | (refine r_load hT haty2 rfl rfl rfl rfl rfl (Nat.add_zero _).symm rfl rfl rfl rfl rfl ?_) | (refine r_eqs heq2 (by kernel_rfl) (.inr rfl) rfl rfl rfl rfl rfl rfl rfl rfl ?_) | (refine r_arith rfl rfl rfl rfl rfl rfl rfl (by omega) ?_) | (with_reducible refine r_seq ?_) | (with_reducible refine x_then ?_) | (with_reducible refine r_region ?_) | (refine r_draw hM (by kernel_rfl) ?_) | (with_reducible refine r_skip ?_) | (with_reducible refine r_ret ?_) | (with_reducible refine x_then_ret ?_) | (with_reducible refine r_block ?_) | (with_reducible refine x_block ?_) | (with_reducible refine x_block_ret ?_) | (with_reducible refine r_exit ?_) | (with_reducible refine x_then_exit ?_) | (with_reducible refine x_block_here ?_) | (refine x_block_past rfl ?_) | (refine c_yes rfl (by omega) ?_) | (refine c_no rfl (by omega) ?_) | (refine c_no rfl (fun h => h rfl) ?_) | (refine r_cond_false rfl ?_) | (refine r_cond_true rfl ?_) | (refine r_cond_dec rfl (fun _ => ?_) (fun _ => ?_)) | (refine r_cond_true rfl ?_) | (refine r_cond_false rfl ?_) | (refine c_not rfl (fun _ => ?_) (fun _ => ?_)) | (refine r_off rfl rfl rfl ?_) | (refine q_guard rfl rfl (fun _ => ?_) (fun _ => ?_)) | (refine q_guardn rfl rfl (fun _ => ?_) (fun _ => ?_)))
          exact x_round ((k2 + 1, u), R) ⟨⟨by dsimp only; omega, by dsimp only; omega⟩, hRl, by dsimp only; rw [hnx2]; exact hRt, fun j hj => hRr j (by dsimp only at hj; omega), by dsimp only; rw [hnx2]; omega, hOu, hKu⟩ (by dsimp only; omega)
            (into rfl ⟨rfl, congrArg (fun z : List V => some (SV.v (.int .i64 (z.length : Int)))) hnx2.symm, rfl, rfl, trivial⟩ trivial rfl rfl)
        · rw [if_neg hxy2] at hnx2
          have heq2 : ∀ z, (Op.equalIn Op.maxDepth 48 (.agg x2.c.toArray) (.agg y2.c.toArray)).run Tryd.prog z = .ok false z := fun z => (eq29f z x2.k x2.n x2.s x2.a y2).trans (by rw [decide_eq_false (show ¬ ((⟨x2.k, x2.n, x2.s, x2.a⟩ : V) = y2) from fun e => hxy2 e.symm)])
          generalize hoo : (cmpV (xs.take (i + k2))).length = o at *
          have hnl : (cmpV (xs.take (i + (k2 + 1)))).length = o + 1 := by rw [hnx2, List.length_append, hoo]; rfl
          repeat' (first | (refine r_pure hT rfl rfl rfl rfl ?_) | (refine r_new hT rfl rfl rfl rfl ?_) | (refine r_write hT rfl rfl rfl ?_) | (refine r_nil ?_) | (refine q_nil ?_) | (refine c_yes rfl (by omega) ?_) | (refine r_arith (c := ((k2 - 1 : Nat) : Int)) rfl rfl rfl rfl rfl rfl (by show some _ = some _; congr 1; omega) (by omega) ?_) | (refine r_indexN hT rfl rfl rfl rfl rfl rfl rfl rfl rfl (show k2 < xs.length - i by omega) ?_) | (refine r_indexN hT rfl rfl rfl rfl rfl rfl rfl rfl rfl (show k2 - 1 < xs.length - i by omega) ?_) | (refine r_indexN hT rfl rfl rfl rfl rfl rfl rfl rfl rfl (show o < xs.length by omega) ?_) | (refine r_load hT hatx2 rfl rfl rfl rfl rfl (Nat.add_zero _).symm rfl rfl rfl rfl rfl ?_) | (refine r_load hT haty2 rfl rfl rfl rfl rfl (Nat.add_zero _).symm rfl rfl rfl rfl rfl ?_) | (refine r_eqs heq2 (by kernel_rfl) (.inr rfl) rfl rfl rfl rfl rfl rfl rfl rfl ?_) | (refine r_store_own (o := o * 4) hT hOu rfl rfl rfl rfl rfl rfl rfl rfl rfl rfl rfl (by rw [hOu.len]; show o * 4 + 4 ≤ xs.length * 4; omega) (fun u3 hO3 hu3 => ?_)) | (refine r_arith rfl rfl rfl rfl rfl rfl rfl (by omega) ?_) | (with_reducible refine r_seq ?_) | (with_reducible refine x_then ?_) | (with_reducible refine r_region ?_) | (refine r_draw hM (by kernel_rfl) ?_) | (with_reducible refine r_skip ?_) | (with_reducible refine r_ret ?_) | (with_reducible refine x_then_ret ?_) | (with_reducible refine r_block ?_) | (with_reducible refine x_block ?_) | (with_reducible refine x_block_ret ?_) | (with_reducible refine r_exit ?_) | (with_reducible refine x_then_exit ?_) | (with_reducible refine x_block_here ?_) | (refine x_block_past rfl ?_) | (refine c_yes rfl (by omega) ?_) | (refine c_no rfl (by omega) ?_) | (refine c_no rfl (fun h => h rfl) ?_) | (refine r_cond_false rfl ?_) | (refine r_cond_true rfl ?_) | (refine r_cond_dec rfl (fun _ => ?_) (fun _ => ?_)) | (refine r_cond_true rfl ?_) | (refine r_cond_false rfl ?_) | (refine c_not rfl (fun _ => ?_) (fun _ => ?_)) | (refine r_off rfl rfl rfl ?_) | (refine q_guard rfl rfl (fun _ => ?_) (fun _ => ?_)) | (refine q_guardn rfl rfl (fun _ => ?_) (fun _ => ?_)))
          have hO4 : Own u3 (some ⟨b, off, none⟩) xs.length c 48 4 ((R.set o x2).flatMap V.c) := by
            rw [← set_flat V.c_len R x2 (by omega)]; exact hO3
          have hRs : ∀ j, i + k2 ≤ j → (R.set o x2)[j]? = xs[j]? := fun j hj => by rw [List.getElem?_set_ne (by omega)]; exact hRr j (by omega)
          have hRt2 : (R.set o x2).take (o + 1) = cmpV (xs.take (i + (k2 + 1))) := by
            rw [take_snoc (xs := R.set o x2) (i := o) (x := x2) (by rw [List.getElem?_set_self (by omega)]), List.take_set_of_le (Nat.le_refl _), hRt, hnx2]
          exact x_round ((k2 + 1, u3), R.set o x2) ⟨⟨by dsimp only; omega, by dsimp only; omega⟩, by rw [List.length_set]; exact hRl, by dsimp only; rw [hnl]; exact hRt2, fun j hj => hRs j (by dsimp only at hj; omega), by dsimp only; rw [hnl]; omega, hO4, fun z hz => (hu3 z hz).trans (hKu z hz)⟩ (by dsimp only; omega)
            (into rfl ⟨rfl, congrArg (fun z : Nat => some (SV.v (.int .i64 (z : Int)))) (show o + 1 = (cmpV (xs.take (i + (k2 + 1)))).length from hnl.symm), rfl, rfl, trivial⟩ trivial rfl rfl)
      · have hik : i + k2 = xs.length := by omega
        rw [hik, List.take_length] at hRt hol ⊢
        generalize hoo : (cmpV xs).length = o at *
        have hs2 : subA (some ⟨b, off, none⟩) c o 4 = some ⟨b, off + o * 4, none⟩ := subA_some (by omega)
        have hs3 := own_sub0 hOu 4
        repeat' (first | (refine r_pure hT rfl rfl rfl rfl ?_) | (refine r_new hT rfl rfl rfl rfl ?_) | (refine r_write hT rfl rfl rfl ?_) | (refine r_nil ?_) | (refine q_nil ?_) | (refine c_no rfl (by omega) ?_) | ((refine r_slice1 (lo := o) hT rfl rfl rfl rfl rfl rfl rfl rfl rfl (by omega) (by omega) ?_ ; rw [hs2])) | (refine r_clear (q := o * 4) hT hOu rfl rfl rfl rfl rfl rfl (by simp) rfl (by rw [hOu.len]; show o * 4 + (xs.length - o) * 4 ≤ xs.length * 4; omega) (by omega) (fun u3 hO3 hu3 => ?_)) | ((refine r_slice0 (hi := o) hT rfl rfl rfl rfl rfl rfl rfl rfl rfl (by omega) ?_ ; rw [hs3, Nat.sub_zero, Nat.sub_zero])) | (refine r_arith rfl rfl rfl rfl rfl rfl rfl (by omega) ?_) | (with_reducible refine r_seq ?_) | (with_reducible refine x_then ?_) | (with_reducible refine r_region ?_) | (refine r_draw hM (by kernel_rfl) ?_) | (with_reducible refine r_skip ?_) | (with_reducible refine r_ret ?_) | (with_reducible refine x_then_ret ?_) | (with_reducible refine r_block ?_) | (with_reducible refine x_block ?_) | (with_reducible refine x_block_ret ?_) | (with_reducible refine r_exit ?_) | (with_reducible refine x_then_exit ?_) | (with_reducible refine x_block_here ?_) | (refine x_block_past rfl ?_) | (refine c_yes rfl (by omega) ?_) | (refine c_no rfl (by omega) ?_) | (refine c_no rfl (fun h => h rfl) ?_) | (refine r_cond_false rfl ?_) | (refine r_cond_true rfl ?_) | (refine r_cond_dec rfl (fun _ => ?_) (fun _ => ?_)) | (refine r_cond_true rfl ?_) | (refine r_cond_false rfl ?_) | (refine c_not rfl (fun _ => ?_) (fun _ => ?_)) | (refine r_off rfl rfl rfl ?_) | (refine q_guard rfl rfl (fun _ => ?_) (fun _ => ?_)) | (refine q_guardn rfl rfl (fun _ => ?_) (fun _ => ?_)))
        refine r_fin hT rfl () rfl rfl rfl trivial rfl ⟨?_, fun z hz => (hu3 z (fun e => hz (by rw [e]; rfl))).trans (hKu z (fun e => hz (by rw [e]; rfl)))⟩
        have h5 : Own u3 (some ⟨b, off, none⟩) xs.length c 48 4 (setL (R.flatMap V.c) (o * 4) (reps (xs.length - o) _)) := hO3
        have h6 := h5.take (k := o) (by omega)
        rw [setL_take _ _ _ (by rw [hOu.len]; omega), flat_take V.c_len, hRt] at h6
        exact h6
    · rw [if_neg hxy, hci] at hnx
      have heq : ∀ z, (Op.equalIn Op.maxDepth 48 (.agg x.c.toArray) (.agg y.c.toArray)).run Tryd.prog z = .ok false z := fun z => (eq29f z x.k x.n x.s x.a y).trans (by rw [decide_eq_false (show ¬ ((⟨x.k, x.n, x.s, x.a⟩ : V) = y) from fun e => hxy e.symm)])
      repeat' (first | (refine r_pure hT rfl rfl rfl rfl ?_) | (refine r_new hT rfl rfl rfl rfl ?_) | (refine r_write hT rfl rfl rfl ?_) | (refine r_nil ?_) | (refine q_nil ?_) | (refine r_arith (c := ((i - 1 : Nat) : Int)) rfl rfl rfl rfl rfl rfl (by show some _ = some _; congr 1; omega) (by omega) ?_) | (refine r_indexN hT rfl rfl rfl rfl rfl rfl rfl rfl rfl hlt ?_) | (refine r_indexN hT rfl rfl rfl rfl rfl rfl rfl rfl rfl (show i - 1 < xs.length by omega) ?_) | (refine r_load hT hatx rfl rfl rfl rfl rfl (Nat.add_zero _).symm rfl rfl rfl rfl rfl ?_) | (refine r_load hT haty rfl rfl rfl rfl rfl (Nat.add_zero _).symm rfl rfl rfl rfl rfl ?_) | (refine r_eqs heq (by kernel_rfl) (.inl rfl) rfl rfl rfl rfl rfl rfl rfl rfl ?_) | (refine r_arith rfl rfl rfl rfl rfl rfl rfl (by omega) ?_) | (with_reducible refine r_seq ?_) | (with_reducible refine x_then ?_) | (with_reducible refine r_region ?_) | (refine r_draw hM (by kernel_rfl) ?_) | (with_reducible refine r_skip ?_) | (with_reducible refine r_ret ?_) | (with_reducible refine x_then_ret ?_) | (with_reducible refine r_block ?_) | (with_reducible refine x_block ?_) | (with_reducible refine x_block_ret ?_) | (with_reducible refine r_exit ?_) | (with_reducible refine x_then_exit ?_) | (with_reducible refine x_block_here ?_) | (refine x_block_past rfl ?_) | (refine c_yes rfl (by omega) ?_) | (refine c_no rfl (by omega) ?_) | (refine c_no rfl (fun h => h rfl) ?_) | (refine r_cond_false rfl ?_) | (refine r_cond_true rfl ?_) | (refine r_cond_dec rfl (fun _ => ?_) (fun _ => ?_)) | (refine r_cond_true rfl ?_) | (refine r_cond_false rfl ?_) | (refine c_not rfl (fun _ => ?_) (fun _ => ?_)) | (refine r_off rfl rfl rfl ?_) | (refine q_guard rfl rfl (fun _ => ?_) (fun _ => ?_)) | (refine q_guardn rfl rfl (fun _ => ?_) (fun _ => ?_)))
      exact x_round (i + 1) ⟨⟨by omega, hlt⟩, by rw [hnx, take_snoc hix]⟩ (by omega) (into rfl ⟨rfl, rfl, trivial⟩ trivial rfl rfl)
  · obtain rfl : i = xs.length := by omega
    rw [List.take_length] at hci
    rw [hci]
    repeat' (first | (refine r_pure hT rfl rfl rfl rfl ?_) | (refine r_new hT rfl rfl rfl rfl ?_) | (refine r_write hT rfl rfl rfl ?_) | (refine r_nil ?_) | (refine q_nil ?_) | (refine r_arith rfl rfl rfl rfl rfl rfl rfl (by omega) ?_) | (with_reducible refine r_seq ?_) | (with_reducible refine x_then ?_) | (with_reducible refine r_region ?_) | (refine r_draw hM (by kernel_rfl) ?_) | (with_reducible refine r_skip ?_) | (with_reducible refine r_ret ?_) | (with_reducible refine x_then_ret ?_) | (with_reducible refine r_block ?_) | (with_reducible refine x_block ?_) | (with_reducible refine x_block_ret ?_) | (with_reducible refine r_exit ?_) | (with_reducible refine x_then_exit ?_) | (with_reducible refine x_block_here ?_) | (refine x_block_past rfl ?_) | (refine c_yes rfl (by omega) ?_) | (refine c_no rfl (by omega) ?_) | (refine c_no rfl (fun h => h rfl) ?_) | (refine r_cond_false rfl ?_) | (refine r_cond_true rfl ?_) | (refine r_cond_dec rfl (fun _ => ?_) (fun _ => ?_)) | (refine r_cond_true rfl ?_) | (refine r_cond_false rfl ?_) | (refine c_not rfl (fun _ => ?_) (fun _ => ?_)) | (refine r_off rfl rfl rfl ?_) | (refine q_guard rfl rfl (fun _ => ?_) (fun _ => ?_)) | (refine q_guardn rfl rfl (fun _ => ?_) (fun _ => ?_)))
    exact r_fin hT rfl () rfl rfl rfl trivial rfl ⟨hO, fun _ _ => rfl⟩
end Go.Proofs.YtkamfnmbidnhdaaDoor
/- Maps with pairs of whole numbers as keys (what impl.Apart has seen). No condition. -/
namespace Go.Proofs.YtkamfnmbidnhdaaDoor
open Go.Sy Go.RowKit
set_option maxRecDepth 100000
set_option maxHeartbeats 4000000
set_option linter.unusedVariables false
set_option linter.unusedSimpArgs false
def twoC (x : Int × Int) : List Value := [.int .i64 x.1, .int .i64 x.2]
def tKey (x : Int × Int) : Value := .agg (twoC x).toArray
theorem eq106 (d : Nat) (w : World) (x y : Int × Int) : (Op.equalIn (d + 2) 106 (.agg (twoC x).toArray) (.agg (twoC y).toArray)).run Tryd.prog w = .ok (decide (x = y)) w := by
  rw [run_equalIn_struct w (d + 1) 106 _ _ (by rw [Program.fieldsOf, Tryd.underlying106]) (by kernel_rfl)]
  have e : decide (x = y) = (x.1 == y.1 && x.2 == y.2) := by
    rw [Bool.eq_iff_iff]
    cases x; cases y
    simp
  rw [e]
  simp only [Program.fieldsOf, Tryd.underlying106, twoC, Op.eqFields]
  go_simp
  cases h1 : (x.1 == y.1) <;> cases h2 : (x.2 == y.2) <;> simp_all
theorem tKey_eq (w : World) (x y : Int × Int) : (Op.equal 106 (tKey x) (tKey y)).run Tryd.prog w = .ok (decide (x = y)) w := eq106 9998 w x y
theorem t_asking (w : World) (x : Int × Int) : ∀ (l : List (Int × Int)) (es : List MapEntry) (i : Nat), es.map (·.key) = l.map tKey →
    (Instr.findAsking 106 (tKey x) es i).run Tryd.prog w = .ok (match l.findIdx? (fun y => decide (x = y)) with | some j => (es[j]?).map (fun e => (i + j, e.val)) | none => none) w
  | [], es, i, h => by
    have : es = [] := by simpa using h
    subst this
    simp [Instr.findAsking]
  | y :: l, [], i, h => by simp at h
  | y :: l, e :: es, i, h => by
    simp only [List.map_cons, List.cons.injEq] at h
    obtain ⟨h1, h2⟩ := h
    have ih := t_asking w x l es (i + 1) h2
    by_cases hx : x = y
    · simp [Instr.findAsking, h1, tKey_eq, Result.andThen, List.findIdx?_cons, hx]
    · simp only [Instr.findAsking, h1, Sem.run_bind, tKey_eq, Result.andThen, decide_eq_false hx, List.findIdx?_cons, ih, Bool.false_eq_true, if_false]
      cases l.findIdx? (fun y => decide (x = y)) with
      | none => rfl
      | some j => simp [Nat.add_assoc, Nat.add_comm 1 j]
theorem tKey_check (em : Bool) (n : Nat) (w : World) (x : Int × Int) : (Instr.checkKey em (n + 2) 106 (tKey x)).run Tryd.prog w = .ok () w := by
  have hu := Tryd.underlying106
  have hi : ∀ (m : Nat) (a : Int), (Instr.checkKey em (m + 1) 3 (.int .i64 a)).run Tryd.prog w = .ok () w := fun m a => by simp [Instr.checkKey, run_underlying Tryd.underlying3]
  rw [Instr.checkKey, Sem.run_bind, run_underlying hu]
  simp only [tKey, twoC, Result.andThen]
  go_simp
theorem tKeyOps : KeyOps Tryd.prog 106 tKey where
  check w em x := tKey_check em 9998 w x
  find w x l es h := by
    have hu := Tryd.underlying106
    refine (run_findKey_eq (P := Tryd.prog) (k := 106) (w := w) (by rw [hu]) (tKey x) es).trans ?_
    rw [t_asking w x l es 0 h]
    cases l.findIdx? (fun y => decide (x = y)) <;> simp
  stays w x := by
    simp [Instr.keyThatStays, Instr.sameBits, tKey, twoC]
theorem map110 : Tryd.prog.underlying 110 = some (.map 106 3) := by kernel_rfl
end Go.Proofs.YtkamfnmbidnhdaaDoor
/- impl's queue and spec's line answer the same; the answer is empty just where both graphs look the same; else it leads to where they part. No program in sight; no condition. -/
namespace Go.Sy
set_option linter.unusedVariables false
set_option linter.unusedSimpArgs false
def fsts (L : List AE) : List (Nat × Nat) := L.map Prod.fst
theorem inL_iff {L : List AE} {x y : Nat} : inL L x y = true ↔ (x, y) ∈ fsts L := by
  unfold inL fsts
  rw [List.any_eq_true, List.mem_map]
  constructor
  · rintro ⟨e, he, h⟩
    simp only [Bool.and_eq_true, beq_iff_eq] at h
    exact ⟨e, he, by rw [← h.1, ← h.2]⟩
  · rintro ⟨e, he, h⟩
    exact ⟨e, he, by rw [h]; simp⟩
theorem stI_nodup {s t : List Pr} {path : List V} : ∀ (ks : List V) (L L' : List AE), stI s t path ks L = .inr L' → (fsts L).Nodup → (fsts L').Nodup
  | [], L, L', h, hn => by simp only [stI, Sum.inr.injEq] at h; rw [← h]; exact hn
  | k :: ks, L, L', h, hn => by
    unfold stI at h
    by_cases h1 : (fdV s k).k = 4 ∧ (fdV t k).k = 4
    · rw [if_pos h1] at h
      by_cases h2 : inL L (fdV s k).a.toNat (fdV t k).a.toNat = true
      · rw [if_pos h2] at h; exact stI_nodup ks L L' h hn
      · rw [if_neg h2] at h
        refine stI_nodup ks _ L' h ?_
        unfold fsts
        rw [List.map_append]
        exact nodup_snoc hn fun e => h2 (inL_iff.2 e)
    · rw [if_neg h1] at h
      by_cases h2 : vEq (fdV s k) (fdV t k) = true
      · rw [if_pos h2] at h; exact stI_nodup ks L L' h hn
      · rw [if_neg h2] at h; cases h
theorem pair_inj {m x y x' y' : Nat} (hy : y < m) (hy' : y' < m) (h : x * m + y = x' * m + y') : x = x' ∧ y = y' := by
  have h1 : (x * m + y) / m = x := by rw [Nat.mul_comm, Nat.mul_add_div (by omega), Nat.div_eq_of_lt hy, Nat.add_zero]
  have h2 : (x' * m + y') / m = x' := by rw [Nat.mul_comm, Nat.mul_add_div (by omega), Nat.div_eq_of_lt hy', Nat.add_zero]
  have h3 : x = x' := by rw [← h1, ← h2, h]
  subst h3
  exact ⟨rfl, by omega⟩
theorem pairs_len {n m : Nat} {l : List (Nat × Nat)} (hn : l.Nodup) (hb : ∀ p ∈ l, p.1 < n ∧ p.2 < m) : l.length ≤ n * m := by
  have h1 : (l.map fun p => p.1 * m + p.2).Nodup := by
    unfold List.Nodup
    rw [List.pairwise_map]
    refine List.Pairwise.imp_of_mem (fun {a b} ha hb' hne he => hne ?_) hn
    obtain ⟨g1, g2⟩ := pair_inj (hb a ha).2 (hb b hb').2 he
    exact Prod.ext g1 g2
  have h2 := (Nm.len (n := n * m) ⟨h1, fun a ha => by
    obtain ⟨p, hp, rfl⟩ := List.mem_map.1 ha
    obtain ⟨g1, g2⟩ := hb p hp
    have : (p.1 + 1) * m ≤ n * m := Nat.mul_le_mul_right _ g1
    rw [Nat.add_mul] at this
    omega⟩)
  rwa [List.length_map] at h2
/-- Tables whose values are in their one form. -/
structure Wf (n : Nat) (ts : List (List Pr)) : Prop where
  inn : ∀ a k, In n (fdV (tabA ts a) k) ∧ Tv (fdV (tabA ts a) k)
theorem wf_of {ts : List (List Pr)} (hA : AllIn ts) (hT : ∀ t ∈ ts, ∀ p ∈ t, Tv p.val) : Wf ts.length ts := by
  refine ⟨fun a k => ?_⟩
  unfold fdV
  cases h : fndO (tabA ts a) k with
  | none => exact ⟨fun h => (by cases h), fun h => by cases h⟩
  | some x =>
    obtain ⟨p, hp, _, rfl⟩ := fnd_mem h
    by_cases ha : a < ts.length
    · exact ⟨hA _ (tabA_mem ha) p hp, hT _ (tabA_mem ha) p hp⟩
    · unfold tabA at hp
      rw [List.getD_eq_getElem?_getD, List.getElem?_eq_none (by omega)] at hp
      cases hp
/-! ### what the answer says -/
theorem stI_inr {s t : List Pr} {path : List V} : ∀ (ks : List V) (L L' : List AE), stI s t path ks L = .inr L' → ∀ k ∈ ks, (((fdV s k).k = 4 ∧ (fdV t k).k = 4) ∧ inL L' (fdV s k).a.toNat (fdV t k).a.toNat = true) ∨ (¬ ((fdV s k).k = 4 ∧ (fdV t k).k = 4) ∧ fdV s k = fdV t k)
  | [], L, L', h, k, hk => by cases hk
  | k0 :: ks, L, L', h, k, hk => by
    unfold stI at h
    by_cases h1 : (fdV s k0).k = 4 ∧ (fdV t k0).k = 4
    · rw [if_pos h1] at h
      rcases List.mem_cons.1 hk with rfl | hk
      · refine .inl ⟨h1, ?_⟩
        have hp := stI_pre ks _ L' h
        rw [inL_iff]
        obtain ⟨r, hr⟩ := hp
        unfold fsts
        rw [← hr, List.map_append]
        refine List.mem_append_left _ ?_
        by_cases h2 : inL L (fdV s k).a.toNat (fdV t k).a.toNat = true
        · rw [if_pos h2]; exact inL_iff.1 h2
        · rw [if_neg h2, List.map_append]; exact List.mem_append_right _ (by simp)
      · exact stI_inr ks _ L' h k hk
    · rw [if_neg h1] at h
      by_cases h2 : vEq (fdV s k0) (fdV t k0) = true
      · rw [if_pos h2] at h
        rcases List.mem_cons.1 hk with rfl | hk
        · exact .inr ⟨h1, vEq_iff.1 h2⟩
        · exact stI_inr ks L L' h k hk
      · rw [if_neg h2] at h; cases h
theorem stI_inl {s t : List Pr} {path : List V} : ∀ (ks : List V) (L : List AE) (p : List V), stI s t path ks L = .inl p → ∃ k, p = path ++ [k] ∧ ¬ ((fdV s k).k = 4 ∧ (fdV t k).k = 4) ∧ fdV s k ≠ fdV t k
  | [], L, p, h => by simp [stI] at h
  | k0 :: ks, L, p, h => by
    unfold stI at h
    by_cases h1 : (fdV s k0).k = 4 ∧ (fdV t k0).k = 4
    · rw [if_pos h1] at h; exact stI_inl ks _ p h
    · rw [if_neg h1] at h
      by_cases h2 : vEq (fdV s k0) (fdV t k0) = true
      · rw [if_pos h2] at h; exact stI_inl ks L p h
      · rw [if_neg h2] at h
        exact ⟨k0, (Sum.inl.inj h).symm, h1, fun e => h2 (vEq_iff.2 e)⟩
/-- What a path leads to. -/
def gtV (ts : List (List Pr)) : List V → V → V
  | [], v => v
  | k :: p, v => if v.k = 4 then gtV ts p (fdV (tabA ts v.a.toNat) k) else nvV
theorem gtV_snoc (ts : List (List Pr)) (k : V) : ∀ (p : List V) (v : V), gtV ts (p ++ [k]) v = if (gtV ts p v).k = 4 then fdV (tabA ts (gtV ts p v).a.toNat) k else nvV
  | [], v => rfl
  | k0 :: p, v => by
    rw [List.cons_append]
    unfold gtV
    by_cases h4 : v.k = 4
    · rw [if_pos h4, if_pos h4]; exact gtV_snoc ts k p _
    · rw [if_neg h4, if_neg h4]; rfl
/-- Each entry's path leads there. -/
def Pth (a b : List (List Pr)) (v w : V) (L : List AE) : Prop := ∀ e ∈ L, ((gtV a e.2 v).k = 4 ∧ (gtV a e.2 v).a.toNat = e.1.1) ∧ (gtV b e.2 w).k = 4 ∧ (gtV b e.2 w).a.toNat = e.1.2
theorem stI_pth {a b : List (List Pr)} {v w : V} {e : AE} (he : ((gtV a e.2 v).k = 4 ∧ (gtV a e.2 v).a.toNat = e.1.1) ∧ (gtV b e.2 w).k = 4 ∧ (gtV b e.2 w).a.toNat = e.1.2) :
    ∀ (ks : List V) (L L' : List AE), stI (tabA a e.1.1) (tabA b e.1.2) e.2 ks L = .inr L' → Pth a b v w L → Pth a b v w L'
  | [], L, L', h, hP => by simp only [stI, Sum.inr.injEq] at h; rw [← h]; exact hP
  | k :: ks, L, L', h, hP => by
    unfold stI at h
    by_cases h1 : (fdV (tabA a e.1.1) k).k = 4 ∧ (fdV (tabA b e.1.2) k).k = 4
    · rw [if_pos h1] at h
      split at h
      · exact stI_pth he ks L L' h hP
      · refine stI_pth he ks _ L' h fun x hx => ?_
        rcases List.mem_append.1 hx with hx | hx
        · exact hP x hx
        · rw [List.mem_singleton] at hx; subst hx
          dsimp only
          rw [gtV_snoc, gtV_snoc, if_pos he.1.1, if_pos he.2.1, he.1.2, he.2.2]
          exact ⟨⟨h1.1, rfl⟩, h1.2, rfl⟩
    · rw [if_neg h1] at h
      split at h
      · exact stI_pth he ks L L' h hP
      · cases h
/-- All that an entry's tables have is the same, or stands in the queue. -/
def Cls2 (a b : List (List Pr)) (L : List AE) (e : AE) : Prop := ∀ k ∈ ukey (tabA a e.1.1) (tabA b e.1.2), (((fdV (tabA a e.1.1) k).k = 4 ∧ (fdV (tabA b e.1.2) k).k = 4) ∧ inL L (fdV (tabA a e.1.1) k).a.toNat (fdV (tabA b e.1.2) k).a.toNat = true) ∨
  (¬ ((fdV (tabA a e.1.1) k).k = 4 ∧ (fdV (tabA b e.1.2) k).k = 4) ∧ fdV (tabA a e.1.1) k = fdV (tabA b e.1.2) k)
theorem Cls2.mono {a b : List (List Pr)} {L L' : List AE} {e : AE} (h : Cls2 a b L e) (hp : L <+: L') : Cls2 a b L' e := fun k hk => by
  rcases h k hk with ⟨h1, h2⟩ | h
  · refine .inl ⟨h1, ?_⟩
    rw [inL_iff] at h2 ⊢
    obtain ⟨r, rfl⟩ := hp
    unfold fsts at *
    rw [List.map_append]; exact List.mem_append_left _ h2
  · exact .inr h
theorem runI_says {a b : List (List Pr)} {v w : V} {n m : Nat} : ∀ (f : Nat) (L : List AE) (i : Nat), (∀ (e : AE) (L L' : List AE), e ∈ L → stI (tabA a e.1.1) (tabA b e.1.2) e.2 (ukey (tabA a e.1.1) (tabA b e.1.2)) L = .inr L' → (∀ x ∈ L, x.1.1 < n ∧ x.1.2 < m) → ∀ x ∈ L', x.1.1 < n ∧ x.1.2 < m) →
    (∀ x ∈ L, x.1.1 < n ∧ x.1.2 < m) → (fsts L).Nodup → Pth a b v w L → (∀ j e, j < i → L[j]? = some e → Cls2 a b L e) → n * m + 1 ≤ f + i →
      (runI a b f L i = [] ∧ ∃ L', L <+: L' ∧ ∀ e ∈ L', Cls2 a b L' e) ∨ (runI a b f L i ≠ [] ∧ ¬ ((gtV a (runI a b f L i) v).k = 4 ∧ (gtV b (runI a b f L i) w).k = 4) ∧ gtV a (runI a b f L i) v ≠ gtV b (runI a b f L i) w)
  | 0, L, i, hb, hL, hn, hP, hc, hf => by
    have hlen := pairs_len hn (fun p hp => by obtain ⟨e, he, rfl⟩ := List.mem_map.1 hp; exact hL e he)
    unfold fsts at hlen
    rw [List.length_map] at hlen
    refine .inl ⟨rfl, L, List.prefix_rfl, fun e he => ?_⟩
    obtain ⟨j, hj, rfl⟩ := List.mem_iff_getElem.1 he
    exact hc j _ (by omega) (List.getElem?_eq_getElem hj)
  | f + 1, L, i, hb, hL, hn, hP, hc, hf => by
    cases hx : L[i]? with
    | none =>
      have h1 : L.length ≤ i := List.getElem?_eq_none_iff.1 hx
      have e0 : runI a b (f + 1) L i = [] := by simp only [runI, hx]
      refine .inl ⟨e0, L, List.prefix_rfl, fun e he => ?_⟩
      obtain ⟨j, hj, rfl⟩ := List.mem_iff_getElem.1 he
      exact hc j _ (by omega) (List.getElem?_eq_getElem hj)
    | some e =>
      have hme := List.mem_of_getElem? hx
      cases hst : stI (tabA a e.1.1) (tabA b e.1.2) e.2 (ukey (tabA a e.1.1) (tabA b e.1.2)) L with
      | inl p =>
        have e0 : runI a b (f + 1) L i = p := by simp only [runI, hx, hst]
        obtain ⟨k, rfl, g1, g2⟩ := stI_inl _ _ _ hst
        obtain ⟨⟨q1, q2⟩, q3, q4⟩ := hP e hme
        rw [e0]
        refine .inr ⟨by simp, ?_, ?_⟩
        · rw [gtV_snoc, gtV_snoc, if_pos q1, if_pos q3, q2, q4]; exact g1
        · rw [gtV_snoc, gtV_snoc, if_pos q1, if_pos q3, q2, q4]; exact g2
      | inr L' =>
        have e0 : runI a b (f + 1) L i = runI a b f L' (i + 1) := by simp only [runI, hx, hst]
        have hp := stI_pre _ _ _ hst
        rw [e0]
        have ih := runI_says (v := v) (w := w) f L' (i + 1) hb (hb e L L' hme hst hL) (stI_nodup _ _ _ hst hn) (stI_pth (hP e hme) _ _ _ hst hP) (fun j e' hj he' => ?_) (by omega)
        · rcases ih with ⟨g1, L2, g2, g3⟩ | g
          · exact .inl ⟨g1, L2, hp.trans g2, g3⟩
          · exact .inr g
        · have hlt : j < L.length := by have := (List.getElem?_eq_some_iff.1 hx).1; omega
          have hj2 : L[j]? = some e' := by
            obtain ⟨r, rfl⟩ := hp
            rw [List.getElem?_append_left hlt] at he'; exact he'
          rcases Nat.lt_or_ge j i with h1 | h1
          · exact (hc j e' h1 hj2).mono hp
          · obtain rfl : j = i := by omega
            rw [hx] at hj2
            have := Option.some.inj hj2
            subst this
            exact stI_inr _ _ _ hst
end Go.Sy
namespace Go.Sy
/-- Tables whose keys are told apart and in their one form, and that have something at each. -/
structure Gd (ts : List (List Pr)) : Prop where
  nod : ∀ t ∈ ts, (t.map Pr.key).Nodup
  ky : ∀ t ∈ ts, ∀ p ∈ t, Ky p.key
  nz : ∀ t ∈ ts, ∀ p ∈ t, p.val.k ≠ 0
theorem tabA_cases (ts : List (List Pr)) (a : Nat) : tabA ts a = [] ∨ tabA ts a ∈ ts := by
  by_cases ha : a < ts.length
  · exact .inr (tabA_mem ha)
  · left
    unfold tabA
    rw [List.getD_eq_getElem?_getD, List.getElem?_eq_none (by omega)]
    rfl
theorem Gd.tab {ts : List (List Pr)} (h : Gd ts) (a : Nat) : ((tabA ts a).map Pr.key).Nodup ∧ (∀ p ∈ tabA ts a, Ky p.key) ∧ ∀ p ∈ tabA ts a, p.val.k ≠ 0 := by
  rcases tabA_cases ts a with e | e
  · rw [e]; exact ⟨by simp, fun p hp => (by cases hp), fun p hp => by cases hp⟩
  · exact ⟨h.nod _ e, h.ky _ e, h.nz _ e⟩
theorem tabA_srt (ts : List (List Pr)) (a : Nat) : tabA (ts.map srt) a = srt (tabA ts a) := by
  unfold tabA
  rw [List.getD_eq_getElem?_getD, List.getD_eq_getElem?_getD, List.getElem?_map]
  cases ts[a]? with
  | none => show [] = srt []; unfold srt; simp
  | some t => rfl
theorem fdV_some {t : List Pr} {k x : V} (h : fndO t k = some x) : fdV t k = x := by unfold fdV; rw [h]; rfl
theorem fdV_none {t : List Pr} {k : V} (h : fndO t k = none) : fdV t k = nvV := by unfold fdV; rw [h]; rfl
theorem fnd_key {t : List Pr} {k x : V} (h : fndO t k = some x) : k ∈ t.map Pr.key := by
  obtain ⟨p, hp, rfl, _⟩ := fnd_mem h
  exact List.mem_map_of_mem hp
theorem fnd_nk {t : List Pr} {k : V} (h : fndO t k = none) : k ∉ t.map Pr.key := fun hk => by
  obtain ⟨x, hx⟩ := fnd_some hk
  rw [hx] at h; cases h
/-- Where both look the same, no path leads to where they part. -/
theorem gtV_beq {a b : List (List Pr)} (ga : Gd a) (gb : Gd b) : ∀ (p : List V) (v w : V), Beq (a.map srt) (b.map srt) v w → ((gtV a p v).k = 4 ↔ (gtV b p w).k = 4) ∧ ((gtV a p v).k ≠ 4 → gtV a p v = gtV b p w)
  | [], v, w, h => ⟨h.k4, fun h4 => h.leaf h4⟩
  | k :: p, v, w, h => by
    unfold gtV
    by_cases h4 : v.k = 4
    · have h4' := h.k4.1 h4
      rw [if_pos h4, if_pos h4']
      have f1 : fndO (tabA (a.map srt) v.a.toNat) k = fndO (tabA a v.a.toNat) k := by rw [tabA_srt]; exact fnd_perm (srt_perm _) (((srt_perm _).map _).nodup_iff.2 (ga.tab _).1) k
      have f2 : fndO (tabA (b.map srt) w.a.toNat) k = fndO (tabA b w.a.toNat) k := by rw [tabA_srt]; exact fnd_perm (srt_perm _) (((srt_perm _).map _).nodup_iff.2 (gb.tab _).1) k
      have hk := h.keys h4
      cases hu : fndO (tabA a v.a.toNat) k with
      | none =>
        have e1 : fndO (tabA b w.a.toNat) k = none := by
          cases hw : fndO (tabA b w.a.toNat) k with
          | none => rfl
          | some y =>
            have := fnd_key (f2.trans hw)
            rw [← hk] at this
            exact absurd this (fnd_nk (f1.trans hu))
        rw [fdV_none hu, fdV_none e1]
        cases p with
        | nil => exact ⟨Iff.rfl, fun _ => rfl⟩
        | cons _ _ => exact ⟨Iff.rfl, fun _ => rfl⟩
      | some x =>
        cases hw : fndO (tabA b w.a.toNat) k with
        | none =>
          have := fnd_key (f1.trans hu)
          rw [hk] at this
          exact absurd this (fnd_nk (f2.trans hw))
        | some y =>
          rw [fdV_some hu, fdV_some hw]
          exact gtV_beq ga gb p x y (h.kid h4 (f1.trans hu) (f2.trans hw))
    · rw [if_neg h4, if_neg (fun e => h4 (h.k4.2 e))]
      exact ⟨Iff.rfl, fun _ => rfl⟩
end Go.Sy
/- What impl.Apart keeps: the queue, what it has seen; the plain answer. No condition. -/
namespace Go.Proofs.YtkamfnmbidnhdaaDoor
open Go.Sy
set_option maxRecDepth 100000
set_option maxHeartbeats 4000000
set_option linter.unusedVariables false
set_option linter.unusedSimpArgs false
theorem findV_eq (t : List Pr) (k : V) : findV t k = fdV t k := by
  induction t with
  | nil => rfl
  | cons p r ih =>
    unfold fdV at ih ⊢
    unfold findV fndO
    by_cases h : vEq p.key k = true
    · rw [if_pos h, if_pos h]; rfl
    · rw [if_neg h, if_neg h]; exact ih
/-- A way of the queue. -/
structure WQ where
  x : Nat
  y : Nat
  p : Hd
def WQ.c (w : WQ) : List Value := [.int .i64 w.x, .int .i64 w.y, .slice w.p.A w.p.n w.p.c]
theorem WQ.c_len (w : WQ) : w.c.length = 3 := rfl
theorem WQ.one (l : List WQ) : ∀ v ∈ l.flatMap WQ.c, Go.Sy.one v = true := fun v hv => by
  obtain ⟨x, _, hx⟩ := List.mem_flatMap.1 hv
  simp only [WQ.c, List.mem_cons, List.not_mem_nil, or_false] at hx
  rcases hx with rfl | rfl | rfl <;> rfl
structure WR (q : Hp) (ws : List WQ) (es : List AE) : Prop where
  len : ws.length = es.length
  row : ∀ (j : Nat) (w : WQ) (e : AE), ws[j]? = some w → es[j]? = some e → w.x = e.1.1 ∧ w.y = e.1.2 ∧ w.p.n ≤ w.p.c ∧ Rd V.c 4 q w.p.A w.p.n e.2
theorem WR.le {q q' : Hp} {ws : List WQ} {es : List AE} (h : WR q ws es) (hl : Le q q') : WR q' ws es := ⟨h.len, fun j w e h1 h2 => let ⟨a, b, c, d⟩ := h.row j w e h1 h2; ⟨a, b, c, d.le hl⟩⟩
theorem WR.tail {q : Hp} {w : WQ} {ws : List WQ} {e : AE} {es : List AE} (h : WR q (w :: ws) (e :: es)) : WR q ws es := ⟨by have := h.len; simpa using this, fun j x y h1 h2 => h.row (j + 1) x y (by simpa using h1) (by simpa using h2)⟩
theorem WR.snoc {q : Hp} {ws : List WQ} {es : List AE} (h : WR q ws es) {w : WQ} {e : AE} (hw : w.x = e.1.1 ∧ w.y = e.1.2 ∧ w.p.n ≤ w.p.c ∧ Rd V.c 4 q w.p.A w.p.n e.2) : WR q (ws ++ [w]) (es ++ [e]) := by
  refine ⟨by simp [h.len], fun j x y h1 h2 => ?_⟩
  by_cases hj : j < ws.length
  · rw [List.getElem?_append_left hj] at h1
    rw [List.getElem?_append_left (by rw [← h.len]; exact hj)] at h2
    exact h.row j x y h1 h2
  · have hl : j < (ws ++ [w]).length := (List.getElem?_eq_some_iff.1 h1).1
    simp at hl
    have e1 : j = ws.length := by omega
    subst e1
    rw [List.getElem?_append_right (Nat.le_refl _)] at h1
    rw [h.len, List.getElem?_append_right (Nat.le_refl _)] at h2
    simp at h1 h2
    subst h1
    subst h2
    exact hw
/-- A heap without the queue's row and the map. -/
def cut (u : Hp) (A : Option Addr) (g : Nat) : Hp := fun b => if blk A = some b ∨ b = g then none else u b
theorem cut_le (u : Hp) (A : Option Addr) (g : Nat) : Le (cut u A g) u := fun b o h => by
  unfold cut at h
  split at h
  · cases h
  · exact h
theorem cut_at {u : Hp} {A : Option Addr} {g b : Nat} (h1 : blk A ≠ some b) (h2 : b ≠ g) : cut u A g b = u b := by
  unfold cut
  rw [if_neg (fun e => e.elim h1 h2)]
theorem cut_no {u : Hp} {A : Option Addr} {g b : Nat} {o : Obj} (h : cut u A g b = some o) : blk A ≠ some b ∧ b ≠ g := by
  unfold cut at h
  split at h
  · cases h
  · rename_i hn; exact ⟨fun e => hn (.inl e), fun e => hn (.inr e)⟩
theorem cut_off (u : Hp) (A : Option Addr) (g : Nat) : Off (cut u A g) A := fun b hb => by unfold cut; rw [if_pos (.inl hb)]
theorem cut_mono {u u' : Hp} {A : Option Addr} {g : Nat} (hl : Le u u') : Le (cut u A g) (cut u' A g) := fun b o h => by
  obtain ⟨h1, h2⟩ := cut_no h
  rw [cut_at h1 h2] at h ⊢
  exact hl b o h
def mpL (L : List AE) : List ((Int × Int) × Int) := L.map fun e => (((e.1.1 : Int), (e.1.2 : Int)), 1)
theorem mpL_has (L : List AE) (x y : Nat) : (((x : Int), (y : Int)) ∈ (mpL L).map (·.1)) ↔ inL L x y = true := by
  unfold mpL inL
  rw [List.map_map, List.mem_map, List.any_eq_true]
  constructor
  · rintro ⟨e, he, h⟩
    refine ⟨e, he, ?_⟩
    simp only [Function.comp_apply, Prod.mk.injEq] at h
    simp only [Bool.and_eq_true, beq_iff_eq]
    omega
  · rintro ⟨e, he, h⟩
    refine ⟨e, he, ?_⟩
    simp only [Bool.and_eq_true, beq_iff_eq] at h
    simp only [Function.comp_apply, Prod.mk.injEq]
    omega
theorem mpL_get (L : List AE) (x y : Nat) : mget (mpL L) ((x : Int), (y : Int)) = if inL L x y = true then 1 else 0 := by
  unfold mget mpL
  induction L with
  | nil => rfl
  | cons e r ih =>
    rw [List.map_cons, List.find?_cons]
    by_cases h : ((x : Int), (y : Int)) = ((e.1.1 : Int), (e.1.2 : Int))
    · have h2 : inL (e :: r) x y = true := by
        simp only [Prod.mk.injEq] at h
        unfold inL
        rw [List.any_cons, Bool.or_eq_true]
        left
        simp only [Bool.and_eq_true, beq_iff_eq]
        omega
      simp only [h, decide_true, h2, if_true]
      rfl
    · have h2 : inL (e :: r) x y = inL r x y := by
        unfold inL
        rw [List.any_cons]
        have : (e.1.1 == x && e.1.2 == y) = false := by
          cases hb : (e.1.1 == x && e.1.2 == y) with
          | false => rfl
          | true =>
            simp only [Bool.and_eq_true, beq_iff_eq] at hb
            exact absurd (by rw [hb.1, hb.2]) h
        rw [this, Bool.false_or]
      simp only [h, decide_false, h2]
      exact ih
theorem mpL_set {L : List AE} {e : AE} (h : ¬ inL L e.1.1 e.1.2 = true) : mset (mpL L) ((e.1.1 : Int), (e.1.2 : Int)) 1 = mpL (L ++ [e]) := by
  rw [mset_new _ _ (fun hm => h ((mpL_has L _ _).1 hm))]
  unfold mpL
  rw [List.map_append]; rfl
/-- The queue in the heap, and what was seen. -/
structure AS (h u : Hp) (g : Nat) (A : Option Addr) (c : Nat) (ws : List WQ) (L es : List AE) : Prop where
  base : Le h (cut u A g)
  own : Own u A ws.length c 108 3 (ws.flatMap WQ.c)
  map : MAt Tryd.prog tKey u g (mpL L)
  ne : blk A ≠ some g
  rows : WR (cut u A g) ws es
section
variable {h u u' u3 : Hp} {g : Nat} {A A' : Option Addr} {c c' : Nat} {ws : List WQ} {L L' es : List AE}
theorem AS.le (S : AS h u g A c ws L es) (hl : Le u u') : AS h u' g A c ws L es := ⟨S.base.trans (cut_mono hl), S.own.le fun b o _ => hl b o, S.map.le hl, S.ne, S.rows.le (cut_mono hl)⟩
theorem AS.hu (S : AS h u g A c ws L es) : Le h u := S.base.trans (cut_le u A g)
/-- What was seen is set anew. -/
theorem AS.up (S : AS h u g A c ws L es) (hM : MAt Tryd.prog tKey u' g (mpL L')) (hu : ∀ x, x ≠ g → u' x = u x) : AS h u' g A c ws L' es := by
  have e : cut u' A g = cut u A g := by
    funext b
    unfold cut
    by_cases hb : blk A = some b ∨ b = g
    · rw [if_pos hb, if_pos hb]
    · rw [if_neg hb, if_neg hb, hu b (fun e => hb (.inr e))]
  exact ⟨by rw [e]; exact S.base, S.own.le (fun b o hb ho => by rw [hu b (fun e => S.ne (by rw [hb, e]))]; exact ho), hM, S.ne, by rw [e]; exact S.rows⟩
/-- A base that holds more. -/
theorem AS.re {h' : Hp} (S : AS h u g A c ws L es) (hl : Le h' (cut u A g)) : AS h' u g A c ws L es := ⟨hl, S.own, S.map, S.ne, S.rows⟩
/-- One way more. -/
theorem AS.push (S : AS h u g A c ws L es) (hle : Le u u') {w : WQ} {e : AE} (hw : w.x = e.1.1 ∧ w.y = e.1.2 ∧ w.p.n ≤ w.p.c ∧ Rd V.c 4 (cut u A g) w.p.A w.p.n e.2) (hO : Own u3 A' (ws.length + 1) c' 108 3 (ws.flatMap WQ.c ++ [w].flatMap WQ.c)) (hG : Grown u' u3 A A') :
    AS h u3 g A' c' (ws ++ [w]) L (es ++ [e]) := by
  obtain ⟨k1, k2⟩ := hG (cut u A g) ((cut_le u A g).trans hle) (cut_off u A g)
  obtain ⟨o, m1, m2⟩ := S.map
  have hg : u3 g = some o ∧ blk A' ≠ some g := by
    obtain ⟨k3, k4⟩ := hG (fun x => if x = g then some o else none) (fun x y hx => by
      have hx' : (if x = g then some o else none) = some y := hx
      split at hx'
      · rename_i e; rw [e, hle g o m1, ← hx']
      · cases hx') (fun b hb => if_neg (fun e => S.ne (by rw [hb, e])))
    refine ⟨k3 g o (if_pos rfl), fun e => ?_⟩
    have h1 : (if g = g then some o else none) = none := k4 g e
    rw [if_pos rfl] at h1; cases h1
  have hc : Le (cut u A g) (cut u3 A' g) := fun b o hb => by
    obtain ⟨h1, h2⟩ := cut_no hb
    rw [cut_at (fun e => by rw [k2 b e] at hb; cases hb) h2]
    exact k1 b o hb
  exact ⟨S.base.trans hc, by rw [List.length_append, List.flatMap_append]; exact hO, ⟨o, hg.1, m2⟩, hg.2, (S.rows.snoc hw).le hc⟩
/-- The first way is taken out. -/
theorem AS.pop {b off : Nat} {w : WQ} {e : AE} (S : AS h u g (some ⟨b, off, none⟩) c (w :: ws) L (e :: es)) : AS h u g (subA (some ⟨b, off, none⟩) c 1 3) (c - 1) ws L es := by
  have hcap := S.own.cap
  have hbl : blk (subA (some ⟨b, off, none⟩) c 1 3) = some b := by
    unfold subA
    split
    · rfl
    · simp only [Option.map_some, blk, Addr.add]
      split <;> simp_all
  have hcut : ∀ x, cut u (subA (some ⟨b, off, none⟩) c 1 3) g x = cut u (some ⟨b, off, none⟩) g x := fun x => by
    unfold cut
    rw [hbl]; rfl
  have e0 : cut u (subA (some ⟨b, off, none⟩) c 1 3) g = cut u (some ⟨b, off, none⟩) g := funext hcut
  refine ⟨by rw [e0]; exact S.base, ?_, S.map, by rw [hbl]; exact S.ne, by rw [e0]; exact S.rows.tail⟩
  by_cases hc : c = 1
  · have hw : ws = [] := by
      simp only [List.length_cons] at hcap
      exact List.length_eq_zero_iff.1 (by omega)
    subst hw
    have e1 : subA (some ⟨b, off, none⟩) c 1 3 = some ⟨b, off, none⟩ := by unfold subA; rw [if_pos hc]
    rw [e1]
    obtain ⟨g0, arr, g1, g2, g3⟩ := S.own.row _ rfl
    exact ⟨rfl, Nat.zero_le _, fun h => (by cases h), fun a ha => by
      have e' := Option.some.inj ha; subst e'
      exact ⟨rfl, arr, g1, by simp only at g2 ⊢; have := Nat.mul_le_mul_right 3 (show c - 1 ≤ c by omega); omega, fun j v hj => by simp at hj⟩⟩
  · rw [subA_some hc]
    have := S.own.drop (k := 1) (by simp)
    simpa [WQ.c] using this
end
theorem own_lit {u : Hp} {b m e sz : Nat} {vs : List Value} (hl : vs.length = m * sz) : Own (upd u b (.cells vs.toArray e (0, 0))) (some ⟨b, 0, none⟩) m m e sz vs :=
  ⟨hl, Nat.le_refl _, fun h => (by cases h), fun a ha => by
    have e' := Option.some.inj ha; subst e'
    exact ⟨rfl, _, upd_here .., by simp [hl], fun j v hj => by simpa using hj⟩⟩
/-- What Apart answers. -/
def apA (v w : V) (a b : List (List Pr)) : List V := if (GOk v a ∧ GOk w b) ∧ (v.k = 4 ∧ w.k = 4) then runI a b (a.length * b.length + 1) [((v.a.toNat, w.a.toNat), [])] 0 else []
end Go.Proofs.YtkamfnmbidnhdaaDoor
