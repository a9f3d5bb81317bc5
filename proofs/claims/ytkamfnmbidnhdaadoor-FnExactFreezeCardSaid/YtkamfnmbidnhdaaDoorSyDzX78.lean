/- The walk by a symbolic frame (SyDzX78): contracts of functions; each with its own conditions as hypotheses. -/
import Derived.Test.YtkamfnmbidnhdaaDoorSyDT
set_option linter.unusedVariables false
set_option linter.unusedSimpArgs false
set_option linter.unusedSectionVars false
namespace Go.Proofs.YtkamfnmbidnhdaaDoor
open Go.Sy
set_option maxRecDepth 100000
set_option maxHeartbeats 4000000
set_option linter.unusedVariables false
/-- The decimal digits of k, ahead of acc. -/
def mdg (k : Nat) (acc : List UInt8) : List UInt8 := if h : k = 0 then acc else mdg (k / 10) (UInt8.ofNat (48 + k % 10) :: acc)
  termination_by k
  decreasing_by omega
def mtxt (x : Int) : ByteArray := (⟨#[109]⟩ : ByteArray) ++ ⟨(mdg x.toNat []).toArray⟩
theorem byteCells_one (b : UInt8) : byteCells ⟨#[b]⟩ = [.int .u8 (b.toNat : Int)] := rfl
theorem u8_toNat (k : Nat) : ((UInt8.ofNat (48 + k % 10)).toNat : Int) = 48 + ((k % 10 : Nat) : Int) := by
  simp [UInt8.toNat_ofNat']; omega
theorem markText (x : Int) (h : Hp) (h0 : 0 < x) (h1 : x ≤ 4611686018427387904) : Pur Tryd.prog 158 [.v (.int .i64 x)] h (fun y : ByteArray => .v (.string y)) (mtxt x) := by
  obtain ⟨m0, rfl⟩ := Int.eq_ofNat_of_zero_le (Int.le_of_lt h0)
  refine enterS Tryd.func158 rfl (n := 20) rfl rfl (fun k N => ?_)
  repeat' (first | (refine r_pure hT rfl rfl rfl rfl ?_) | (refine r_new hT rfl rfl rfl rfl ?_) | (refine r_write hT rfl rfl rfl ?_) | (refine r_nil ?_) | (refine q_nil ?_) | (refine r_arith rfl rfl rfl rfl rfl rfl rfl (by omega) ?_) | (with_reducible refine r_seq ?_) | (with_reducible refine x_then ?_) | (with_reducible refine r_region ?_) | (refine r_draw hM (by kernel_rfl) ?_) | (with_reducible refine r_skip ?_) | (with_reducible refine r_ret ?_) | (with_reducible refine x_then_ret ?_) | (with_reducible refine r_block ?_) | (with_reducible refine x_block ?_) | (with_reducible refine x_block_ret ?_) | (with_reducible refine r_exit ?_) | (with_reducible refine x_then_exit ?_) | (with_reducible refine x_block_here ?_) | (refine x_block_past rfl ?_) | (refine c_yes rfl (by omega) ?_) | (refine c_no rfl (by omega) ?_) | (refine c_no rfl (fun h => h rfl) ?_) | (refine r_cond_false rfl ?_) | (refine r_cond_true rfl ?_) | (refine r_cond_dec rfl (fun _ => ?_) (fun _ => ?_)) | (refine r_cond_true rfl ?_) | (refine r_cond_false rfl ?_) | (refine c_not rfl (fun _ => ?_) (fun _ => ?_)) | (refine r_off rfl rfl rfl ?_) | (refine q_guard rfl rfl (fun _ => ?_) (fun _ => ?_)) | (refine q_guardn rfl rfl (fun _ => ?_) (fun _ => ?_)))
  refine r_loop (γ := Nat × List UInt8) (fun g => g.2.length + g.1 ≤ m0 ∧ mdg g.1 g.2 = mdg m0 []) (fun g => [(0, .v (.int .i64 g.1)), (3, .v (.string ⟨g.2.toArray⟩))]) (fun _ => []) (fun _ => h) (fun g => g.1)
    (m0, []) ⟨by simp, rfl⟩ (into rfl ⟨rfl, rfl, trivial⟩ trivial rfl rfl) ?_
  rintro ⟨m, acc⟩ ⟨hm, hf⟩
  dsimp only at *
  by_cases hz : m = 0
  · subst hz
    repeat' (first | (refine r_pure hT rfl rfl rfl rfl ?_) | (refine r_new hT rfl rfl rfl rfl ?_) | (refine r_write hT rfl rfl rfl ?_) | (refine r_nil ?_) | (refine q_nil ?_) | (refine r_concat rfl rfl rfl rfl rfl rfl (by show 1 + acc.toArray.size ≤ _; simp; omega) ?_) | (refine r_arith rfl rfl rfl rfl rfl rfl rfl (by omega) ?_) | (with_reducible refine r_seq ?_) | (with_reducible refine x_then ?_) | (with_reducible refine r_region ?_) | (refine r_draw hM (by kernel_rfl) ?_) | (with_reducible refine r_skip ?_) | (with_reducible refine r_ret ?_) | (with_reducible refine x_then_ret ?_) | (with_reducible refine r_block ?_) | (with_reducible refine x_block ?_) | (with_reducible refine x_block_ret ?_) | (with_reducible refine r_exit ?_) | (with_reducible refine x_then_exit ?_) | (with_reducible refine x_block_here ?_) | (refine x_block_past rfl ?_) | (refine c_yes rfl (by omega) ?_) | (refine c_no rfl (by omega) ?_) | (refine c_no rfl (fun h => h rfl) ?_) | (refine r_cond_false rfl ?_) | (refine r_cond_true rfl ?_) | (refine r_cond_dec rfl (fun _ => ?_) (fun _ => ?_)) | (refine r_cond_true rfl ?_) | (refine r_cond_false rfl ?_) | (refine c_not rfl (fun _ => ?_) (fun _ => ?_)) | (refine r_off rfl rfl rfl ?_) | (refine q_guard rfl rfl (fun _ => ?_) (fun _ => ?_)) | (refine q_guardn rfl rfl (fun _ => ?_) (fun _ => ?_)))
    refine r_fin hT rfl _ rfl rfl rfl trivial rfl ⟨?_, rfl⟩
    have : acc = mdg m0 [] := by rw [← hf, mdg]; simp
    rw [this]; rfl
  · repeat' (first | (refine r_pure hT rfl rfl rfl rfl ?_) | (refine r_new hT rfl rfl rfl rfl ?_) | (refine r_write hT rfl rfl rfl ?_) | (refine r_nil ?_) | (refine q_nil ?_) | (refine r_remN rfl rfl rfl rfl rfl rfl (q := 10) (by omega) ?_) | (refine r_quoN rfl rfl rfl rfl rfl rfl (q := 10) (by omega) (by omega) ?_) | (refine r_conv hT rfl rfl rfl rfl rfl rfl rfl rfl (IntWalk.u8_in _ (by omega)) ?_) | (refine r_bslice hT rfl rfl rfl (ps := [(0, .tmp 11)]) rfl rfl rfl rfl (by simp) rfl rfl (by decide) (fun b hb => ?_)) | (refine r_str (s := ⟨#[UInt8.ofNat (48 + m % 10)]⟩) hT rfl rfl rfl rfl rfl rfl rfl rfl rfl rfl rfl ⟨rfl, fun h => (by cases h), fun a ha _ => (by have e := Option.some.inj ha; subst e; exact ⟨rfl, _, _, _, upd_here .., fun j v hj => (by rw [byteCells_one, u8_toNat] at hj; simpa using hj)⟩)⟩ ?_) | (refine r_concat rfl rfl rfl rfl rfl rfl (by show 1 + acc.toArray.size ≤ _; simp; omega) ?_) | (refine r_arith rfl rfl rfl rfl rfl rfl rfl (by omega) ?_) | (with_reducible refine r_seq ?_) | (with_reducible refine x_then ?_) | (with_reducible refine r_region ?_) | (refine r_draw hM (by kernel_rfl) ?_) | (with_reducible refine r_skip ?_) | (with_reducible refine r_ret ?_) | (with_reducible refine x_then_ret ?_) | (with_reducible refine r_block ?_) | (with_reducible refine x_block ?_) | (with_reducible refine x_block_ret ?_) | (with_reducible refine r_exit ?_) | (with_reducible refine x_then_exit ?_) | (with_reducible refine x_block_here ?_) | (refine x_block_past rfl ?_) | (refine c_yes rfl (by omega) ?_) | (refine c_no rfl (by omega) ?_) | (refine c_no rfl (fun h => h rfl) ?_) | (refine r_cond_false rfl ?_) | (refine r_cond_true rfl ?_) | (refine r_cond_dec rfl (fun _ => ?_) (fun _ => ?_)) | (refine r_cond_true rfl ?_) | (refine r_cond_false rfl ?_) | (refine c_not rfl (fun _ => ?_) (fun _ => ?_)) | (refine r_off rfl rfl rfl ?_) | (refine q_guard rfl rfl (fun _ => ?_) (fun _ => ?_)) | (refine q_guardn rfl rfl (fun _ => ?_) (fun _ => ?_)))
    refine St.weak ((Le.refl h).upd (by assumption)) ?_
    refine x_round (m / 10, UInt8.ofNat (48 + m % 10) :: acc) ⟨by simp; omega, by rw [← hf, mdg.eq_def m acc, dif_neg hz]⟩ (by simp; omega) (into rfl ⟨rfl, ?_, trivial⟩ trivial rfl rfl)
    show some _ = some _
    congr 3
def mkPr (x : Int) : Pr := ⟨⟨x, x + 1, mtxt (x + 1 + 1), x + 1 + 1 + 1⟩, ⟨x + 1 + 1 + 1 + 1, x + 1 + 1 + 1 + 1 + 1, mtxt (x + 1 + 1 + 1 + 1 + 1 + 1), x + 1 + 1 + 1 + 1 + 1 + 1 + 1⟩⟩
def mkPrs (n : Nat) (x : Int) : List Pr := (List.range n).map fun i : Nat => mkPr (x + 8 * i)
theorem mkPrs_succ (n : Nat) (x : Int) : mkPrs (n + 1) x = mkPrs n x ++ [mkPr (x + 8 * n)] := by simp [mkPrs, List.range_succ]
theorem mkPrs_len (n : Nat) (x : Int) : (mkPrs n x).length = n := by simp [mkPrs]
theorem eight {l : List Value} (h : 8 ≤ l.length) : ∃ a b c d e f g k r, l = a :: b :: c :: d :: e :: f :: g :: k :: r := by
  match l, h with
  | a :: b :: c :: d :: e :: f :: g :: k :: r, _ => exact ⟨a, b, c, d, e, f, g, k, r, rfl⟩
theorem markPairS (A : Option Addr) (n c : Nat) (x : Int) (cs : List Value) (h : Hp) (hO : Own h A n c 61 8 cs) (h0 : 1 ≤ x) (h1 : x + 8 * n ≤ 2305843009213693952) :
    TriS Tryd.prog 126 [.v (.slice A n c), .v (.int .i64 x)] [] h (fun _ : Unit => .v (.int .i64 (x + 8 * n))) (fun _ => []) (fun _ h' => Own h' A n c 61 8 ((mkPrs n x).flatMap Pr.c) ∧ ∀ b, blk A ≠ some b → h' b = h b) := by
  refine enterS Tryd.func126 rfl (n := 79) rfl rfl (fun k N => ?_)
  repeat' (first | (refine r_pure hT rfl rfl rfl rfl ?_) | (refine r_new hT rfl rfl rfl rfl ?_) | (refine r_write hT rfl rfl rfl ?_) | (refine r_nil ?_) | (refine q_nil ?_) | (refine r_arith rfl rfl rfl rfl rfl rfl rfl (by omega) ?_) | (with_reducible refine r_seq ?_) | (with_reducible refine x_then ?_) | (with_reducible refine r_region ?_) | (refine r_draw hM (by kernel_rfl) ?_) | (with_reducible refine r_skip ?_) | (with_reducible refine r_ret ?_) | (with_reducible refine x_then_ret ?_) | (with_reducible refine r_block ?_) | (with_reducible refine x_block ?_) | (with_reducible refine x_block_ret ?_) | (with_reducible refine r_exit ?_) | (with_reducible refine x_then_exit ?_) | (with_reducible refine x_block_here ?_) | (refine x_block_past rfl ?_) | (refine c_yes rfl (by omega) ?_) | (refine c_no rfl (by omega) ?_) | (refine c_no rfl (fun h => h rfl) ?_) | (refine r_cond_false rfl ?_) | (refine r_cond_true rfl ?_) | (refine r_cond_dec rfl (fun _ => ?_) (fun _ => ?_)) | (refine r_cond_true rfl ?_) | (refine r_cond_false rfl ?_) | (refine c_not rfl (fun _ => ?_) (fun _ => ?_)) | (refine r_off rfl rfl rfl ?_) | (refine q_guard rfl rfl (fun _ => ?_) (fun _ => ?_)) | (refine q_guardn rfl rfl (fun _ => ?_) (fun _ => ?_)))
  refine r_loop (γ := (Nat × Hp) × List Value) (fun g => g.1.1 ≤ n ∧ g.2.length = (n - g.1.1) * 8 ∧ Own g.1.2 A n c 61 8 ((mkPrs g.1.1 x).flatMap Pr.c ++ g.2) ∧ ∀ b, blk A ≠ some b → g.1.2 b = h b)
    (fun g => [(0, .v (.slice A n c)), (1, .v (.int .i64 (x + 8 * g.1.1))), (5, .v (.int .i64 g.1.1))]) (fun _ => []) (fun g => g.1.2) (fun g => n - g.1.1)
    ((0, h), cs) ⟨Nat.zero_le _, by simpa using hO.len, by simpa [mkPrs] using hO, fun _ _ => rfl⟩ (into rfl ⟨rfl, congrArg (fun z => some (SV.v (.int .i64 z))) (by simp), rfl, trivial⟩ trivial rfl rfl) ?_
  rintro ⟨⟨i, v⟩, tl⟩ ⟨hi, hlen, hO, hK⟩
  dsimp only at *
  by_cases hlt : i < n
  · obtain ⟨b, off, rfl⟩ := own_some hO hlt
    replace hK : ∀ x, x ≠ b → v x = h x := fun x hx => hK x (fun e => hx (Option.some.inj e).symm)
    obtain ⟨t0, t1, t2, t3, t4, t5, t6, t7, tl', rfl⟩ := eight (l := tl) (by omega)
    have hpre : ((mkPrs i x).flatMap Pr.c).length = i * 8 := by rw [flat_length Pr.c_len, mkPrs_len]
    repeat' (first | (refine r_pure hT rfl rfl rfl rfl ?_) | (refine r_new hT rfl rfl rfl rfl ?_) | (refine r_write hT rfl rfl rfl ?_) | (refine r_nil ?_) | (refine q_nil ?_) | (refine r_indexN hT rfl rfl rfl rfl rfl rfl rfl rfl rfl (by omega) ?_) | (refine p_call (markText _ _ (by omega) (by omega)) rfl rfl rfl rfl rfl (hC _ rfl) rfl rfl rfl ?_) | (refine r_store_row2 hT hO hK rfl rfl rfl rfl (by rw [hpre]) rfl rfl rfl rfl rfl rfl rfl (fun u' hO hK => ?_)) | (refine r_arith rfl rfl rfl rfl rfl rfl rfl (by omega) ?_) | (with_reducible refine r_seq ?_) | (with_reducible refine x_then ?_) | (with_reducible refine r_region ?_) | (refine r_draw hM (by kernel_rfl) ?_) | (with_reducible refine r_skip ?_) | (with_reducible refine r_ret ?_) | (with_reducible refine x_then_ret ?_) | (with_reducible refine r_block ?_) | (with_reducible refine x_block ?_) | (with_reducible refine x_block_ret ?_) | (with_reducible refine r_exit ?_) | (with_reducible refine x_then_exit ?_) | (with_reducible refine x_block_here ?_) | (refine x_block_past rfl ?_) | (refine c_yes rfl (by omega) ?_) | (refine c_no rfl (by omega) ?_) | (refine c_no rfl (fun h => h rfl) ?_) | (refine r_cond_false rfl ?_) | (refine r_cond_true rfl ?_) | (refine r_cond_dec rfl (fun _ => ?_) (fun _ => ?_)) | (refine r_cond_true rfl ?_) | (refine r_cond_false rfl ?_) | (refine c_not rfl (fun _ => ?_) (fun _ => ?_)) | (refine r_off rfl rfl rfl ?_) | (refine q_guard rfl rfl (fun _ => ?_) (fun _ => ?_)) | (refine q_guardn rfl rfl (fun _ => ?_) (fun _ => ?_)))
    refine x_round ((i + 1, u'), tl') ⟨hlt, by simp at hlen; show tl'.length = (n - (i + 1)) * 8; omega, ?_, fun z hz => hK z (fun e => hz (by rw [e]; rfl))⟩ (by simp; omega) (into rfl ⟨rfl, congrArg (fun z => some (SV.v (.int .i64 z))) (by simp; omega), rfl, trivial⟩ trivial rfl rfl)
    show Own u' _ n c 61 8 ((mkPrs (i + 1) x).flatMap Pr.c ++ tl')
    rw [mkPrs_succ]
    simpa [Pr.c, mkPr] using hO
  · obtain rfl : i = n := by omega
    have : tl = [] := List.length_eq_zero_iff.1 (by simpa using hlen)
    subst this
    rw [List.append_nil] at hO
    repeat' (first | (refine r_pure hT rfl rfl rfl rfl ?_) | (refine r_new hT rfl rfl rfl rfl ?_) | (refine r_write hT rfl rfl rfl ?_) | (refine r_nil ?_) | (refine q_nil ?_) | (refine r_arith rfl rfl rfl rfl rfl rfl rfl (by omega) ?_) | (with_reducible refine r_seq ?_) | (with_reducible refine x_then ?_) | (with_reducible refine r_region ?_) | (refine r_draw hM (by kernel_rfl) ?_) | (with_reducible refine r_skip ?_) | (with_reducible refine r_ret ?_) | (with_reducible refine x_then_ret ?_) | (with_reducible refine r_block ?_) | (with_reducible refine x_block ?_) | (with_reducible refine x_block_ret ?_) | (with_reducible refine r_exit ?_) | (with_reducible refine x_then_exit ?_) | (with_reducible refine x_block_here ?_) | (refine x_block_past rfl ?_) | (refine c_yes rfl (by omega) ?_) | (refine c_no rfl (by omega) ?_) | (refine c_no rfl (fun h => h rfl) ?_) | (refine r_cond_false rfl ?_) | (refine r_cond_true rfl ?_) | (refine r_cond_dec rfl (fun _ => ?_) (fun _ => ?_)) | (refine r_cond_true rfl ?_) | (refine r_cond_false rfl ?_) | (refine c_not rfl (fun _ => ?_) (fun _ => ?_)) | (refine r_off rfl rfl rfl ?_) | (refine q_guard rfl rfl (fun _ => ?_) (fun _ => ?_)) | (refine q_guardn rfl rfl (fun _ => ?_) (fun _ => ?_)))
    exact r_fin hT rfl () rfl rfl rfl trivial rfl ⟨hO, hK⟩
theorem mkPrs_get {n : Nat} {x : Int} {i : Nat} {p : Pr} (h : (mkPrs n x)[i]? = some p) : p = mkPr (x + 8 * i) := by
  have hi : i < n := by have := (List.getElem?_eq_some_iff.1 h).1; rwa [mkPrs_len] at this
  simp [mkPrs, hi] at h
  exact h.symm
theorem heldPairS (A : Option Addr) (n c : Nat) (x : Int) (h : Hp) (hP : Pairs h A n (mkPrs n x)) (h0 : 1 ≤ x) (h1 : x + 8 * n ≤ 2305843009213693952) :
    Pur Tryd.prog 132 [.v (.slice A n c), .v (.int .i64 x)] h (fun y : Int => .v (.int .i64 y)) (x + 8 * n) := by
  refine enterS Tryd.func132 rfl (n := 95) rfl rfl (fun k N => ?_)
  repeat' (first | (refine r_pure hT rfl rfl rfl rfl ?_) | (refine r_new hT rfl rfl rfl rfl ?_) | (refine r_write hT rfl rfl rfl ?_) | (refine r_nil ?_) | (refine q_nil ?_) | (refine r_arith rfl rfl rfl rfl rfl rfl rfl (by omega) ?_) | (with_reducible refine r_seq ?_) | (with_reducible refine x_then ?_) | (with_reducible refine r_region ?_) | (refine r_draw hM (by kernel_rfl) ?_) | (with_reducible refine r_skip ?_) | (with_reducible refine r_ret ?_) | (with_reducible refine x_then_ret ?_) | (with_reducible refine r_block ?_) | (with_reducible refine x_block ?_) | (with_reducible refine x_block_ret ?_) | (with_reducible refine r_exit ?_) | (with_reducible refine x_then_exit ?_) | (with_reducible refine x_block_here ?_) | (refine x_block_past rfl ?_) | (refine c_yes rfl (by omega) ?_) | (refine c_no rfl (by omega) ?_) | (refine c_no rfl (fun h => h rfl) ?_) | (refine r_cond_false rfl ?_) | (refine r_cond_true rfl ?_) | (refine r_cond_dec rfl (fun _ => ?_) (fun _ => ?_)) | (refine r_cond_true rfl ?_) | (refine r_cond_false rfl ?_) | (refine c_not rfl (fun _ => ?_) (fun _ => ?_)) | (refine r_off rfl rfl rfl ?_) | (refine q_guard rfl rfl (fun _ => ?_) (fun _ => ?_)) | (refine q_guardn rfl rfl (fun _ => ?_) (fun _ => ?_)))
  refine r_loop (γ := Nat) (fun i => i ≤ n) (fun i => [(0, .v (.slice A n c)), (1, .v (.int .i64 (x + 8 * i))), (5, .v (.int .i64 i))]) (fun _ => []) (fun _ => h) (fun i => n - i)
    0 (Nat.zero_le _) (into rfl ⟨rfl, congrArg (fun z => some (SV.v (.int .i64 z))) (by simp), rfl, trivial⟩ trivial rfl rfl) ?_
  intro i hi
  by_cases hlt : i < n
  · obtain ⟨b, off, p, rfl, hd, hix, hm, hat⟩ := hP.elem Pr.c_len (i := i) (by rw [mkPrs_len]; exact hlt)
    obtain rfl := mkPrs_get hix
    repeat' (first | (refine r_pure hT rfl rfl rfl rfl ?_) | (refine r_new hT rfl rfl rfl rfl ?_) | (refine r_write hT rfl rfl rfl ?_) | (refine r_nil ?_) | (refine q_nil ?_) | (refine r_indexN hT rfl rfl rfl rfl rfl rfl rfl rfl rfl (by omega) ?_) | (refine p_call (markText _ _ (by omega) (by omega)) rfl rfl rfl rfl rfl (hC _ rfl) rfl rfl rfl ?_) | (refine r_ld2 hT hat rfl rfl rfl rfl rfl rfl rfl rfl rfl rfl ?_) | (refine c_no rfl (fun h => h rfl) ?_) | (refine r_arith rfl rfl rfl rfl rfl rfl rfl (by omega) ?_) | (with_reducible refine r_seq ?_) | (with_reducible refine x_then ?_) | (with_reducible refine r_region ?_) | (refine r_draw hM (by kernel_rfl) ?_) | (with_reducible refine r_skip ?_) | (with_reducible refine r_ret ?_) | (with_reducible refine x_then_ret ?_) | (with_reducible refine r_block ?_) | (with_reducible refine x_block ?_) | (with_reducible refine x_block_ret ?_) | (with_reducible refine r_exit ?_) | (with_reducible refine x_then_exit ?_) | (with_reducible refine x_block_here ?_) | (refine x_block_past rfl ?_) | (refine c_yes rfl (by omega) ?_) | (refine c_no rfl (by omega) ?_) | (refine c_no rfl (fun h => h rfl) ?_) | (refine r_cond_false rfl ?_) | (refine r_cond_true rfl ?_) | (refine r_cond_dec rfl (fun _ => ?_) (fun _ => ?_)) | (refine r_cond_true rfl ?_) | (refine r_cond_false rfl ?_) | (refine c_not rfl (fun _ => ?_) (fun _ => ?_)) | (refine r_off rfl rfl rfl ?_) | (refine q_guard rfl rfl (fun _ => ?_) (fun _ => ?_)) | (refine q_guardn rfl rfl (fun _ => ?_) (fun _ => ?_)))
    exact x_round (i + 1) hlt (by omega) (into rfl ⟨rfl, congrArg (fun z => some (SV.v (.int .i64 z))) (by simp; omega), rfl, trivial⟩ trivial rfl rfl)
  · obtain rfl : i = n := by omega
    repeat' (first | (refine r_pure hT rfl rfl rfl rfl ?_) | (refine r_new hT rfl rfl rfl rfl ?_) | (refine r_write hT rfl rfl rfl ?_) | (refine r_nil ?_) | (refine q_nil ?_) | (refine r_arith rfl rfl rfl rfl rfl rfl rfl (by omega) ?_) | (with_reducible refine r_seq ?_) | (with_reducible refine x_then ?_) | (with_reducible refine r_region ?_) | (refine r_draw hM (by kernel_rfl) ?_) | (with_reducible refine r_skip ?_) | (with_reducible refine r_ret ?_) | (with_reducible refine x_then_ret ?_) | (with_reducible refine r_block ?_) | (with_reducible refine x_block ?_) | (with_reducible refine x_block_ret ?_) | (with_reducible refine r_exit ?_) | (with_reducible refine x_then_exit ?_) | (with_reducible refine x_block_here ?_) | (refine x_block_past rfl ?_) | (refine c_yes rfl (by omega) ?_) | (refine c_no rfl (by omega) ?_) | (refine c_no rfl (fun h => h rfl) ?_) | (refine r_cond_false rfl ?_) | (refine r_cond_true rfl ?_) | (refine r_cond_dec rfl (fun _ => ?_) (fun _ => ?_)) | (refine r_cond_true rfl ?_) | (refine r_cond_false rfl ?_) | (refine c_not rfl (fun _ => ?_) (fun _ => ?_)) | (refine r_off rfl rfl rfl ?_) | (refine q_guard rfl rfl (fun _ => ?_) (fun _ => ?_)) | (refine q_guardn rfl rfl (fun _ => ?_) (fun _ => ?_)))
    exact r_fin hT rfl _ rfl rfl rfl trivial rfl ⟨rfl, rfl⟩
end Go.Proofs.YtkamfnmbidnhdaaDoor
namespace Go.Proofs.YtkamfnmbidnhdaaDoor
open Go.Sy
set_option maxRecDepth 100000
set_option maxHeartbeats 4000000
set_option linter.unusedVariables false
def cnt : List (List Pr) → Nat
  | [] => 0
  | t :: r => t.length + cnt r
def mkAll : List (List Pr) → Int → List (List Pr)
  | [], _ => []
  | t :: r, x => mkPrs t.length x :: mkAll r (x + 8 * t.length)
theorem cnt_snoc (t : List Pr) : ∀ l, cnt (l ++ [t]) = cnt l + t.length
  | [] => by simp [cnt]
  | s :: r => by simp [cnt, cnt_snoc t r]; omega
theorem mkAll_snoc (t : List Pr) : ∀ (l : List (List Pr)) (x : Int), mkAll (l ++ [t]) x = mkAll l x ++ [mkPrs t.length (x + 8 * cnt l)]
  | [], x => by simp [mkAll, cnt]
  | s :: r, x => by simp only [List.cons_append, mkAll, mkAll_snoc t r, cnt]; congr 4; push_cast; omega
theorem mkAll_len : ∀ (l : List (List Pr)) (x : Int), (mkAll l x).length = l.length
  | [], _ => rfl
  | s :: r, x => by simp [mkAll, mkAll_len r]
theorem mkAll_get : ∀ (l : List (List Pr)) (x : Int) (i : Nat) (t : List Pr), l[i]? = some t → (mkAll l x)[i]? = some (mkPrs t.length (x + 8 * cnt (l.take i)))
  | [], _, i, t, h => by simp at h
  | s :: r, x, 0, t, h => by simp at h; subst h; simp [mkAll, cnt]
  | s :: r, x, i + 1, t, h => by
    simp only [List.getElem?_cons_succ] at h
    simp only [mkAll, List.getElem?_cons_succ, mkAll_get r _ i t h, List.take_succ_cons, cnt]
    congr 2; push_cast; omega
theorem cnt_take (ts : List (List Pr)) (i : Nat) {t : List Pr} (h : ts[i]? = some t) : cnt (ts.take i) + t.length ≤ cnt ts := by
  have h1 : ∀ l m : List (List Pr), cnt (l ++ m) = cnt l + cnt m := fun l m => by induction l with
    | nil => simp [cnt]
    | cons a r ih => simp [cnt, ih]; omega
  have h2 : ts = ts.take i ++ t :: ts.drop (i + 1) := by
    have hi : i < ts.length := (List.getElem?_eq_some_iff.1 h).1
    have : ts[i] = t := (List.getElem?_eq_some_iff.1 h).2
    rw [← this, ← List.drop_eq_getElem_cons hi, List.take_append_drop]
  have h3 := congrArg cnt h2
  rw [h1, cnt] at h3; omega
theorem markTableS (A : Option Addr) (n c : Nat) (hs : List Hd) (ts : List (List Pr)) (x : Int) (h : Hp) (hO : OT h 59 61 A n c hs ts) (h0 : 1 ≤ x) (h1 : x + 8 * cnt ts ≤ 2305843009213693952) (h2 : ts.length ≤ 9223372036854775807) :
    TriS Tryd.prog 88 [.v (.slice A n c), .v (.int .i64 x)] [] h (fun _ : Unit => .v (.int .i64 (x + 8 * cnt ts))) (fun _ => []) (fun _ h' => OT h' 59 61 A n c hs (mkAll ts x) ∧ ∀ b, (∀ y ∈ hs, blk y.A ≠ some b) → h' b = h b) := by
  have hn := hO.num
  refine enterS Tryd.func88 rfl (n := 20) rfl rfl (fun k N => ?_)
  repeat' (first | (refine r_pure hT rfl rfl rfl rfl ?_) | (refine r_new hT rfl rfl rfl rfl ?_) | (refine r_write hT rfl rfl rfl ?_) | (refine r_nil ?_) | (refine q_nil ?_) | (refine r_arith rfl rfl rfl rfl rfl rfl rfl (by omega) ?_) | (with_reducible refine r_seq ?_) | (with_reducible refine x_then ?_) | (with_reducible refine r_region ?_) | (refine r_draw hM (by kernel_rfl) ?_) | (with_reducible refine r_skip ?_) | (with_reducible refine r_ret ?_) | (with_reducible refine x_then_ret ?_) | (with_reducible refine r_block ?_) | (with_reducible refine x_block ?_) | (with_reducible refine x_block_ret ?_) | (with_reducible refine r_exit ?_) | (with_reducible refine x_then_exit ?_) | (with_reducible refine x_block_here ?_) | (refine x_block_past rfl ?_) | (refine c_yes rfl (by omega) ?_) | (refine c_no rfl (by omega) ?_) | (refine c_no rfl (fun h => h rfl) ?_) | (refine r_cond_false rfl ?_) | (refine r_cond_true rfl ?_) | (refine r_cond_dec rfl (fun _ => ?_) (fun _ => ?_)) | (refine r_cond_true rfl ?_) | (refine r_cond_false rfl ?_) | (refine c_not rfl (fun _ => ?_) (fun _ => ?_)) | (refine r_off rfl rfl rfl ?_) | (refine q_guard rfl rfl (fun _ => ?_) (fun _ => ?_)) | (refine q_guardn rfl rfl (fun _ => ?_) (fun _ => ?_)))
  refine r_loop (γ := Nat × Hp) (fun g => g.1 ≤ ts.length ∧ OT g.2 59 61 A n c hs (mkAll (ts.take g.1) x ++ ts.drop g.1) ∧ ∀ b, (∀ y ∈ hs, blk y.A ≠ some b) → g.2 b = h b)
    (fun g => [(0, .v (.slice A n c)), (1, .v (.int .i64 (x + 8 * cnt (ts.take g.1)))), (5, .v (.int .i64 g.1))]) (fun _ => []) (fun g => g.2) (fun g => ts.length - g.1)
    (0, h) ⟨Nat.zero_le _, hO, fun _ _ => rfl⟩ (into rfl ⟨rfl, congrArg (fun z => some (SV.v (.int .i64 z))) (by simp [cnt]), rfl, trivial⟩ trivial rfl rfl) ?_
  rintro ⟨i, v⟩ ⟨hi, hO, hK⟩
  dsimp only at *
  by_cases hlt : i < ts.length
  · have hm1 : (mkAll (ts.take i) x).length = i := by rw [mkAll_len]; simp; omega
    obtain ⟨b, off, y, t, rfl, hd, hy, hix, hmem, hat, hyn, hyO⟩ := hO.elem (i := i) (by simp [hm1]; omega)
    have hix' : ts[i]? = some t := by
      rw [List.getElem?_append_right (by omega), hm1, Nat.sub_self] at hix
      simpa using hix
    have hdrop : ts.drop i = t :: ts.drop (i + 1) := by
      have := (List.getElem?_eq_some_iff.1 hix').2
      rw [← this]; exact List.drop_eq_getElem_cons hlt
    have hct := cnt_take ts i hix'
    repeat' (first | (refine r_pure hT rfl rfl rfl rfl ?_) | (refine r_new hT rfl rfl rfl rfl ?_) | (refine r_write hT rfl rfl rfl ?_) | (refine r_nil ?_) | (refine q_nil ?_) | (refine r_indexN hT rfl rfl rfl rfl rfl rfl rfl rfl rfl (by omega) ?_) | (refine r_ld1 hT hat rfl rfl rfl rfl rfl rfl rfl rfl rfl rfl ?_) | (refine r_call (markPairS y.A y.n y.c (x + 8 * cnt (ts.take i)) _ _ hyO (by omega) (by omega)) rfl rfl rfl rfl rfl (hC _ rfl) rfl rfl (fun _ u' hu' => ?_)) | (refine r_arith rfl rfl rfl rfl rfl rfl rfl (by omega) ?_) | (with_reducible refine r_seq ?_) | (with_reducible refine x_then ?_) | (with_reducible refine r_region ?_) | (refine r_draw hM (by kernel_rfl) ?_) | (with_reducible refine r_skip ?_) | (with_reducible refine r_ret ?_) | (with_reducible refine x_then_ret ?_) | (with_reducible refine r_block ?_) | (with_reducible refine x_block ?_) | (with_reducible refine x_block_ret ?_) | (with_reducible refine r_exit ?_) | (with_reducible refine x_then_exit ?_) | (with_reducible refine x_block_here ?_) | (refine x_block_past rfl ?_) | (refine c_yes rfl (by omega) ?_) | (refine c_no rfl (by omega) ?_) | (refine c_no rfl (fun h => h rfl) ?_) | (refine r_cond_false rfl ?_) | (refine r_cond_true rfl ?_) | (refine r_cond_dec rfl (fun _ => ?_) (fun _ => ?_)) | (refine r_cond_true rfl ?_) | (refine r_cond_false rfl ?_) | (refine c_not rfl (fun _ => ?_) (fun _ => ?_)) | (refine r_off rfl rfl rfl ?_) | (refine q_guard rfl rfl (fun _ => ?_) (fun _ => ?_)) | (refine q_guardn rfl rfl (fun _ => ?_) (fun _ => ?_)))
    obtain ⟨hu1, hu2⟩ := hu'
    refine x_round (i + 1, u') ⟨hlt, ?_, fun b hb => (hu2 b (hb y (List.mem_of_getElem? hy))).trans (hK b hb)⟩ (by simp; omega) (into rfl ⟨rfl, congrArg (fun z => some (SV.v (.int .i64 z))) (by rw [take_snoc hix', cnt_snoc]; push_cast; omega), rfl, trivial⟩ trivial rfl rfl)
    show OT u' 59 61 _ n c hs (mkAll (ts.take (i + 1)) x ++ ts.drop (i + 1))
    rw [take_snoc hix', mkAll_snoc, List.append_assoc]
    rw [hdrop] at hO
    exact hO.set (y := y) (by rw [hm1]; exact hy) (mkPrs_len _ _) (by rw [hyn] at hu1 ⊢; exact hu1) hu2
  · obtain rfl : i = ts.length := by omega
    rw [List.take_length, List.drop_length, List.append_nil] at hO
    repeat' (first | (refine r_pure hT rfl rfl rfl rfl ?_) | (refine r_new hT rfl rfl rfl rfl ?_) | (refine r_write hT rfl rfl rfl ?_) | (refine r_nil ?_) | (refine q_nil ?_) | (refine r_arith rfl rfl rfl rfl rfl rfl rfl (by omega) ?_) | (with_reducible refine r_seq ?_) | (with_reducible refine x_then ?_) | (with_reducible refine r_region ?_) | (refine r_draw hM (by kernel_rfl) ?_) | (with_reducible refine r_skip ?_) | (with_reducible refine r_ret ?_) | (with_reducible refine x_then_ret ?_) | (with_reducible refine r_block ?_) | (with_reducible refine x_block ?_) | (with_reducible refine x_block_ret ?_) | (with_reducible refine r_exit ?_) | (with_reducible refine x_then_exit ?_) | (with_reducible refine x_block_here ?_) | (refine x_block_past rfl ?_) | (refine c_yes rfl (by omega) ?_) | (refine c_no rfl (by omega) ?_) | (refine c_no rfl (fun h => h rfl) ?_) | (refine r_cond_false rfl ?_) | (refine r_cond_true rfl ?_) | (refine r_cond_dec rfl (fun _ => ?_) (fun _ => ?_)) | (refine r_cond_true rfl ?_) | (refine r_cond_false rfl ?_) | (refine c_not rfl (fun _ => ?_) (fun _ => ?_)) | (refine r_off rfl rfl rfl ?_) | (refine q_guard rfl rfl (fun _ => ?_) (fun _ => ?_)) | (refine q_guardn rfl rfl (fun _ => ?_) (fun _ => ?_)))
    refine r_fin hT rfl () rfl rfl ?_ trivial rfl ⟨hO, hK⟩
    simp [valE]
theorem markGraph (vv : V) (A : Option Addr) (n c : Nat) (hs : List Hd) (ts : List (List Pr)) (x : Int) (h : Hp) (hO : OT h 59 61 A n c hs ts) (h0 : 1 ≤ x) (h1 : x + 8 * cnt ts ≤ 2305843009213693952) (h2 : ts.length ≤ 9223372036854775807) :
    TriS Tryd.prog 42 [.ag (gsv vv A n c), .v (.int .i64 x)] [] h (fun _ : Unit => .v (.int .i64 (x + 8 * cnt ts))) (fun _ => []) (fun _ h' => OT h' 59 61 A n c hs (mkAll ts x) ∧ ∀ b, (∀ y ∈ hs, blk y.A ≠ some b) → h' b = h b) := by
  refine enterS Tryd.func42 rfl (n := 10) rfl rfl (fun k N => ?_)
  repeat' (first | (refine r_pure hT rfl rfl rfl rfl ?_) | (refine r_new hT rfl rfl rfl rfl ?_) | (refine r_write hT rfl rfl rfl ?_) | (refine r_nil ?_) | (refine q_nil ?_) | (refine r_call (markTableS A n c hs ts x _ hO h0 h1 h2) rfl rfl rfl rfl rfl (hC _ rfl) rfl rfl (fun _ u' hu' => ?_)) | (refine r_arith rfl rfl rfl rfl rfl rfl rfl (by omega) ?_) | (with_reducible refine r_seq ?_) | (with_reducible refine x_then ?_) | (with_reducible refine r_region ?_) | (refine r_draw hM (by kernel_rfl) ?_) | (with_reducible refine r_skip ?_) | (with_reducible refine r_ret ?_) | (with_reducible refine x_then_ret ?_) | (with_reducible refine r_block ?_) | (with_reducible refine x_block ?_) | (with_reducible refine x_block_ret ?_) | (with_reducible refine r_exit ?_) | (with_reducible refine x_then_exit ?_) | (with_reducible refine x_block_here ?_) | (refine x_block_past rfl ?_) | (refine c_yes rfl (by omega) ?_) | (refine c_no rfl (by omega) ?_) | (refine c_no rfl (fun h => h rfl) ?_) | (refine r_cond_false rfl ?_) | (refine r_cond_true rfl ?_) | (refine r_cond_dec rfl (fun _ => ?_) (fun _ => ?_)) | (refine r_cond_true rfl ?_) | (refine r_cond_false rfl ?_) | (refine c_not rfl (fun _ => ?_) (fun _ => ?_)) | (refine r_off rfl rfl rfl ?_) | (refine q_guard rfl rfl (fun _ => ?_) (fun _ => ?_)) | (refine q_guardn rfl rfl (fun _ => ?_) (fun _ => ?_)))
  exact r_fin hT rfl () rfl rfl rfl trivial rfl hu'
theorem heldTableS (A : Option Addr) (n c : Nat) (ts : List (List Pr)) (x : Int) (h : Hp) (hP : Tabs h A n (mkAll ts x)) (h0 : 1 ≤ x) (h1 : x + 8 * cnt ts ≤ 2305843009213693952) (h2 : ts.length ≤ 9223372036854775807) :
    Pur Tryd.prog 93 [.v (.slice A n c), .v (.int .i64 x)] h (fun y : Int => .v (.int .i64 y)) (x + 8 * cnt ts) := by
  have hn := hP.len
  rw [mkAll_len] at hn
  refine enterS Tryd.func93 rfl (n := 22) rfl rfl (fun k N => ?_)
  repeat' (first | (refine r_pure hT rfl rfl rfl rfl ?_) | (refine r_new hT rfl rfl rfl rfl ?_) | (refine r_write hT rfl rfl rfl ?_) | (refine r_nil ?_) | (refine q_nil ?_) | (refine r_arith rfl rfl rfl rfl rfl rfl rfl (by omega) ?_) | (with_reducible refine r_seq ?_) | (with_reducible refine x_then ?_) | (with_reducible refine r_region ?_) | (refine r_draw hM (by kernel_rfl) ?_) | (with_reducible refine r_skip ?_) | (with_reducible refine r_ret ?_) | (with_reducible refine x_then_ret ?_) | (with_reducible refine r_block ?_) | (with_reducible refine x_block ?_) | (with_reducible refine x_block_ret ?_) | (with_reducible refine r_exit ?_) | (with_reducible refine x_then_exit ?_) | (with_reducible refine x_block_here ?_) | (refine x_block_past rfl ?_) | (refine c_yes rfl (by omega) ?_) | (refine c_no rfl (by omega) ?_) | (refine c_no rfl (fun h => h rfl) ?_) | (refine r_cond_false rfl ?_) | (refine r_cond_true rfl ?_) | (refine r_cond_dec rfl (fun _ => ?_) (fun _ => ?_)) | (refine r_cond_true rfl ?_) | (refine r_cond_false rfl ?_) | (refine c_not rfl (fun _ => ?_) (fun _ => ?_)) | (refine r_off rfl rfl rfl ?_) | (refine q_guard rfl rfl (fun _ => ?_) (fun _ => ?_)) | (refine q_guardn rfl rfl (fun _ => ?_) (fun _ => ?_)))
  refine r_loop (γ := Nat) (fun i => i ≤ ts.length) (fun i => [(0, .v (.slice A n c)), (1, .v (.int .i64 (x + 8 * cnt (ts.take i)))), (5, .v (.int .i64 i))]) (fun _ => []) (fun _ => h) (fun i => ts.length - i)
    0 (Nat.zero_le _) (into rfl ⟨rfl, congrArg (fun z => some (SV.v (.int .i64 z))) (by simp [cnt]), rfl, trivial⟩ trivial rfl rfl) ?_
  intro i hi
  by_cases hlt : i < ts.length
  · obtain ⟨b, off, A', n', c', t', rfl, hd, hix, hm, hat, hc', hp⟩ := hP.elem (i := i) (by rw [mkAll_len]; exact hlt)
    obtain ⟨t, hix'⟩ : ∃ t, ts[i]? = some t := ⟨_, List.getElem?_eq_getElem hlt⟩
    rw [mkAll_get ts x i t hix'] at hix
    have e := Option.some.inj hix; subst e
    have hct := cnt_take ts i hix'
    obtain rfl : n' = t.length := by rw [hp.1, mkPrs_len]
    repeat' (first | (refine r_pure hT rfl rfl rfl rfl ?_) | (refine r_new hT rfl rfl rfl rfl ?_) | (refine r_write hT rfl rfl rfl ?_) | (refine r_nil ?_) | (refine q_nil ?_) | (refine r_indexN hT rfl rfl rfl rfl rfl rfl rfl rfl rfl (by omega) ?_) | (refine r_ld1 hT hat rfl rfl rfl rfl rfl rfl rfl rfl rfl rfl ?_) | (refine p_call (heldPairS A' _ c' (x + 8 * cnt (ts.take i)) _ hp (by omega) (by omega)) rfl rfl rfl rfl rfl (hC _ rfl) rfl rfl rfl ?_) | (refine r_arith rfl rfl rfl rfl rfl rfl rfl (by omega) ?_) | (with_reducible refine r_seq ?_) | (with_reducible refine x_then ?_) | (with_reducible refine r_region ?_) | (refine r_draw hM (by kernel_rfl) ?_) | (with_reducible refine r_skip ?_) | (with_reducible refine r_ret ?_) | (with_reducible refine x_then_ret ?_) | (with_reducible refine r_block ?_) | (with_reducible refine x_block ?_) | (with_reducible refine x_block_ret ?_) | (with_reducible refine r_exit ?_) | (with_reducible refine x_then_exit ?_) | (with_reducible refine x_block_here ?_) | (refine x_block_past rfl ?_) | (refine c_yes rfl (by omega) ?_) | (refine c_no rfl (by omega) ?_) | (refine c_no rfl (fun h => h rfl) ?_) | (refine r_cond_false rfl ?_) | (refine r_cond_true rfl ?_) | (refine r_cond_dec rfl (fun _ => ?_) (fun _ => ?_)) | (refine r_cond_true rfl ?_) | (refine r_cond_false rfl ?_) | (refine c_not rfl (fun _ => ?_) (fun _ => ?_)) | (refine r_off rfl rfl rfl ?_) | (refine q_guard rfl rfl (fun _ => ?_) (fun _ => ?_)) | (refine q_guardn rfl rfl (fun _ => ?_) (fun _ => ?_)))
    exact x_round (i + 1) hlt (by omega) (into rfl ⟨rfl, congrArg (fun z => some (SV.v (.int .i64 z))) (by rw [take_snoc hix', cnt_snoc]; push_cast; omega), rfl, trivial⟩ trivial rfl rfl)
  · obtain rfl : i = ts.length := by omega
    repeat' (first | (refine r_pure hT rfl rfl rfl rfl ?_) | (refine r_new hT rfl rfl rfl rfl ?_) | (refine r_write hT rfl rfl rfl ?_) | (refine r_nil ?_) | (refine q_nil ?_) | (refine r_arith rfl rfl rfl rfl rfl rfl rfl (by omega) ?_) | (with_reducible refine r_seq ?_) | (with_reducible refine x_then ?_) | (with_reducible refine r_region ?_) | (refine r_draw hM (by kernel_rfl) ?_) | (with_reducible refine r_skip ?_) | (with_reducible refine r_ret ?_) | (with_reducible refine x_then_ret ?_) | (with_reducible refine r_block ?_) | (with_reducible refine x_block ?_) | (with_reducible refine x_block_ret ?_) | (with_reducible refine r_exit ?_) | (with_reducible refine x_then_exit ?_) | (with_reducible refine x_block_here ?_) | (refine x_block_past rfl ?_) | (refine c_yes rfl (by omega) ?_) | (refine c_no rfl (by omega) ?_) | (refine c_no rfl (fun h => h rfl) ?_) | (refine r_cond_false rfl ?_) | (refine r_cond_true rfl ?_) | (refine r_cond_dec rfl (fun _ => ?_) (fun _ => ?_)) | (refine r_cond_true rfl ?_) | (refine r_cond_false rfl ?_) | (refine c_not rfl (fun _ => ?_) (fun _ => ?_)) | (refine r_off rfl rfl rfl ?_) | (refine q_guard rfl rfl (fun _ => ?_) (fun _ => ?_)) | (refine q_guardn rfl rfl (fun _ => ?_) (fun _ => ?_)))
    exact r_fin hT rfl _ rfl rfl rfl trivial rfl ⟨by rw [List.take_length], rfl⟩
theorem heldGraph (vv : V) (A : Option Addr) (n c : Nat) (ts : List (List Pr)) (x : Int) (h : Hp) (hP : Tabs h A n (mkAll ts x)) (h0 : 1 ≤ x) (h1 : x + 8 * cnt ts ≤ 2305843009213693952) (h2 : ts.length ≤ 9223372036854775807) :
    Pur Tryd.prog 49 [.ag (gsv vv A n c), .v (.int .i64 x)] h (fun y : Int => .v (.int .i64 y)) (x + 8 * cnt ts) := by
  refine enterS Tryd.func49 rfl (n := 12) rfl rfl (fun k N => ?_)
  repeat' (first | (refine r_pure hT rfl rfl rfl rfl ?_) | (refine r_new hT rfl rfl rfl rfl ?_) | (refine r_write hT rfl rfl rfl ?_) | (refine r_nil ?_) | (refine q_nil ?_) | (refine p_call (heldTableS A n c ts x _ hP h0 h1 h2) rfl rfl rfl rfl rfl (hC _ rfl) rfl rfl rfl ?_) | (refine r_arith rfl rfl rfl rfl rfl rfl rfl (by omega) ?_) | (with_reducible refine r_seq ?_) | (with_reducible refine x_then ?_) | (with_reducible refine r_region ?_) | (refine r_draw hM (by kernel_rfl) ?_) | (with_reducible refine r_skip ?_) | (with_reducible refine r_ret ?_) | (with_reducible refine x_then_ret ?_) | (with_reducible refine r_block ?_) | (with_reducible refine x_block ?_) | (with_reducible refine x_block_ret ?_) | (with_reducible refine r_exit ?_) | (with_reducible refine x_then_exit ?_) | (with_reducible refine x_block_here ?_) | (refine x_block_past rfl ?_) | (refine c_yes rfl (by omega) ?_) | (refine c_no rfl (by omega) ?_) | (refine c_no rfl (fun h => h rfl) ?_) | (refine r_cond_false rfl ?_) | (refine r_cond_true rfl ?_) | (refine r_cond_dec rfl (fun _ => ?_) (fun _ => ?_)) | (refine r_cond_true rfl ?_) | (refine r_cond_false rfl ?_) | (refine c_not rfl (fun _ => ?_) (fun _ => ?_)) | (refine r_off rfl rfl rfl ?_) | (refine q_guard rfl rfl (fun _ => ?_) (fun _ => ?_)) | (refine q_guardn rfl rfl (fun _ => ?_) (fun _ => ?_)))
  exact r_fin hT rfl _ rfl rfl rfl trivial rfl ⟨rfl, rfl⟩
end Go.Proofs.YtkamfnmbidnhdaaDoor
