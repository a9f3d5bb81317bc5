/- impl.quoted. No condition. -/
import Derived.Test.YtkamfnmbidnhdaaDoorSqAG
import Derived.Test.YtkamfnmbidnhdaaDoorSqAJ
import Derived.Test.YtkamfnmbidnhdaaDoorSqAH
set_option linter.unusedVariables false
set_option linter.unusedSimpArgs false
set_option linter.unusedSectionVars false
namespace Go.Proofs.YtkamfnmbidnhdaaDoor
open Go.Sy
set_option maxRecDepth 100000
set_option maxHeartbeats 4000000
set_option linter.unusedVariables false
set_option linter.unusedSimpArgs false
theorem shr4 (b : Nat) : Op.shift .shr .u8 (b : Int) .u64 4 = pure (.int .u8 ((b / 16 : Nat) : Int)) := by
  have h : Op.shift .shr .u8 (b : Int) .u64 4 = pure (.int .u8 ((b : Int).fdiv 16)) := rfl
  rw [h, Int.fdiv_eq_ediv_of_nonneg _ (by omega)]
  rfl
theorem and15 (b : Nat) (hb : b < 256) : Op.intBits .and .u8 (b : Int) 15 = pure (.int .u8 ((b % 16 : Nat) : Int)) := by
  have h : Op.intBits .and .u8 (b : Int) 15 = pure (.int .u8 (IntKind.u8.wrap (((BitVec.ofInt 8 (b : Int) &&& BitVec.ofInt 8 15).toNat : Nat) : Int))) := rfl
  have e : (BitVec.ofInt 8 (b : Int) &&& BitVec.ofInt 8 15).toNat = b % 16 := by
    rw [BitVec.toNat_and]
    have h1 : (BitVec.ofInt 8 (b : Int)).toNat = b := by
      rw [BitVec.toNat_ofInt]
      omega
    have h2 : (BitVec.ofInt 8 15).toNat = 2 ^ 4 - 1 := rfl
    rw [h1, h2, Nat.and_two_pow_sub_one_eq_mod]
  rw [h, e, IntWalk.u8_in _ (by omega)]
theorem lies93 : LiesB 93 [] [] := by unfold LiesB; kernel_rfl
theorem quoted112 (s : ByteArray) (hs : s.size ≤ 1000000) (h : Hp) : Pur Tryd.prog 112 [.v (.string s)] h (fun y : ByteArray => .v (.string y)) ⟨(qt s.data.toList).toArray⟩ := by
  refine enterS Tryd.func112 rfl (n := 46) rfl rfl (fun k N => ?_)
  have hsl : s.data.toList.length = s.size := rfl
  repeat' (first | (refine r_pure hT rfl rfl rfl rfl ?_) | (refine r_new hT rfl rfl rfl rfl ?_) | (refine r_write hT rfl rfl rfl ?_) | (refine r_nil ?_) | (refine q_nil ?_) | (refine r_arith rfl rfl rfl rfl rfl rfl rfl (by omega) ?_) | (with_reducible refine r_seq ?_) | (with_reducible refine x_then ?_) | (with_reducible refine r_region ?_) | (refine r_draw hM (by kernel_rfl) ?_) | (with_reducible refine r_skip ?_) | (with_reducible refine r_ret ?_) | (with_reducible refine x_then_ret ?_) | (with_reducible refine r_block ?_) | (with_reducible refine x_block ?_) | (with_reducible refine x_block_ret ?_) | (with_reducible refine r_exit ?_) | (with_reducible refine x_then_exit ?_) | (with_reducible refine x_block_here ?_) | (refine x_block_past rfl ?_) | (refine c_yes rfl (by omega) ?_) | (refine c_no rfl (by omega) ?_) | (refine c_no rfl (fun h => h rfl) ?_) | (refine r_cond_false rfl ?_) | (refine r_cond_true rfl ?_) | (refine r_cond_true rfl ?_) | (refine r_cond_false rfl ?_) | (refine r_off rfl rfl rfl ?_) | (refine q_guard rfl rfl (fun _ => ?_) (fun _ => ?_)) | (refine q_guardn rfl rfl (fun _ => ?_) (fun _ => ?_)))
  refine r_pub 3 (fun _ => bdC [] [] (.pointer none) none 0 0) rfl rfl (fun _ => rfl) (fun pb hpb => ?_)
  have hB0 : BSt h (upd h pb (.cells (bdC [] [] (.pointer none) none 0 0).toArray 93 (0, 0))) pb 93 [] [] (.pointer none) none 0 [] := ⟨upd_here .., own_nil, fun a ha => (by cases ha), .inl rfl, le_frsh (Le.refl h) hpb, hpb, off_nil, by simp [blk]⟩
  generalize upd h pb (.cells (bdC [] [] (.pointer none) none 0 0).toArray 93 (0, 0)) = u0 at *
  repeat' (first | (refine r_pure hT rfl rfl rfl rfl ?_) | (refine r_new hT rfl rfl rfl rfl ?_) | (refine r_write hT rfl rfl rfl ?_) | (refine r_nil ?_) | (refine q_nil ?_) | (refine r_call (writeB h u0 pb 93 [] [] _ none 0 [] 34 hB0 lies93 (by simp)) rfl rfl rfl rfl rfl (hC _ rfl) rfl rfl (fun y0 u1 hy0 => ?_)) | (refine r_arith rfl rfl rfl rfl rfl rfl rfl (by omega) ?_) | (with_reducible refine r_seq ?_) | (with_reducible refine x_then ?_) | (with_reducible refine r_region ?_) | (refine r_draw hM (by kernel_rfl) ?_) | (with_reducible refine r_skip ?_) | (with_reducible refine r_ret ?_) | (with_reducible refine x_then_ret ?_) | (with_reducible refine r_block ?_) | (with_reducible refine x_block ?_) | (with_reducible refine x_block_ret ?_) | (with_reducible refine r_exit ?_) | (with_reducible refine x_then_exit ?_) | (with_reducible refine x_block_here ?_) | (refine x_block_past rfl ?_) | (refine c_yes rfl (by omega) ?_) | (refine c_no rfl (by omega) ?_) | (refine c_no rfl (fun h => h rfl) ?_) | (refine r_cond_false rfl ?_) | (refine r_cond_true rfl ?_) | (refine r_cond_true rfl ?_) | (refine r_cond_false rfl ?_) | (refine r_off rfl rfl rfl ?_) | (refine q_guard rfl rfl (fun _ => ?_) (fun _ => ?_)) | (refine q_guardn rfl rfl (fun _ => ?_) (fun _ => ?_)))
  refine r_loop (γ := (Nat × List UInt8) × (Hp × (Option Addr × Nat))) (fun g => g.1.1 ≤ s.size ∧ g.1.2 = 34 :: (s.data.toList.take g.1.1).flatMap q1 ∧ BSt h g.2.1 pb 93 [] [] (.pointer (some ⟨pb, 0, none⟩)) g.2.2.1 g.2.2.2 g.1.2)
    (fun g => [(0, .v (.string s)), (3, .v (.pointer (some ⟨pb, 0, none⟩))), (4, .v (.int .i64 (g.1.1 : Int)))]) (fun _ => []) (fun g => g.2.1) (fun g => s.size - g.1.1)
    ((0, [34]), (u1, y0)) ⟨Nat.zero_le _, rfl, hy0.1⟩ (into rfl ⟨rfl, rfl, rfl, trivial⟩ trivial rfl rfl) ?_
  rintro ⟨⟨i, o⟩, ⟨u, ⟨A, c⟩⟩⟩ ⟨hi, ho, hB⟩
  dsimp only at *
  have hol : o.length ≤ 3 * s.size + 1 := by
    have := qs_len (s.data.toList.take i)
    rw [ho, List.length_cons]
    rw [List.length_take, hsl] at this; omega
  by_cases hlt : i < s.size
  · have hb : s.data.toList[i]? = some s.data.toList[i] := List.getElem?_eq_getElem (by rw [hsl]; exact hlt)
    generalize s.data.toList[i]'(by rw [hsl]; exact hlt) = b at hb
    have hbt := byt_at hb
    have hnx : (34 : UInt8) :: (s.data.toList.take (i + 1)).flatMap q1 = o ++ q1 b := by rw [qs_next hb, ho]; rfl
    have hbl : b.toNat < 256 := b.toNat_lt
    by_cases e1 : (b.toNat : Int) = 34 ∨ (b.toNat : Int) = 92
    · rw [q1_esc e1] at hnx
      have hnx2 : o ++ [92, b] = o ++ [92] ++ [b] := by simp
      rw [hnx2] at hnx
      by_cases e2 : (b.toNat : Int) = 34
      · repeat' (first | (refine r_pure hT rfl rfl rfl rfl ?_) | (refine r_new hT rfl rfl rfl rfl ?_) | (refine r_write hT rfl rfl rfl ?_) | (refine r_nil ?_) | (refine q_nil ?_) | (refine r_offu rfl rfl rfl rfl rfl rfl ?_) | ((refine r_byte hT rfl rfl rfl rfl rfl rfl rfl rfl hlt ?_ ; rw [hbt])) | (refine q_guard rfl rfl (fun _ => ?_) (fun hx => absurd e2 hx)) | (refine r_call (writeB h u pb 93 [] [] _ A c o 92 hB lies93 (by omega)) rfl rfl rfl rfl rfl (hC _ rfl) rfl rfl (fun y8 u8 hy8 => ?_)) | (refine r_call (writeB h u8 pb 93 [] [] _ y8.1 y8.2 (o ++ [92]) b hy8.1 lies93 (by simp; omega)) rfl rfl rfl rfl rfl (hC _ rfl) rfl rfl (fun y9 u9 hy9 => ?_)) | (refine r_arith rfl rfl rfl rfl rfl rfl rfl (by omega) ?_) | (with_reducible refine r_seq ?_) | (with_reducible refine x_then ?_) | (with_reducible refine r_region ?_) | (refine r_draw hM (by kernel_rfl) ?_) | (with_reducible refine r_skip ?_) | (with_reducible refine r_ret ?_) | (with_reducible refine x_then_ret ?_) | (with_reducible refine r_block ?_) | (with_reducible refine x_block ?_) | (with_reducible refine x_block_ret ?_) | (with_reducible refine r_exit ?_) | (with_reducible refine x_then_exit ?_) | (with_reducible refine x_block_here ?_) | (refine x_block_past rfl ?_) | (refine c_yes rfl (by omega) ?_) | (refine c_no rfl (by omega) ?_) | (refine c_no rfl (fun h => h rfl) ?_) | (refine r_cond_false rfl ?_) | (refine r_cond_true rfl ?_) | (refine r_cond_dec rfl (fun _ => ?_) (fun _ => ?_)) | (refine r_cond_true rfl ?_) | (refine r_cond_false rfl ?_) | (refine c_not rfl (fun _ => ?_) (fun _ => ?_)) | (refine r_off rfl rfl rfl ?_))
        have hB9 := hy9.1
        exact x_round ((i + 1, 34 :: (s.data.toList.take (i + 1)).flatMap q1), (u9, y9)) ⟨hlt, rfl, by rw [hnx]; first | exact hB9 | (rw [show o ++ _ = _ from (by simp : _ = _)]; exact hB9)⟩ (by dsimp only; omega) (into rfl ⟨rfl, rfl, rfl, trivial⟩ trivial rfl rfl)
      · have e3 : (b.toNat : Int) = 92 := e1.resolve_left e2
        repeat' (first | (refine r_pure hT rfl rfl rfl rfl ?_) | (refine r_new hT rfl rfl rfl rfl ?_) | (refine r_write hT rfl rfl rfl ?_) | (refine r_nil ?_) | (refine q_nil ?_) | (refine r_offu rfl rfl rfl rfl rfl rfl ?_) | ((refine r_byte hT rfl rfl rfl rfl rfl rfl rfl rfl hlt ?_ ; rw [hbt])) | (refine q_guard rfl rfl (fun hx => absurd hx e2) (fun _ => ?_)) | (refine r_call (writeB h u pb 93 [] [] _ A c o 92 hB lies93 (by omega)) rfl rfl rfl rfl rfl (hC _ rfl) rfl rfl (fun y8 u8 hy8 => ?_)) | (refine r_call (writeB h u8 pb 93 [] [] _ y8.1 y8.2 (o ++ [92]) b hy8.1 lies93 (by simp; omega)) rfl rfl rfl rfl rfl (hC _ rfl) rfl rfl (fun y9 u9 hy9 => ?_)) | (refine r_arith rfl rfl rfl rfl rfl rfl rfl (by omega) ?_) | (with_reducible refine r_seq ?_) | (with_reducible refine x_then ?_) | (with_reducible refine r_region ?_) | (refine r_draw hM (by kernel_rfl) ?_) | (with_reducible refine r_skip ?_) | (with_reducible refine r_ret ?_) | (with_reducible refine x_then_ret ?_) | (with_reducible refine r_block ?_) | (with_reducible refine x_block ?_) | (with_reducible refine x_block_ret ?_) | (with_reducible refine r_exit ?_) | (with_reducible refine x_then_exit ?_) | (with_reducible refine x_block_here ?_) | (refine x_block_past rfl ?_) | (refine c_yes rfl (by omega) ?_) | (refine c_no rfl (by omega) ?_) | (refine c_no rfl (fun h => h rfl) ?_) | (refine r_cond_false rfl ?_) | (refine r_cond_true rfl ?_) | (refine r_cond_dec rfl (fun _ => ?_) (fun _ => ?_)) | (refine r_cond_true rfl ?_) | (refine r_cond_false rfl ?_) | (refine c_not rfl (fun _ => ?_) (fun _ => ?_)) | (refine r_off rfl rfl rfl ?_))
        have hB9 := hy9.1
        exact x_round ((i + 1, 34 :: (s.data.toList.take (i + 1)).flatMap q1), (u9, y9)) ⟨hlt, rfl, by rw [hnx]; first | exact hB9 | (rw [show o ++ _ = _ from (by simp : _ = _)]; exact hB9)⟩ (by dsimp only; omega) (into rfl ⟨rfl, rfl, rfl, trivial⟩ trivial rfl rfl)
    · have e2 : ¬ (b.toNat : Int) = 34 := fun e => e1 (.inl e)
      have e3 : ¬ (b.toNat : Int) = 92 := fun e => e1 (.inr e)
      by_cases e4 : (b.toNat : Int) < 32 ∨ 126 < (b.toNat : Int)
      · rw [q1_hex e1 e4] at hnx
        have hnx2 : o ++ [92, hx (b.toNat / 16), hx (b.toNat % 16)] = o ++ [92] ++ [hx (b.toNat / 16)] ++ [hx (b.toNat % 16)] := by simp
        rw [hnx2] at hnx
        by_cases e5 : (b.toNat : Int) < 32
        · repeat' (first | (refine r_pure hT rfl rfl rfl rfl ?_) | (refine r_new hT rfl rfl rfl rfl ?_) | (refine r_write hT rfl rfl rfl ?_) | (refine r_nil ?_) | (refine q_nil ?_) | (refine r_offu rfl rfl rfl rfl rfl rfl ?_) | ((refine r_byte hT rfl rfl rfl rfl rfl rfl rfl rfl hlt ?_ ; rw [hbt])) | (refine q_guard rfl rfl (fun hx => absurd hx e2) (fun _ => ?_)) | (refine q_guard rfl rfl (fun _ => ?_) (fun hx => absurd e5 hx)) | (refine r_call (writeB h u pb 93 [] [] _ A c o 92 hB lies93 (by omega)) rfl rfl rfl rfl rfl (hC _ rfl) rfl rfl (fun y7 u7 hy7 => ?_)) | (refine r_shift rfl rfl rfl rfl rfl rfl (.inr rfl) (shr4 b.toNat) ?_) | ((refine r_byte (s := hexT) hT rfl rfl rfl rfl rfl rfl rfl rfl (show b.toNat / 16 < 16 by omega) ?_ ; rw [byt_hex])) | (refine r_call (writeB h u7 pb 93 [] [] _ y7.1 y7.2 (o ++ [92]) (hx (b.toNat / 16)) hy7.1 lies93 (by simp; omega)) rfl rfl rfl rfl rfl (hC _ rfl) rfl rfl (fun y8 u8 hy8 => ?_)) | (refine r_bits rfl rfl rfl rfl rfl rfl (and15 b.toNat hbl) (.inl rfl) ?_) | ((refine r_byte (s := hexT) hT rfl rfl rfl rfl rfl rfl rfl rfl (show b.toNat % 16 < 16 by omega) ?_ ; rw [byt_hex])) | (refine r_call (writeB h u8 pb 93 [] [] _ y8.1 y8.2 (o ++ [92] ++ [hx (b.toNat / 16)]) (hx (b.toNat % 16)) hy8.1 lies93 (by simp; omega)) rfl rfl rfl rfl rfl (hC _ rfl) rfl rfl (fun y9 u9 hy9 => ?_)) | (refine r_arith rfl rfl rfl rfl rfl rfl rfl (by omega) ?_) | (with_reducible refine r_seq ?_) | (with_reducible refine x_then ?_) | (with_reducible refine r_region ?_) | (refine r_draw hM (by kernel_rfl) ?_) | (with_reducible refine r_skip ?_) | (with_reducible refine r_ret ?_) | (with_reducible refine x_then_ret ?_) | (with_reducible refine r_block ?_) | (with_reducible refine x_block ?_) | (with_reducible refine x_block_ret ?_) | (with_reducible refine r_exit ?_) | (with_reducible refine x_then_exit ?_) | (with_reducible refine x_block_here ?_) | (refine x_block_past rfl ?_) | (refine c_yes rfl (by omega) ?_) | (refine c_no rfl (by omega) ?_) | (refine c_no rfl (fun h => h rfl) ?_) | (refine r_cond_false rfl ?_) | (refine r_cond_true rfl ?_) | (refine r_cond_dec rfl (fun _ => ?_) (fun _ => ?_)) | (refine r_cond_true rfl ?_) | (refine r_cond_false rfl ?_) | (refine c_not rfl (fun _ => ?_) (fun _ => ?_)) | (refine r_off rfl rfl rfl ?_))
          have hB9 := hy9.1
          exact x_round ((i + 1, 34 :: (s.data.toList.take (i + 1)).flatMap q1), (u9, y9)) ⟨hlt, rfl, by rw [hnx]; first | exact hB9 | (rw [show o ++ _ = _ from (by simp : _ = _)]; exact hB9)⟩ (by dsimp only; omega) (into rfl ⟨rfl, rfl, rfl, trivial⟩ trivial rfl rfl)
        · have e6 : 126 < (b.toNat : Int) := e4.resolve_left e5
          repeat' (first | (refine r_pure hT rfl rfl rfl rfl ?_) | (refine r_new hT rfl rfl rfl rfl ?_) | (refine r_write hT rfl rfl rfl ?_) | (refine r_nil ?_) | (refine q_nil ?_) | (refine r_offu rfl rfl rfl rfl rfl rfl ?_) | ((refine r_byte hT rfl rfl rfl rfl rfl rfl rfl rfl hlt ?_ ; rw [hbt])) | (refine q_guard rfl rfl (fun hx => absurd hx e2) (fun _ => ?_)) | (refine q_guard rfl rfl (fun hx => absurd hx e5) (fun _ => ?_)) | (refine r_call (writeB h u pb 93 [] [] _ A c o 92 hB lies93 (by omega)) rfl rfl rfl rfl rfl (hC _ rfl) rfl rfl (fun y7 u7 hy7 => ?_)) | (refine r_shift rfl rfl rfl rfl rfl rfl (.inr rfl) (shr4 b.toNat) ?_) | ((refine r_byte (s := hexT) hT rfl rfl rfl rfl rfl rfl rfl rfl (show b.toNat / 16 < 16 by omega) ?_ ; rw [byt_hex])) | (refine r_call (writeB h u7 pb 93 [] [] _ y7.1 y7.2 (o ++ [92]) (hx (b.toNat / 16)) hy7.1 lies93 (by simp; omega)) rfl rfl rfl rfl rfl (hC _ rfl) rfl rfl (fun y8 u8 hy8 => ?_)) | (refine r_bits rfl rfl rfl rfl rfl rfl (and15 b.toNat hbl) (.inl rfl) ?_) | ((refine r_byte (s := hexT) hT rfl rfl rfl rfl rfl rfl rfl rfl (show b.toNat % 16 < 16 by omega) ?_ ; rw [byt_hex])) | (refine r_call (writeB h u8 pb 93 [] [] _ y8.1 y8.2 (o ++ [92] ++ [hx (b.toNat / 16)]) (hx (b.toNat % 16)) hy8.1 lies93 (by simp; omega)) rfl rfl rfl rfl rfl (hC _ rfl) rfl rfl (fun y9 u9 hy9 => ?_)) | (refine r_arith rfl rfl rfl rfl rfl rfl rfl (by omega) ?_) | (with_reducible refine r_seq ?_) | (with_reducible refine x_then ?_) | (with_reducible refine r_region ?_) | (refine r_draw hM (by kernel_rfl) ?_) | (with_reducible refine r_skip ?_) | (with_reducible refine r_ret ?_) | (with_reducible refine x_then_ret ?_) | (with_reducible refine r_block ?_) | (with_reducible refine x_block ?_) | (with_reducible refine x_block_ret ?_) | (with_reducible refine r_exit ?_) | (with_reducible refine x_then_exit ?_) | (with_reducible refine x_block_here ?_) | (refine x_block_past rfl ?_) | (refine c_yes rfl (by omega) ?_) | (refine c_no rfl (by omega) ?_) | (refine c_no rfl (fun h => h rfl) ?_) | (refine r_cond_false rfl ?_) | (refine r_cond_true rfl ?_) | (refine r_cond_dec rfl (fun _ => ?_) (fun _ => ?_)) | (refine r_cond_true rfl ?_) | (refine r_cond_false rfl ?_) | (refine c_not rfl (fun _ => ?_) (fun _ => ?_)) | (refine r_off rfl rfl rfl ?_))
          have hB9 := hy9.1
          exact x_round ((i + 1, 34 :: (s.data.toList.take (i + 1)).flatMap q1), (u9, y9)) ⟨hlt, rfl, by rw [hnx]; first | exact hB9 | (rw [show o ++ _ = _ from (by simp : _ = _)]; exact hB9)⟩ (by dsimp only; omega) (into rfl ⟨rfl, rfl, rfl, trivial⟩ trivial rfl rfl)
      · have e5 : ¬ (b.toNat : Int) < 32 := fun e => e4 (.inl e)
        have e6 : ¬ 126 < (b.toNat : Int) := fun e => e4 (.inr e)
        rw [q1_one e1 e4] at hnx
        repeat' (first | (refine r_pure hT rfl rfl rfl rfl ?_) | (refine r_new hT rfl rfl rfl rfl ?_) | (refine r_write hT rfl rfl rfl ?_) | (refine r_nil ?_) | (refine q_nil ?_) | (refine r_offu rfl rfl rfl rfl rfl rfl ?_) | ((refine r_byte hT rfl rfl rfl rfl rfl rfl rfl rfl hlt ?_ ; rw [hbt])) | (refine q_guard rfl rfl (fun hx => absurd hx e2) (fun _ => ?_)) | (refine q_guard rfl rfl (fun hx => absurd hx e5) (fun _ => ?_)) | (refine r_call (writeB h u pb 93 [] [] _ A c o b hB lies93 (by omega)) rfl rfl rfl rfl rfl (hC _ rfl) rfl rfl (fun y9 u9 hy9 => ?_)) | (refine r_arith rfl rfl rfl rfl rfl rfl rfl (by omega) ?_) | (with_reducible refine r_seq ?_) | (with_reducible refine x_then ?_) | (with_reducible refine r_region ?_) | (refine r_draw hM (by kernel_rfl) ?_) | (with_reducible refine r_skip ?_) | (with_reducible refine r_ret ?_) | (with_reducible refine x_then_ret ?_) | (with_reducible refine r_block ?_) | (with_reducible refine x_block ?_) | (with_reducible refine x_block_ret ?_) | (with_reducible refine r_exit ?_) | (with_reducible refine x_then_exit ?_) | (with_reducible refine x_block_here ?_) | (refine x_block_past rfl ?_) | (refine c_yes rfl (by omega) ?_) | (refine c_no rfl (by omega) ?_) | (refine c_no rfl (fun h => h rfl) ?_) | (refine r_cond_false rfl ?_) | (refine r_cond_true rfl ?_) | (refine r_cond_dec rfl (fun _ => ?_) (fun _ => ?_)) | (refine r_cond_true rfl ?_) | (refine r_cond_false rfl ?_) | (refine c_not rfl (fun _ => ?_) (fun _ => ?_)) | (refine r_off rfl rfl rfl ?_))
        have hB9 := hy9.1
        exact x_round ((i + 1, 34 :: (s.data.toList.take (i + 1)).flatMap q1), (u9, y9)) ⟨hlt, rfl, by rw [hnx]; first | exact hB9 | (rw [show o ++ _ = _ from (by simp : _ = _)]; exact hB9)⟩ (by dsimp only; omega) (into rfl ⟨rfl, rfl, rfl, trivial⟩ trivial rfl rfl)
  · obtain rfl : i = s.size := by omega
    rw [List.take_of_length_le (by rw [hsl]; exact Nat.le_refl _)] at ho
    repeat' (first | (refine r_pure hT rfl rfl rfl rfl ?_) | (refine r_new hT rfl rfl rfl rfl ?_) | (refine r_write hT rfl rfl rfl ?_) | (refine r_nil ?_) | (refine q_nil ?_) | (refine r_call (writeB h u pb 93 [] [] _ A c o 34 hB lies93 (by omega)) rfl rfl rfl rfl rfl (hC _ rfl) rfl rfl (fun y8 u8 hy8 => ?_)) | (refine r_call (stringB h u8 pb 93 [] [] _ y8.1 y8.2 (o ++ [34]) hy8.1 (by simp) (by simp; omega)) rfl rfl rfl rfl rfl (hC _ rfl) rfl rfl (fun _ u9 hy9 => ?_)) | (refine r_arith rfl rfl rfl rfl rfl rfl rfl (by omega) ?_) | (with_reducible refine r_seq ?_) | (with_reducible refine x_then ?_) | (with_reducible refine r_region ?_) | (refine r_draw hM (by kernel_rfl) ?_) | (with_reducible refine r_skip ?_) | (with_reducible refine r_ret ?_) | (with_reducible refine x_then_ret ?_) | (with_reducible refine r_block ?_) | (with_reducible refine x_block ?_) | (with_reducible refine x_block_ret ?_) | (with_reducible refine r_exit ?_) | (with_reducible refine x_then_exit ?_) | (with_reducible refine x_block_here ?_) | (refine x_block_past rfl ?_) | (refine c_yes rfl (by omega) ?_) | (refine c_no rfl (by omega) ?_) | (refine c_no rfl (fun h => h rfl) ?_) | (refine r_cond_false rfl ?_) | (refine r_cond_true rfl ?_) | (refine r_cond_dec rfl (fun _ => ?_) (fun _ => ?_)) | (refine r_cond_true rfl ?_) | (refine r_cond_false rfl ?_) | (refine c_not rfl (fun _ => ?_) (fun _ => ?_)) | (refine r_off rfl rfl rfl ?_) | (refine q_guard rfl rfl (fun _ => ?_) (fun _ => ?_)) | (refine q_guardn rfl rfl (fun _ => ?_) (fun _ => ?_)))
    refine St.weak (fun z ox hz => hy9 z ox (fun e => by rw [hy8.1.ho z e] at hz; cases hz) (hy8.1.base z ox hz)) ?_
    exact r_fin hT rfl (⟨(qt s.data.toList).toArray⟩ : ByteArray) rfl rfl (congrArg (fun z : List UInt8 => some (Value.string ⟨z.toArray⟩)) (by rw [ho]; rfl)) trivial rfl ⟨rfl, rfl⟩
end Go.Proofs.YtkamfnmbidnhdaaDoor
/- impl's freezer: its state; a value's text but for tables. No condition. -/
namespace Go.Proofs.YtkamfnmbidnhdaaDoor
open Go.Sy
set_option maxRecDepth 100000
set_option maxHeartbeats 8000000
set_option linter.unusedVariables false
set_option linter.unusedSimpArgs false
structure ZA where
  pb : Nat
  g : V
  A : Option Addr
  c : Nat
  bl : Nat
  ol : Nat
  cl : Nat
  gm : Nat
def zPre (a : ZA) (n : Nat) : List Value := [.int .i64 a.g.k, .int .i64 a.g.n, .string a.g.s, .int .i64 a.g.a, .slice a.A n a.c, .slice (some ⟨a.bl, a.ol, none⟩) n a.cl, .map (some a.gm)]
theorem lies95 (a : ZA) (n : Nat) : LiesB 95 (zPre a n) [] := by
  unfold LiesB
  show liesAt Tryd.prog Tryd.prog.depth 95 ((7 + 2 + 0) / Tryd.prog.cellsOf 95) 7 93 1 = true
  kernel_rfl
structure ZSt (h0 u : Hp) (a : ZA) (ts : List (List Pr)) (ad : Value) (Ab : Option Addr) (cb : Nat) (rs L : List Nat) (o : List UInt8) : Prop where
  b : BSt h0 u a.pb 95 (zPre a ts.length) [] ad Ab cb o
  led : Own u (some ⟨a.bl, a.ol, none⟩) ts.length a.cl 3 1 (ledV ts.length rs)
  map : MAt Tryd.prog iKey u a.gm (labM L)
  hl : h0 a.bl = none
  hg : h0 a.gm = none
  ap : a.bl ≠ a.pb ∧ a.gm ≠ a.pb ∧ a.gm ≠ a.bl ∧ blk Ab ≠ some a.bl ∧ blk Ab ≠ some a.gm
  tabs : Tabs h0 a.A ts.length ts
  tab10 : Tab10 h0
abbrev zad (a : ZA) : Value := .pointer (some ⟨a.pb, 7, none⟩)
section
variable {h0 u u' : Hp} {a : ZA} {ts : List (List Pr)} {ad : Value} {Ab A' : Option Addr} {cb c' : Nat} {rs L : List Nat} {o o' : List UInt8}
theorem ZSt.at_ (h : ZSt h0 u a ts ad Ab cb rs L o) : At u a.pb 0 (bdC (zPre a ts.length) [] ad Ab o.length cb) := ⟨_, _, _, h.b.cell, fun j v hj => by simpa using hj⟩
theorem ZSt.wr (h : ZSt h0 u a ts ad Ab cb rs L o) (hB : BSt h0 u' a.pb 95 (zPre a ts.length) [] (zad a) A' c' o') (hK : KeepB u a.pb Ab u' A') : ZSt h0 u' a ts (zad a) A' c' rs L o' := by
  obtain ⟨p1, p2, p3, p4, p5⟩ := h.ap
  obtain ⟨ol, hol⟩ := Option.ne_none_iff_exists'.1 (h.led.live rfl)
  obtain ⟨om, hom, hm2⟩ := h.map
  have k1 := hK _ _ p1 p4 hol
  have k2 := hK _ _ p2 p5 hom
  exact ⟨hB, h.led.le fun b o hb ho => (by have e := Option.some.inj hb; subst e; exact (hK _ _ p1 p4 ho).1), ⟨om, k2.1, hm2⟩, h.hl, h.hg, ⟨p1, p2, p3, k1.2, k2.2⟩, h.tabs, h.tab10⟩
end
theorem saysI (h0 u : Hp) (a : ZA) (ts : List (List Pr)) (ad : Value) (Ab : Option Addr) (cb : Nat) (rs L : List Nat) (o : List UInt8) (s : ByteArray) (hZ : ZSt h0 u a ts ad Ab cb rs L o) (hs : o.length + s.size ≤ 1000000000) :
    TriS Tryd.prog 109 [.v (.pointer (some ⟨a.pb, 7, none⟩)), .v (.string s)] [] u (fun _ : Option Addr × Nat => .tu [.v (.int .i64 (s.size : Int)), .v .nilIface]) (fun _ => []) (fun y u' => ZSt h0 u' a ts (zad a) y.1 y.2 rs L (o ++ s.data.toList)) := by
  intro h1 h2 vs h3 e1 e2
  intro k N w hd
  refine (writeS h0 u a.pb 95 (zPre a ts.length) [] ad Ab cb o s hZ.b (lies95 a ts.length) hs h1 h2 vs h3 e1 e2 k N w hd).mono ?_
  rintro e w' ⟨v, h, he, ⟨y, h', g1, g2, g3, g4⟩, g5⟩
  exact ⟨v, h, he, ⟨y, h', g1, g2, g3, hZ.wr g4.1 g4.2⟩, g5⟩
theorem sayI1 (h0 u : Hp) (a : ZA) (ts : List (List Pr)) (ad : Value) (Ab : Option Addr) (cb : Nat) (rs L : List Nat) (o : List UInt8) (b : UInt8) (hZ : ZSt h0 u a ts ad Ab cb rs L o) (hs : o.length + 1 ≤ 1000000000) :
    TriS Tryd.prog 142 [.v (.pointer (some ⟨a.pb, 7, none⟩)), .v (.int .u8 (b.toNat : Int))] [] u (fun _ : Option Addr × Nat => .v .nilIface) (fun _ => []) (fun y u' => ZSt h0 u' a ts (zad a) y.1 y.2 rs L (o ++ [b])) := by
  intro h1 h2 vs h3 e1 e2
  intro k N w hd
  refine (writeB h0 u a.pb 95 (zPre a ts.length) [] ad Ab cb o b hZ.b (lies95 a ts.length) hs h1 h2 vs h3 e1 e2 k N w hd).mono ?_
  rintro e w' ⟨v, h, he, ⟨y, h', g1, g2, g3, g4⟩, g5⟩
  exact ⟨v, h, he, ⟨y, h', g1, g2, g3, hZ.wr g4.1 g4.2⟩, g5⟩
/-- A value's text, given a table's. -/
theorem valueI (h0 u : Hp) (a : ZA) (ts : List (List Pr)) (ad : Value) (Ab : Option Addr) (cb : Nat) (rs : List Nat) (s r : TS) (v : V) (hZ : ZSt h0 u a ts ad Ab cb rs s.L s.o) (hvf : v.fit) (hk : v.k = 0 ∨ v.k = 1 ∨ v.k = 2 ∨ v.k = 3 ∨ v.k = 4) (hro : r.o.length ≤ 900000000)
    (hleaf : v.k ≠ 4 → r = ⟨s.L, s.o ++ plT v⟩) (htab : v.k = 4 → TriS Tryd.prog 113 [.v (.pointer (some ⟨a.pb, 0, none⟩)), .v (.int .i64 v.a)] [] u (fun _ : Option Addr × Nat => .tu []) (fun _ => []) (fun y u' => ZSt h0 u' a ts (zad a) y.1 y.2 rs r.L r.o)) :
    TriS Tryd.prog 70 [.v (.pointer (some ⟨a.pb, 0, none⟩)), .ag v.sv] [] u (fun _ : Option Addr × Nat => .tu []) (fun _ => []) (fun y u' => ZSt h0 u' a ts (zad a) y.1 y.2 rs r.L r.o) := by
  refine enterS Tryd.func70 rfl (n := 44) rfl rfl (fun k N => ?_)
  have hcast : ∀ (b : ByteArray) (y : Option Addr × Nat) (u' : Hp), v.k ≠ 4 → b.data.toList = plT v → ZSt h0 u' a ts (zad a) y.1 y.2 rs s.L (s.o ++ b.data.toList) → ZSt h0 u' a ts (zad a) y.1 y.2 rs r.L r.o := fun b y u' h4 hb hh => by
    rw [hleaf h4, ← hb]; exact hh
  have hlen : v.k ≠ 4 → s.o.length + (plT v).length ≤ 900000000 := fun h4 => by
    rw [hleaf h4, List.length_append] at hro; exact hro
  have hsz : ∀ b : ByteArray, b.size = b.data.toList.length := fun b => rfl
  by_cases e4 : v.k = 4
  · repeat' (first | (refine r_pure hT rfl rfl rfl rfl ?_) | (refine r_new hT rfl rfl rfl rfl ?_) | (refine r_write hT rfl rfl rfl ?_) | (refine r_nil ?_) | (refine q_nil ?_) | (refine r_call (htab e4) rfl rfl rfl rfl rfl (hC _ rfl) rfl rfl (fun y u1 hy => ?_)) | (refine r_arith rfl rfl rfl rfl rfl rfl rfl (by omega) ?_) | (with_reducible refine r_seq ?_) | (with_reducible refine x_then ?_) | (with_reducible refine r_region ?_) | (refine r_draw hM (by kernel_rfl) ?_) | (with_reducible refine r_skip ?_) | (with_reducible refine r_ret ?_) | (with_reducible refine x_then_ret ?_) | (with_reducible refine r_block ?_) | (with_reducible refine x_block ?_) | (with_reducible refine x_block_ret ?_) | (with_reducible refine r_exit ?_) | (with_reducible refine x_then_exit ?_) | (with_reducible refine x_block_here ?_) | (refine x_block_past rfl ?_) | (refine c_yes rfl (by omega) ?_) | (refine c_no rfl (by omega) ?_) | (refine c_no rfl (fun h => h rfl) ?_) | (refine r_cond_false rfl ?_) | (refine r_cond_true rfl ?_) | (refine r_cond_dec rfl (fun _ => ?_) (fun _ => ?_)) | (refine r_cond_true rfl ?_) | (refine r_cond_false rfl ?_) | (refine c_not rfl (fun _ => ?_) (fun _ => ?_)) | (refine r_off rfl rfl rfl ?_) | (refine q_guard rfl rfl (fun _ => ?_) (fun _ => ?_)) | (refine q_guardn rfl rfl (fun _ => ?_) (fun _ => ?_)))
    exact r_fin hT rfl y rfl rfl rfl trivial rfl hy
  · have hl4 := hlen e4
    by_cases e0 : v.k = 0
    · have hp : plT v = [110, 105, 108] := by unfold plT; rw [if_neg (by omega), if_neg (by omega), if_neg (by omega)]
      repeat' (first | (refine r_pure hT rfl rfl rfl rfl ?_) | (refine r_new hT rfl rfl rfl rfl ?_) | (refine r_write hT rfl rfl rfl ?_) | (refine r_nil ?_) | (refine q_nil ?_) | (refine r_call (saysI h0 u a ts ad Ab cb rs s.L s.o ⟨#[110, 105, 108]⟩ hZ (by rw [hp] at hl4; simp at hl4; show _ + 3 ≤ _; omega)) rfl rfl rfl rfl rfl (hC _ rfl) rfl rfl (fun y u1 hy => ?_)) | (refine r_arith rfl rfl rfl rfl rfl rfl rfl (by omega) ?_) | (with_reducible refine r_seq ?_) | (with_reducible refine x_then ?_) | (with_reducible refine r_region ?_) | (refine r_draw hM (by kernel_rfl) ?_) | (with_reducible refine r_skip ?_) | (with_reducible refine r_ret ?_) | (with_reducible refine x_then_ret ?_) | (with_reducible refine r_block ?_) | (with_reducible refine x_block ?_) | (with_reducible refine x_block_ret ?_) | (with_reducible refine r_exit ?_) | (with_reducible refine x_then_exit ?_) | (with_reducible refine x_block_here ?_) | (refine x_block_past rfl ?_) | (refine c_yes rfl (by omega) ?_) | (refine c_no rfl (by omega) ?_) | (refine c_no rfl (fun h => h rfl) ?_) | (refine r_cond_false rfl ?_) | (refine r_cond_true rfl ?_) | (refine r_cond_dec rfl (fun _ => ?_) (fun _ => ?_)) | (refine r_cond_true rfl ?_) | (refine r_cond_false rfl ?_) | (refine c_not rfl (fun _ => ?_) (fun _ => ?_)) | (refine r_off rfl rfl rfl ?_) | (refine q_guard rfl rfl (fun _ => ?_) (fun _ => ?_)) | (refine q_guardn rfl rfl (fun _ => ?_) (fun _ => ?_)))
      exact r_fin hT rfl y rfl rfl rfl trivial rfl (hcast _ y u1 e4 hp.symm hy)
    · by_cases e1 : v.k = 1
      · have hp : plT v = (boolT (decide (v.n = 1))).data.toList := by
          unfold plT boolT
          rw [if_pos e1]
          by_cases hn : v.n = 1
          · rw [if_pos hn, decide_eq_true hn]; rfl
          · rw [if_neg hn, decide_eq_false hn]; rfl
        repeat' (first | (refine r_pure hT rfl rfl rfl rfl ?_) | (refine r_new hT rfl rfl rfl rfl ?_) | (refine r_write hT rfl rfl rfl ?_) | (refine r_nil ?_) | (refine q_nil ?_) | (refine r_manyD (id := 6) [0, 1, 2, 3, 4, 5] [7] u (Le.refl u) hM (by kernel_rfl) rfl (by kernel_rfl) rfl rfl rfl (fun β0 => ?_)) | (refine p_call (fmtB110 (decide (v.n = 1)) u) rfl rfl rfl rfl rfl (hC _ rfl) rfl rfl rfl ?_) | (refine m_keep (Le.refl u) ⟨rfl, trivial⟩ rfl rfl ?_) | (refine r_call (saysI h0 u a ts ad Ab cb rs s.L s.o (boolT (decide (v.n = 1))) hZ (by rw [hsz, ← hp]; omega)) rfl rfl rfl rfl rfl (hC _ rfl) rfl rfl (fun y u1 hy => ?_)) | (refine m_late rfl rfl ?_) | (refine r_arith rfl rfl rfl rfl rfl rfl rfl (by omega) ?_) | (with_reducible refine r_seq ?_) | (with_reducible refine x_then ?_) | (with_reducible refine r_region ?_) | (with_reducible refine r_skip ?_) | (with_reducible refine r_ret ?_) | (with_reducible refine x_then_ret ?_) | (with_reducible refine r_block ?_) | (with_reducible refine x_block ?_) | (with_reducible refine x_block_ret ?_) | (with_reducible refine r_exit ?_) | (with_reducible refine x_then_exit ?_) | (with_reducible refine x_block_here ?_) | (refine x_block_past rfl ?_) | (refine c_yes rfl (by omega) ?_) | (refine c_no rfl (by omega) ?_) | (refine c_no rfl (fun h => h rfl) ?_) | (refine r_cond_false rfl ?_) | (refine r_cond_true rfl ?_) | (refine r_cond_dec rfl (fun _ => ?_) (fun _ => ?_)) | (refine r_cond_true rfl ?_) | (refine r_cond_false rfl ?_) | (refine c_not rfl (fun _ => ?_) (fun _ => ?_)) | (refine r_off rfl rfl rfl ?_) | (refine q_guard rfl rfl (fun _ => ?_) (fun _ => ?_)) | (refine q_guardn rfl rfl (fun _ => ?_) (fun _ => ?_)) | (refine s_nil ?_) | (with_reducible refine a_full ?_) | (refine m_step rfl rfl (List.cons_ne_nil _ _) ?_) | (refine allR_cons rfl ?_ ?_) | (exact allR_nil) | (refine m_end rfl rfl rfl ?_))
        exact r_fin hT rfl y rfl rfl rfl trivial rfl (hcast _ y u1 e4 hp.symm hy)
      · by_cases e2 : v.k = 2
        · have hp : plT v = (dec v.n).data.toList := by unfold plT; rw [if_neg e1, if_pos e2]; rfl
          repeat' (first | (refine r_pure hT rfl rfl rfl rfl ?_) | (refine r_new hT rfl rfl rfl rfl ?_) | (refine r_write hT rfl rfl rfl ?_) | (refine r_nil ?_) | (refine q_nil ?_) | (refine r_manyD (id := 8) [0, 1, 2, 3, 4] [6] u (Le.refl u) hM (by kernel_rfl) rfl (by kernel_rfl) rfl rfl rfl (fun β0 => ?_)) | (refine p_call (fmt111 v.n hvf.1.1 hvf.1.2 u (hZ.tab10.le hZ.b.base)) rfl rfl rfl rfl rfl (hC _ rfl) rfl rfl rfl ?_) | (refine m_keep (Le.refl u) ⟨rfl, trivial⟩ rfl rfl ?_) | (refine r_call (saysI h0 u a ts ad Ab cb rs s.L s.o (dec v.n) hZ (by rw [hsz, ← hp]; omega)) rfl rfl rfl rfl rfl (hC _ rfl) rfl rfl (fun y u1 hy => ?_)) | (refine m_late rfl rfl ?_) | (refine r_arith rfl rfl rfl rfl rfl rfl rfl (by omega) ?_) | (with_reducible refine r_seq ?_) | (with_reducible refine x_then ?_) | (with_reducible refine r_region ?_) | (with_reducible refine r_skip ?_) | (with_reducible refine r_ret ?_) | (with_reducible refine x_then_ret ?_) | (with_reducible refine r_block ?_) | (with_reducible refine x_block ?_) | (with_reducible refine x_block_ret ?_) | (with_reducible refine r_exit ?_) | (with_reducible refine x_then_exit ?_) | (with_reducible refine x_block_here ?_) | (refine x_block_past rfl ?_) | (refine c_yes rfl (by omega) ?_) | (refine c_no rfl (by omega) ?_) | (refine c_no rfl (fun h => h rfl) ?_) | (refine r_cond_false rfl ?_) | (refine r_cond_true rfl ?_) | (refine r_cond_dec rfl (fun _ => ?_) (fun _ => ?_)) | (refine r_cond_true rfl ?_) | (refine r_cond_false rfl ?_) | (refine c_not rfl (fun _ => ?_) (fun _ => ?_)) | (refine r_off rfl rfl rfl ?_) | (refine q_guard rfl rfl (fun _ => ?_) (fun _ => ?_)) | (refine q_guardn rfl rfl (fun _ => ?_) (fun _ => ?_)) | (refine s_nil ?_) | (with_reducible refine a_full ?_) | (refine m_step rfl rfl (List.cons_ne_nil _ _) ?_) | (refine allR_cons rfl ?_ ?_) | (exact allR_nil) | (refine m_end rfl rfl rfl ?_))
          exact r_fin hT rfl y rfl rfl rfl trivial rfl (hcast _ y u1 e4 hp.symm hy)
        · have e3 : v.k = 3 := by omega
          have hp : plT v = qt v.s.data.toList := by unfold plT; rw [if_neg e1, if_neg e2, if_pos e3]
          repeat' (first | (refine r_pure hT rfl rfl rfl rfl ?_) | (refine r_new hT rfl rfl rfl rfl ?_) | (refine r_write hT rfl rfl rfl ?_) | (refine r_nil ?_) | (refine q_nil ?_) | (refine r_manyD (id := 10) [0, 1, 2, 3, 4] [6] u (Le.refl u) hM (by kernel_rfl) rfl (by kernel_rfl) rfl rfl rfl (fun β0 => ?_)) | (refine p_call (quoted112 v.s hvf.2 u) rfl rfl rfl rfl rfl (hC _ rfl) rfl rfl rfl ?_) | (refine m_keep (Le.refl u) ⟨rfl, trivial⟩ rfl rfl ?_) | (refine r_call (saysI h0 u a ts ad Ab cb rs s.L s.o ⟨(qt v.s.data.toList).toArray⟩ hZ (by rw [bytes_size, ← hp]; omega)) rfl rfl rfl rfl rfl (hC _ rfl) rfl rfl (fun y u1 hy => ?_)) | (refine m_late rfl rfl ?_) | (refine r_arith rfl rfl rfl rfl rfl rfl rfl (by omega) ?_) | (with_reducible refine r_seq ?_) | (with_reducible refine x_then ?_) | (with_reducible refine r_region ?_) | (with_reducible refine r_skip ?_) | (with_reducible refine r_ret ?_) | (with_reducible refine x_then_ret ?_) | (with_reducible refine r_block ?_) | (with_reducible refine x_block ?_) | (with_reducible refine x_block_ret ?_) | (with_reducible refine r_exit ?_) | (with_reducible refine x_then_exit ?_) | (with_reducible refine x_block_here ?_) | (refine x_block_past rfl ?_) | (refine c_yes rfl (by omega) ?_) | (refine c_no rfl (by omega) ?_) | (refine c_no rfl (fun h => h rfl) ?_) | (refine r_cond_false rfl ?_) | (refine r_cond_true rfl ?_) | (refine r_cond_dec rfl (fun _ => ?_) (fun _ => ?_)) | (refine r_cond_true rfl ?_) | (refine r_cond_false rfl ?_) | (refine c_not rfl (fun _ => ?_) (fun _ => ?_)) | (refine r_off rfl rfl rfl ?_) | (refine q_guard rfl rfl (fun _ => ?_) (fun _ => ?_)) | (refine q_guardn rfl rfl (fun _ => ?_) (fun _ => ?_)) | (refine s_nil ?_) | (with_reducible refine a_full ?_) | (refine m_step rfl rfl (List.cons_ne_nil _ _) ?_) | (refine allR_cons rfl ?_ ?_) | (exact allR_nil) | (refine m_end rfl rfl rfl ?_))
          exact r_fin hT rfl y rfl rfl rfl trivial rfl (hcast _ y u1 e4 hp.symm hy)
end Go.Proofs.YtkamfnmbidnhdaaDoor
