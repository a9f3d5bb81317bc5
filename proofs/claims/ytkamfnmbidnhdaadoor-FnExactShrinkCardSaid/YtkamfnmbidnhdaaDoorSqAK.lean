/- A quoted text: the plain function. -/
import Derived.Test.YtkamfnmbidnhdaaDoorSqAH
import Derived.Test.YtkamfnmbidnhdaaDoorSqAD
import Derived.Test.YtkamfnmbidnhdaaDoorSqAG
import Derived.Test.YtkamfnmbidnhdaaDoorSqAJ
import Derived.KernelRfl
set_option linter.unusedVariables false
set_option linter.unusedSimpArgs false
set_option linter.unusedSectionVars false
namespace Go.Sy
def hexT : ByteArray := ⟨#[48, 49, 50, 51, 52, 53, 54, 55, 56, 57, 97, 98, 99, 100, 101, 102]⟩
def hx (k : Nat) : UInt8 := hexT.data.toList.getD k 0
def q1 (b : UInt8) : List UInt8 := if (b.toNat : Int) = 34 ∨ (b.toNat : Int) = 92 then [92, b] else if (b.toNat : Int) < 32 ∨ 126 < (b.toNat : Int) then [92, hx (b.toNat / 16), hx (b.toNat % 16)] else [b]
def qt (l : List UInt8) : List UInt8 := 34 :: l.flatMap q1 ++ [34]
theorem q1_esc {b : UInt8} (h : (b.toNat : Int) = 34 ∨ (b.toNat : Int) = 92) : q1 b = [92, b] := if_pos h
theorem q1_hex {b : UInt8} (h : ¬ ((b.toNat : Int) = 34 ∨ (b.toNat : Int) = 92)) (g : (b.toNat : Int) < 32 ∨ 126 < (b.toNat : Int)) : q1 b = [92, hx (b.toNat / 16), hx (b.toNat % 16)] := by unfold q1; rw [if_neg h, if_pos g]
theorem q1_one {b : UInt8} (h : ¬ ((b.toNat : Int) = 34 ∨ (b.toNat : Int) = 92)) (g : ¬ ((b.toNat : Int) < 32 ∨ 126 < (b.toNat : Int))) : q1 b = [b] := by unfold q1; rw [if_neg h, if_neg g]
theorem q1_len (b : UInt8) : (q1 b).length ≤ 3 := by
  unfold q1
  split
  · simp
  · split <;> simp
theorem qs_len : ∀ l : List UInt8, (l.flatMap q1).length ≤ 3 * l.length
  | [] => by simp
  | b :: r => by
    have := qs_len r
    have := q1_len b
    rw [List.flatMap_cons, List.length_append, List.length_cons]; omega
theorem qt_len (l : List UInt8) : (qt l).length ≤ 3 * l.length + 2 := by
  have := qs_len l
  unfold qt
  rw [List.length_append, List.length_cons, List.length_singleton]; omega
theorem qs_next {l : List UInt8} {i : Nat} {b : UInt8} (h : l[i]? = some b) : (l.take (i + 1)).flatMap q1 = (l.take i).flatMap q1 ++ q1 b := by
  rw [take_snoc h, List.flatMap_append]; simp
theorem byt_at {s : ByteArray} {i : Nat} {b : UInt8} (h : s.data.toList[i]? = some b) : byt s i = b.toNat := by
  unfold byt
  rw [List.getD_eq_getElem?_getD, h]; rfl
theorem byt_hex (k : Nat) : byt hexT k = (hx k).toNat := rfl
end Go.Sy
/- An operation whose guard did not come up does not come up. -/
namespace Go.Sy
section
variable {P : Program} {F : Fr} {tm : Tm} {L : Lm} {u : Hp} {Q : Exit → Act → World → Prop}
theorem r_offu {q : Md} {l : List Oper} {o oj : Oper} {r : List Oper} {d j e : Nat} {want : Bool} (hg : o.guard = some (j, want)) (hj : nth l j = some oj) (he : oj.dst = some e) (hv : kget tm e = some (.v undef)) (ho : o.dst = some d) (hn : Nat.blt d F.n.z = true)
    (next : Run P Q F ((d, .v undef) :: tm) L u q l r) : Run P Q F tm L u q l (o :: r) := by
  cases q <;>
  · intro β a w hf ht hd
    show (if _ then _ else _)
    have hw : Region.wanted o (yielded l.toArray a.tmps) = false := by
      unfold Region.wanted
      rw [hg]
      rw [nth_eq] at hj
      have := (ht.get e _ hv).1
      simp [yielded, hj, he, this, SV.den, undef]
    rw [if_neg (by rw [hw]; simp), ho]
    exact next β _ w hf (put_rel (s := .v undef) hn ht rfl) hd
/-- Bools compared. -/
theorem r_eqb {q : Md} {l : List Oper} {o : Oper} {r : List Oper} {d : Nat} {op : BinOp} {t t' : TypeId} {x y : Operand} {a1 b1 : Bool} (hu : P.underlying t = some .bool) (hb : op = .eql ∨ op = .neq) (hw : wantE l tm o = some true) (ho : o.dst = some d) (hn : Nat.blt d F.n.z = true) (hop : o.op = .binOp op t x y t')
    (hx : ev tm x = some (.v (.bool a1))) (hy : ev tm y = some (.v (.bool b1))) (next : Run P Q F ((d, .v (.bool (match op with | .eql => (a1 == b1) | _ => !(a1 == b1)))) :: tm) L u q l r) : Run P Q F tm L u q l (o :: r) := by
  refine op_pure hw ho hn (fun β a w ht' hd => ⟨?_, rfl⟩) next
  have h1 : a.eval x = .bool a1 := by rw [ev_ok ht' hx, SV.den]
  have h2 : a.eval y = .bool b1 := by rw [ev_ok ht' hy, SV.den]
  rcases hb with rfl | rfl <;> simp [execOp, hop, h1, h2, eqGuard, binOp, run_equal_bool w t a1 b1 hu, SV.den]
end
end Go.Sy
/- The specification's quoted text. No condition. -/
namespace Go.Proofs.YtkamfnmbidnhdaaDoor
open Go.Sy
set_option maxRecDepth 100000
set_option maxHeartbeats 4000000
set_option linter.unusedVariables false
set_option linter.unusedSimpArgs false
/-- A heap without a row. -/
def ptw (u : Hp) (A : Option Addr) : Hp := fun b => if blk A = some b then none else u b
theorem ptw_le (u : Hp) (A : Option Addr) : Le (ptw u A) u := fun b o h => by
  unfold ptw at h
  split at h
  · cases h
  · exact h
theorem ptw_off (u : Hp) (A : Option Addr) : Off (ptw u A) A := fun b hb => by unfold ptw; rw [if_pos hb]
theorem ptw_grown {w v u : Hp} {A A' : Option Addr} (hG : Grown v u A A') (h : Le w v) : Le (ptw w A) u ∧ Off (ptw w A) A' := hG _ ((ptw_le w A).trans h) (ptw_off w A)
theorem quote162 (s : ByteArray) (hs : s.size ≤ 1000000) (h : Hp) : Pur Tryd.prog 162 [.v (.string s)] h (fun y : ByteArray => .v (.string y)) ⟨(qt s.data.toList).toArray⟩ := by
  refine enterS Tryd.func162 rfl (n := 54) rfl rfl (fun k N => ?_)
  have hsl : s.data.toList.length = s.size := rfl
  repeat' (first | (refine r_pure hT rfl rfl rfl rfl ?_) | (refine r_new hT rfl rfl rfl rfl ?_) | (refine r_write hT rfl rfl rfl ?_) | (refine r_nil ?_) | (refine q_nil ?_) | (refine r_bslice hT (ps := [(0, .const (.int .u8 34))]) rfl rfl rfl rfl rfl rfl rfl (by simp) rfl rfl (by decide) (fun b0 hb0 => ?_)) | (refine r_arith rfl rfl rfl rfl rfl rfl rfl (by omega) ?_) | (with_reducible refine r_seq ?_) | (with_reducible refine x_then ?_) | (with_reducible refine r_region ?_) | (refine r_draw hM (by kernel_rfl) ?_) | (with_reducible refine r_skip ?_) | (with_reducible refine r_ret ?_) | (with_reducible refine x_then_ret ?_) | (with_reducible refine r_block ?_) | (with_reducible refine x_block ?_) | (with_reducible refine x_block_ret ?_) | (with_reducible refine r_exit ?_) | (with_reducible refine x_then_exit ?_) | (with_reducible refine x_block_here ?_) | (refine x_block_past rfl ?_) | (refine c_yes rfl (by omega) ?_) | (refine c_no rfl (by omega) ?_) | (refine c_no rfl (fun h => h rfl) ?_) | (refine r_cond_false rfl ?_) | (refine r_cond_true rfl ?_) | (refine r_cond_true rfl ?_) | (refine r_cond_false rfl ?_) | (refine r_off rfl rfl rfl ?_) | (refine q_guard rfl rfl (fun _ => ?_) (fun _ => ?_)) | (refine q_guardn rfl rfl (fun _ => ?_) (fun _ => ?_)))
  have hO0 : Own (upd h b0 (.cells [Value.int .u8 34].toArray 5 (0, 0))) (some ⟨b0, 0, none⟩) 1 1 5 1 (([34] : List UInt8).flatMap bc1) := own_made (m := 1) (z := [Value.int .u8 34]) rfl
  refine r_loop (γ := (Nat × List UInt8) × (Hp × (Option Addr × Nat))) (fun g => g.1.1 ≤ s.size ∧ g.1.2 = 34 :: (s.data.toList.take g.1.1).flatMap q1 ∧ Le h g.2.1 ∧ Own g.2.1 g.2.2.1 g.1.2.length g.2.2.2 5 1 (g.1.2.flatMap bc1) ∧ Off h g.2.2.1)
    (fun g => [(0, .v (.string s)), (3, .v (.string hexT)), (4, .v (.slice g.2.2.1 g.1.2.length g.2.2.2)), (5, .v (.int .i64 (g.1.1 : Int)))]) (fun _ => []) (fun g => g.2.1) (fun g => s.size - g.1.1)
    ((0, [34]), (_, (some ⟨b0, 0, none⟩, 1))) ⟨Nat.zero_le _, rfl, le_frsh (Le.refl _) hb0, hO0, fun b hb => by have e := Option.some.inj hb; subst e; exact hb0⟩ (into rfl ⟨rfl, rfl, rfl, rfl, trivial⟩ trivial rfl rfl) ?_
  rintro ⟨⟨i, o⟩, ⟨u, ⟨A, c⟩⟩⟩ ⟨hi, ho, hle, hO, hoff⟩
  dsimp only at *
  have hol : o.length ≤ 3 * s.size + 1 := by
    have := qs_len (s.data.toList.take i)
    rw [ho, List.length_cons]
    rw [List.length_take, hsl] at this; omega
  by_cases hlt : i < s.size
  · have hb : s.data.toList[i]? = some s.data.toList[i] := List.getElem?_eq_getElem (by rw [hsl]; exact hlt)
    generalize s.data.toList[i]'(by rw [hsl]; exact hlt) = b at hb
    have hbt := byt_at hb
    have hnx : (34 : UInt8) :: (s.data.toList.take (i + 1)).flatMap q1 = o ++ q1 b := by rw [qs_next hb, ho]; rfl
    have hbl : b.toNat < 256 := b.toNat_lt
    by_cases e1 : (b.toNat : Int) = 34 ∨ (b.toNat : Int) = 92
    · rw [q1_esc e1] at hnx
      by_cases e2 : (b.toNat : Int) = 34
      · repeat' (first | (refine r_pure hT rfl rfl rfl rfl ?_) | (refine r_new hT rfl rfl rfl rfl ?_) | (refine r_write hT rfl rfl rfl ?_) | (refine r_nil ?_) | (refine q_nil ?_) | (refine r_offu rfl rfl rfl rfl rfl rfl ?_) | ((refine r_byte hT rfl rfl rfl rfl rfl rfl rfl rfl hlt ?_ ; rw [hbt])) | (refine q_guard rfl rfl (fun _ => ?_) (fun hx => absurd e2 hx)) | (refine r_bslice hT (ps := [(0, .const (.int .u8 92)), (1, .tmp 29)]) rfl rfl rfl rfl rfl rfl rfl (by simp) rfl rfl (by decide) (fun b2 hb2 => ?_)) | (refine r_append hT (cs := o.flatMap bc1) (news := ([92, b] : List UInt8).flatMap bc1) rfl rfl rfl rfl rfl rfl rfl rfl rfl rfl rfl (own_fr hO hb2) (sl_blk (upd_here ..) rfl) bc1_one (by dsimp only; omega) (by omega) (fun A' c' u5 hO5 hG5 => ?_)) | (refine r_arith rfl rfl rfl rfl rfl rfl rfl (by omega) ?_) | (with_reducible refine r_seq ?_) | (with_reducible refine x_then ?_) | (with_reducible refine r_region ?_) | (refine r_draw hM (by kernel_rfl) ?_) | (with_reducible refine r_skip ?_) | (with_reducible refine r_ret ?_) | (with_reducible refine x_then_ret ?_) | (with_reducible refine r_block ?_) | (with_reducible refine x_block ?_) | (with_reducible refine x_block_ret ?_) | (with_reducible refine r_exit ?_) | (with_reducible refine x_then_exit ?_) | (with_reducible refine x_block_here ?_) | (refine x_block_past rfl ?_) | (refine c_yes rfl (by omega) ?_) | (refine c_no rfl (by omega) ?_) | (refine c_no rfl (fun h => h rfl) ?_) | (refine r_cond_false rfl ?_) | (refine r_cond_true rfl ?_) | (refine r_cond_dec rfl (fun _ => ?_) (fun _ => ?_)) | (refine r_cond_true rfl ?_) | (refine r_cond_false rfl ?_) | (refine c_not rfl (fun _ => ?_) (fun _ => ?_)) | (refine r_off rfl rfl rfl ?_))
        have hu5 := hG5 h (le_frsh hle hb2) hoff
        exact x_round ((i + 1, 34 :: (s.data.toList.take (i + 1)).flatMap q1), (u5, (A', c'))) ⟨hlt, rfl, hu5.1, by dsimp only; rw [hnx, List.flatMap_append, List.length_append]; exact hO5, hu5.2⟩ (by dsimp only; omega)
          (into rfl ⟨rfl, rfl, congrArg (fun z => some (SV.v (.slice A' z c'))) (by rw [hnx, List.length_append]; rfl), rfl, trivial⟩ trivial rfl rfl)
      · have e3 : (b.toNat : Int) = 92 := e1.resolve_left e2
        repeat' (first | (refine r_pure hT rfl rfl rfl rfl ?_) | (refine r_new hT rfl rfl rfl rfl ?_) | (refine r_write hT rfl rfl rfl ?_) | (refine r_nil ?_) | (refine q_nil ?_) | (refine r_offu rfl rfl rfl rfl rfl rfl ?_) | ((refine r_byte hT rfl rfl rfl rfl rfl rfl rfl rfl hlt ?_ ; rw [hbt])) | (refine q_guard rfl rfl (fun hx => absurd hx e2) (fun _ => ?_)) | (refine r_bslice hT (ps := [(0, .const (.int .u8 92)), (1, .tmp 29)]) rfl rfl rfl rfl rfl rfl rfl (by simp) rfl rfl (by decide) (fun b2 hb2 => ?_)) | (refine r_append hT (cs := o.flatMap bc1) (news := ([92, b] : List UInt8).flatMap bc1) rfl rfl rfl rfl rfl rfl rfl rfl rfl rfl rfl (own_fr hO hb2) (sl_blk (upd_here ..) rfl) bc1_one (by dsimp only; omega) (by omega) (fun A' c' u5 hO5 hG5 => ?_)) | (refine r_arith rfl rfl rfl rfl rfl rfl rfl (by omega) ?_) | (with_reducible refine r_seq ?_) | (with_reducible refine x_then ?_) | (with_reducible refine r_region ?_) | (refine r_draw hM (by kernel_rfl) ?_) | (with_reducible refine r_skip ?_) | (with_reducible refine r_ret ?_) | (with_reducible refine x_then_ret ?_) | (with_reducible refine r_block ?_) | (with_reducible refine x_block ?_) | (with_reducible refine x_block_ret ?_) | (with_reducible refine r_exit ?_) | (with_reducible refine x_then_exit ?_) | (with_reducible refine x_block_here ?_) | (refine x_block_past rfl ?_) | (refine c_yes rfl (by omega) ?_) | (refine c_no rfl (by omega) ?_) | (refine c_no rfl (fun h => h rfl) ?_) | (refine r_cond_false rfl ?_) | (refine r_cond_true rfl ?_) | (refine r_cond_dec rfl (fun _ => ?_) (fun _ => ?_)) | (refine r_cond_true rfl ?_) | (refine r_cond_false rfl ?_) | (refine c_not rfl (fun _ => ?_) (fun _ => ?_)) | (refine r_off rfl rfl rfl ?_))
        have hu5 := hG5 h (le_frsh hle hb2) hoff
        exact x_round ((i + 1, 34 :: (s.data.toList.take (i + 1)).flatMap q1), (u5, (A', c'))) ⟨hlt, rfl, hu5.1, by dsimp only; rw [hnx, List.flatMap_append, List.length_append]; exact hO5, hu5.2⟩ (by dsimp only; omega)
          (into rfl ⟨rfl, rfl, congrArg (fun z => some (SV.v (.slice A' z c'))) (by rw [hnx, List.length_append]; rfl), rfl, trivial⟩ trivial rfl rfl)
    · have e2 : ¬ (b.toNat : Int) = 34 := fun e => e1 (.inl e)
      have e3 : ¬ (b.toNat : Int) = 92 := fun e => e1 (.inr e)
      by_cases e4 : (b.toNat : Int) < 32 ∨ 126 < (b.toNat : Int)
      · rw [q1_hex e1 e4] at hnx
        have hq16 : IntKind.u8.wrap (((b.toNat : Nat) : Int).tdiv 16) = ((b.toNat / 16 : Nat) : Int) := by
          have h1 : ((b.toNat : Nat) : Int).tdiv 16 = ((b.toNat / 16 : Nat) : Int) := rfl
          rw [h1, IntWalk.u8_in _ (by omega)]
        by_cases e5 : (b.toNat : Int) < 32
        · repeat' (first | (refine r_pure hT rfl rfl rfl rfl ?_) | (refine r_new hT rfl rfl rfl rfl ?_) | (refine r_write hT rfl rfl rfl ?_) | (refine r_nil ?_) | (refine q_nil ?_) | (refine r_offu rfl rfl rfl rfl rfl rfl ?_) | ((refine r_byte hT rfl rfl rfl rfl rfl rfl rfl rfl hlt ?_ ; rw [hbt])) | (refine q_guard rfl rfl (fun hx => absurd hx e2) (fun _ => ?_)) | (refine q_guard rfl rfl (fun _ => ?_) (fun hx => absurd e5 hx)) | (refine r_many (id := 11) [0, 1, 2, 3, 4, 5, 6, 7, 8] [] (ptw u A) (ptw_le u A) hM (by kernel_rfl) rfl (by kernel_rfl) rfl rfl rfl (fun β0 => ?_)) | ((refine r_quo rfl rfl rfl rfl rfl rfl (by omega) ?_ ; rw [hq16])) | (refine r_remN (q := 16) rfl rfl rfl rfl rfl rfl (by omega) ?_) | ((refine r_byte (s := hexT) hT rfl rfl rfl rfl rfl rfl rfl rfl (show b.toNat / 16 < 16 by omega) ?_ ; rw [byt_hex])) | ((refine r_byte (s := hexT) hT rfl rfl rfl rfl rfl rfl rfl rfl (show b.toNat % 16 < 16 by omega) ?_ ; rw [byt_hex])) | (refine r_bslice hT (ps := [(0, .const (.int .u8 92)), (1, .tmp 43), (2, .tmp 47)]) rfl rfl rfl rfl rfl rfl rfl (by simp) rfl rfl (by decide) (fun b2 hb2 => ?_)) | (refine m_keep ((ptw_le u A).trans (le_frsh (Le.refl u) hb2)) trivial rfl rfl ?_) | (refine r_append hT (cs := o.flatMap bc1) (news := ([92, hx (b.toNat / 16), hx (b.toNat % 16)] : List UInt8).flatMap bc1) rfl rfl rfl rfl rfl rfl rfl rfl rfl rfl rfl (own_fr hO hb2) (sl_blk (upd_here ..) rfl) bc1_one (by dsimp only; omega) (by omega) (fun A' c' u5 hO5 hG5 => ?_)) | (refine m_keep (ptw_grown hG5 (le_frsh (Le.refl u) hb2)).1 trivial rfl rfl ?_) | (refine r_arith rfl rfl rfl rfl rfl rfl rfl (by omega) ?_) | (with_reducible refine r_seq ?_) | (with_reducible refine x_then ?_) | (with_reducible refine r_region ?_) | (refine r_draw hM (by kernel_rfl) ?_) | (with_reducible refine r_skip ?_) | (with_reducible refine r_ret ?_) | (with_reducible refine x_then_ret ?_) | (with_reducible refine r_block ?_) | (with_reducible refine x_block ?_) | (with_reducible refine x_block_ret ?_) | (with_reducible refine r_exit ?_) | (with_reducible refine x_then_exit ?_) | (with_reducible refine x_block_here ?_) | (refine x_block_past rfl ?_) | (refine c_yes rfl (by omega) ?_) | (refine c_no rfl (by omega) ?_) | (refine c_no rfl (fun h => h rfl) ?_) | (refine r_cond_false rfl ?_) | (refine r_cond_true rfl ?_) | (refine r_cond_dec rfl (fun _ => ?_) (fun _ => ?_)) | (refine r_cond_true rfl ?_) | (refine r_cond_false rfl ?_) | (refine c_not rfl (fun _ => ?_) (fun _ => ?_)) | (refine r_off rfl rfl rfl ?_) | (refine s_nil ?_) | (with_reducible refine a_full ?_) | (refine m_step rfl rfl (List.cons_ne_nil _ _) ?_) | (refine allR_cons rfl ?_ ?_) | (exact allR_nil) | (refine m_end rfl rfl rfl ?_))
          have hu5 := hG5 h (le_frsh hle hb2) hoff
          exact x_round ((i + 1, 34 :: (s.data.toList.take (i + 1)).flatMap q1), (u5, (A', c'))) ⟨hlt, rfl, hu5.1, by dsimp only; rw [hnx, List.flatMap_append, List.length_append]; exact hO5, hu5.2⟩ (by dsimp only; omega)
            (into rfl ⟨rfl, rfl, congrArg (fun z => some (SV.v (.slice A' z c'))) (by rw [hnx, List.length_append]; rfl), rfl, trivial⟩ trivial rfl rfl)
        · have e6 : 126 < (b.toNat : Int) := e4.resolve_left e5
          repeat' (first | (refine r_pure hT rfl rfl rfl rfl ?_) | (refine r_new hT rfl rfl rfl rfl ?_) | (refine r_write hT rfl rfl rfl ?_) | (refine r_nil ?_) | (refine q_nil ?_) | (refine r_offu rfl rfl rfl rfl rfl rfl ?_) | ((refine r_byte hT rfl rfl rfl rfl rfl rfl rfl rfl hlt ?_ ; rw [hbt])) | (refine q_guard rfl rfl (fun hx => absurd hx e2) (fun _ => ?_)) | (refine q_guard rfl rfl (fun hx => absurd hx e5) (fun _ => ?_)) | (refine r_many (id := 11) [0, 1, 2, 3, 4, 5, 6, 7, 8] [] (ptw u A) (ptw_le u A) hM (by kernel_rfl) rfl (by kernel_rfl) rfl rfl rfl (fun β0 => ?_)) | ((refine r_quo rfl rfl rfl rfl rfl rfl (by omega) ?_ ; rw [hq16])) | (refine r_remN (q := 16) rfl rfl rfl rfl rfl rfl (by omega) ?_) | ((refine r_byte (s := hexT) hT rfl rfl rfl rfl rfl rfl rfl rfl (show b.toNat / 16 < 16 by omega) ?_ ; rw [byt_hex])) | ((refine r_byte (s := hexT) hT rfl rfl rfl rfl rfl rfl rfl rfl (show b.toNat % 16 < 16 by omega) ?_ ; rw [byt_hex])) | (refine r_bslice hT (ps := [(0, .const (.int .u8 92)), (1, .tmp 43), (2, .tmp 47)]) rfl rfl rfl rfl rfl rfl rfl (by simp) rfl rfl (by decide) (fun b2 hb2 => ?_)) | (refine m_keep ((ptw_le u A).trans (le_frsh (Le.refl u) hb2)) trivial rfl rfl ?_) | (refine r_append hT (cs := o.flatMap bc1) (news := ([92, hx (b.toNat / 16), hx (b.toNat % 16)] : List UInt8).flatMap bc1) rfl rfl rfl rfl rfl rfl rfl rfl rfl rfl rfl (own_fr hO hb2) (sl_blk (upd_here ..) rfl) bc1_one (by dsimp only; omega) (by omega) (fun A' c' u5 hO5 hG5 => ?_)) | (refine m_keep (ptw_grown hG5 (le_frsh (Le.refl u) hb2)).1 trivial rfl rfl ?_) | (refine r_arith rfl rfl rfl rfl rfl rfl rfl (by omega) ?_) | (with_reducible refine r_seq ?_) | (with_reducible refine x_then ?_) | (with_reducible refine r_region ?_) | (refine r_draw hM (by kernel_rfl) ?_) | (with_reducible refine r_skip ?_) | (with_reducible refine r_ret ?_) | (with_reducible refine x_then_ret ?_) | (with_reducible refine r_block ?_) | (with_reducible refine x_block ?_) | (with_reducible refine x_block_ret ?_) | (with_reducible refine r_exit ?_) | (with_reducible refine x_then_exit ?_) | (with_reducible refine x_block_here ?_) | (refine x_block_past rfl ?_) | (refine c_yes rfl (by omega) ?_) | (refine c_no rfl (by omega) ?_) | (refine c_no rfl (fun h => h rfl) ?_) | (refine r_cond_false rfl ?_) | (refine r_cond_true rfl ?_) | (refine r_cond_dec rfl (fun _ => ?_) (fun _ => ?_)) | (refine r_cond_true rfl ?_) | (refine r_cond_false rfl ?_) | (refine c_not rfl (fun _ => ?_) (fun _ => ?_)) | (refine r_off rfl rfl rfl ?_) | (refine s_nil ?_) | (with_reducible refine a_full ?_) | (refine m_step rfl rfl (List.cons_ne_nil _ _) ?_) | (refine allR_cons rfl ?_ ?_) | (exact allR_nil) | (refine m_end rfl rfl rfl ?_))
          have hu5 := hG5 h (le_frsh hle hb2) hoff
          exact x_round ((i + 1, 34 :: (s.data.toList.take (i + 1)).flatMap q1), (u5, (A', c'))) ⟨hlt, rfl, hu5.1, by dsimp only; rw [hnx, List.flatMap_append, List.length_append]; exact hO5, hu5.2⟩ (by dsimp only; omega)
            (into rfl ⟨rfl, rfl, congrArg (fun z => some (SV.v (.slice A' z c'))) (by rw [hnx, List.length_append]; rfl), rfl, trivial⟩ trivial rfl rfl)
      · have e5 : ¬ (b.toNat : Int) < 32 := fun e => e4 (.inl e)
        have e6 : ¬ 126 < (b.toNat : Int) := fun e => e4 (.inr e)
        rw [q1_one e1 e4] at hnx
        repeat' (first | (refine r_pure hT rfl rfl rfl rfl ?_) | (refine r_new hT rfl rfl rfl rfl ?_) | (refine r_write hT rfl rfl rfl ?_) | (refine r_nil ?_) | (refine q_nil ?_) | (refine r_offu rfl rfl rfl rfl rfl rfl ?_) | ((refine r_byte hT rfl rfl rfl rfl rfl rfl rfl rfl hlt ?_ ; rw [hbt])) | (refine q_guard rfl rfl (fun hx => absurd hx e2) (fun _ => ?_)) | (refine q_guard rfl rfl (fun hx => absurd hx e5) (fun _ => ?_)) | (refine r_bslice hT (ps := [(0, .tmp 18)]) rfl rfl rfl rfl rfl rfl rfl (by simp) rfl rfl (by decide) (fun b2 hb2 => ?_)) | (refine r_append hT (cs := o.flatMap bc1) (news := ([b] : List UInt8).flatMap bc1) rfl rfl rfl rfl rfl rfl rfl rfl rfl rfl rfl (own_fr hO hb2) (sl_blk (upd_here ..) rfl) bc1_one (by dsimp only; omega) (by omega) (fun A' c' u5 hO5 hG5 => ?_)) | (refine r_arith rfl rfl rfl rfl rfl rfl rfl (by omega) ?_) | (with_reducible refine r_seq ?_) | (with_reducible refine x_then ?_) | (with_reducible refine r_region ?_) | (refine r_draw hM (by kernel_rfl) ?_) | (with_reducible refine r_skip ?_) | (with_reducible refine r_ret ?_) | (with_reducible refine x_then_ret ?_) | (with_reducible refine r_block ?_) | (with_reducible refine x_block ?_) | (with_reducible refine x_block_ret ?_) | (with_reducible refine r_exit ?_) | (with_reducible refine x_then_exit ?_) | (with_reducible refine x_block_here ?_) | (refine x_block_past rfl ?_) | (refine c_yes rfl (by omega) ?_) | (refine c_no rfl (by omega) ?_) | (refine c_no rfl (fun h => h rfl) ?_) | (refine r_cond_false rfl ?_) | (refine r_cond_true rfl ?_) | (refine r_cond_dec rfl (fun _ => ?_) (fun _ => ?_)) | (refine r_cond_true rfl ?_) | (refine r_cond_false rfl ?_) | (refine c_not rfl (fun _ => ?_) (fun _ => ?_)) | (refine r_off rfl rfl rfl ?_))
        have hu5 := hG5 h (le_frsh hle hb2) hoff
        exact x_round ((i + 1, 34 :: (s.data.toList.take (i + 1)).flatMap q1), (u5, (A', c'))) ⟨hlt, rfl, hu5.1, by dsimp only; rw [hnx, List.flatMap_append, List.length_append]; exact hO5, hu5.2⟩ (by dsimp only; omega)
          (into rfl ⟨rfl, rfl, congrArg (fun z => some (SV.v (.slice A' z c'))) (by rw [hnx, List.length_append]; rfl), rfl, trivial⟩ trivial rfl rfl)
  · obtain rfl : i = s.size := by omega
    rw [List.take_of_length_le (by rw [hsl]; exact Nat.le_refl _)] at ho
    repeat' (first | (refine r_pure hT rfl rfl rfl rfl ?_) | (refine r_new hT rfl rfl rfl rfl ?_) | (refine r_write hT rfl rfl rfl ?_) | (refine r_nil ?_) | (refine q_nil ?_) | (refine r_bslice hT (ps := [(0, .const (.int .u8 34))]) rfl rfl rfl rfl rfl rfl rfl (by simp) rfl rfl (by decide) (fun b2 hb2 => ?_)) | (refine r_append hT (cs := o.flatMap bc1) (news := ([34] : List UInt8).flatMap bc1) rfl rfl rfl rfl rfl rfl rfl rfl rfl rfl rfl (own_fr hO hb2) (sl_blk (upd_here ..) rfl) bc1_one (by dsimp only; omega) (by omega) (fun A' c' u5 hO5 hG5 => ?_)) | (refine r_str (s := ⟨(o ++ [34]).toArray⟩) hT rfl rfl rfl rfl rfl rfl rfl rfl rfl rfl rfl (by rw [bc1_of, List.flatMap_append]; exact hO5.sl) ?_) | (refine r_arith rfl rfl rfl rfl rfl rfl rfl (by omega) ?_) | (with_reducible refine r_seq ?_) | (with_reducible refine x_then ?_) | (with_reducible refine r_region ?_) | (refine r_draw hM (by kernel_rfl) ?_) | (with_reducible refine r_skip ?_) | (with_reducible refine r_ret ?_) | (with_reducible refine x_then_ret ?_) | (with_reducible refine r_block ?_) | (with_reducible refine x_block ?_) | (with_reducible refine x_block_ret ?_) | (with_reducible refine r_exit ?_) | (with_reducible refine x_then_exit ?_) | (with_reducible refine x_block_here ?_) | (refine x_block_past rfl ?_) | (refine c_yes rfl (by omega) ?_) | (refine c_no rfl (by omega) ?_) | (refine c_no rfl (fun h => h rfl) ?_) | (refine r_cond_false rfl ?_) | (refine r_cond_true rfl ?_) | (refine r_cond_dec rfl (fun _ => ?_) (fun _ => ?_)) | (refine r_cond_true rfl ?_) | (refine r_cond_false rfl ?_) | (refine c_not rfl (fun _ => ?_) (fun _ => ?_)) | (refine r_off rfl rfl rfl ?_) | (refine q_guard rfl rfl (fun _ => ?_) (fun _ => ?_)) | (refine q_guardn rfl rfl (fun _ => ?_) (fun _ => ?_)))
    refine St.weak (hG5 h (le_frsh hle hb2) hoff).1 ?_
    exact r_fin hT rfl (⟨(qt s.data.toList).toArray⟩ : ByteArray) rfl rfl (congrArg (fun z : List UInt8 => some (Value.string ⟨z.toArray⟩)) (by rw [ho]; rfl)) trivial rfl ⟨rfl, rfl⟩
end Go.Proofs.YtkamfnmbidnhdaaDoor
/- strings.Builder, wherever it lies in a block. No condition. -/
namespace Go.Proofs.YtkamfnmbidnhdaaDoor
open Go.Sy
set_option maxRecDepth 100000
set_option maxHeartbeats 4000000
set_option linter.unusedVariables false
set_option linter.unusedSimpArgs false
def bdC (pre post : List Value) (ad : Value) (A : Option Addr) (n c : Nat) : List Value := pre ++ ad :: .slice A n c :: post
structure BSt (h0 u : Hp) (pb : Nat) (e : TypeId) (pre post : List Value) (ad : Value) (A : Option Addr) (c : Nat) (o : List UInt8) : Prop where
  cell : u pb = some (.cells (bdC pre post ad A o.length c).toArray e (0, 0))
  own : Own u A o.length c 5 1 (o.flatMap bc1)
  hd : HdA A
  adr : ad = .pointer none ∨ ad = .pointer (some ⟨pb, pre.length, none⟩)
  base : Le h0 u
  hp : h0 pb = none
  ho : Off h0 A
  ap : blk A ≠ some pb
/-- That a Builder lies there in a block of that type. -/
def LiesB (e : TypeId) (pre post : List Value) : Prop := liesAt Tryd.prog Tryd.prog.depth e ((pre.length + 2 + post.length) / Tryd.prog.cellsOf e) pre.length 93 1 = true
section
variable {h0 u : Hp} {pb : Nat} {e : TypeId} {pre post : List Value} {ad : Value} {A : Option Addr} {c : Nat} {o : List UInt8}
theorem bdC_len (pre post : List Value) (ad : Value) (A : Option Addr) (n c : Nat) : (bdC pre post ad A n c).length = pre.length + 2 + post.length := by simp [bdC]; omega
theorem BSt.at_ (h : BSt h0 u pb e pre post ad A c o) : At u pb pre.length [ad, .slice A o.length c] := ⟨_, _, _, h.cell, fun j v hj => by
  simp only [bdC, List.getElem?_toArray]
  rw [List.getElem?_append_right (by omega), show pre.length + j - pre.length = j by omega]
  match j, hj with
  | 0, hj => exact hj
  | 1, hj => exact hj⟩
theorem bdC_ad (v : Value) (n : Nat) : setL (bdC pre post ad A n c) pre.length [v] = bdC pre post v A n c := by
  unfold bdC
  rw [show pre.length = pre.length + 0 from rfl, setL_pre]; rfl
theorem bdC_sl (n : Nat) (A' : Option Addr) (m c' : Nat) : setL (bdC pre post ad A n c) (pre.length + 1) [.slice A' m c'] = bdC pre post ad A' m c' := by
  unfold bdC
  rw [setL_pre]; rfl
theorem BSt.ad_ (h : BSt h0 u pb e pre post ad A c o) : BSt h0 (upd u pb (.cells (bdC pre post (.pointer (some ⟨pb, pre.length, none⟩)) A o.length c).toArray e (0, 0))) pb e pre post (.pointer (some ⟨pb, pre.length, none⟩)) A c o :=
  ⟨upd_here .., h.own.le fun b o hb ho => by rw [upd_ne (fun e => h.ap (by rw [← e]; exact hb))]; exact ho, h.hd, .inr rfl, fun x o hx => by rw [upd_ne (fun e => by rw [e, h.hp] at hx; cases hx)]; exact h.base x o hx, h.hp, h.ho, h.ap⟩
end
/-- Blocks that are not the builder's stay, and are not its afterwards. -/
def KeepB (u : Hp) (pb : Nat) (A : Option Addr) (u' : Hp) (A' : Option Addr) : Prop := ∀ z ox, z ≠ pb → blk A ≠ some z → u z = some ox → u' z = some ox ∧ blk A' ≠ some z
theorem BSt.push {h0 u w u3 : Hp} {pb : Nat} {e : TypeId} {pre post : List Value} {ad : Value} {A A' : Option Addr} {c c' : Nat} {o x : List UInt8} (h : BSt h0 u pb e pre post ad A c o) (hw : Le u w) (hO : Own u3 A' (o.length + x.length) c' 5 1 (o.flatMap bc1 ++ x.flatMap bc1)) (hG : Grown w u3 A A') (hH : HdA A → HdA A') :
    u3 pb = some (.cells (bdC pre post ad A o.length c).toArray e (0, 0)) ∧ BSt h0 (upd u3 pb (.cells (bdC pre post ad A' (o.length + x.length) c').toArray e (0, 0))) pb e pre post ad A' c' (o ++ x) ∧ KeepB u pb A (upd u3 pb (.cells (bdC pre post ad A' (o.length + x.length) c').toArray e (0, 0))) A' := by
  obtain ⟨g1, g2⟩ := ptw_grown hG hw
  have kk : ∀ z ox, u z = some ox → blk A ≠ some z → u3 z = some ox ∧ blk A' ≠ some z := fun z ox hx hne => by
    have h1 : ptw u A z = some ox := by unfold ptw; rw [if_neg hne]; exact hx
    exact ⟨g1 z ox h1, fun e => by rw [g2 z e] at h1; cases h1⟩
  obtain ⟨c1, c2⟩ := kk _ _ h.cell h.ap
  have hl : (o ++ x).length = o.length + x.length := List.length_append
  refine ⟨c1, ⟨by rw [upd_here, hl], ?_, hH h.hd, h.adr, fun z ox hz => ?_, h.hp, fun b hb => ?_, c2⟩, fun z ox hz hA hu => ?_⟩
  · rw [hl, List.flatMap_append]
    exact hO.le fun b o hb ho => by rw [upd_ne (fun e => c2 (by rw [← e]; exact hb))]; exact ho
  · rw [upd_ne (fun e => by rw [e, h.hp] at hz; cases hz)]
    exact (kk z ox (h.base z ox hz) (fun e => by rw [h.ho z e] at hz; cases hz)).1
  · cases hh : h0 b with
    | none => rfl
    | some ox => exact absurd hb (kk b ox (h.base b ox hh) (fun e => by rw [h.ho b e] at hh; cases hh)).2
  · obtain ⟨k1, k2⟩ := kk z ox hu hA
    exact ⟨by rw [upd_ne hz]; exact k1, k2⟩
theorem info93 : (Tryd.prog.info? 93).map (·.size) = some 2 := by kernel_rfl
theorem copyCheck (h0 u : Hp) (pb : Nat) (e : TypeId) (pre post : List Value) (ad : Value) (A : Option Addr) (c : Nat) (o : List UInt8) (hB : BSt h0 u pb e pre post ad A c o) (hl : LiesB e pre post) :
    TriS Tryd.prog 139 [.v (.pointer (some ⟨pb, pre.length, none⟩))] [] u (fun _ : Unit => .tu []) (fun _ => [])
      (fun _ u' => BSt h0 u' pb e pre post (.pointer (some ⟨pb, pre.length, none⟩)) A c o ∧ ∀ z, z ≠ pb → u' z = u z) := by
  obtain ⟨j, hj, hjs⟩ := Option.map_eq_some_iff.1 info93
  have hat := hB.at_
  refine enterS Tryd.func139 rfl (n := 20) rfl rfl (fun k N => ?_)
  rcases hB.adr with rfl | rfl
  · have hsz : (bdC pre post (.pointer none) A o.length c).toArray.size = pre.length + 2 + post.length := by simpa using bdC_len pre post (.pointer none) A o.length c
    repeat' (first | (refine r_pure hT rfl rfl rfl rfl ?_) | (refine r_new hT rfl rfl rfl rfl ?_) | (refine r_write hT rfl rfl rfl ?_) | (refine r_nil ?_) | (refine q_nil ?_) | (refine r_load hT hat rfl rfl rfl rfl rfl rfl rfl rfl rfl rfl rfl ?_) | (refine r_ptrnil Tryd.underlying91 rfl rfl rfl rfl rfl rfl ?_) | (refine r_tounsafe Tryd.underlying91 Tryd.underlying198 hj (by rw [hjs]; decide) hB.cell (by rw [hsz]; show pre.length < _; omega) rfl rfl rfl rfl rfl ?_) | (refine r_noescape Tryd.func164 (by kernel_rfl) (by kernel_rfl) (by kernel_rfl) (by kernel_rfl) rfl rfl rfl rfl rfl ?_) | (refine r_fromunsafe Tryd.underlying198 Tryd.underlying91 hj hB.cell (by rw [hsz]; exact hl) rfl rfl rfl rfl rfl ?_) | (refine r_store hT rfl rfl rfl rfl rfl rfl rfl rfl rfl rfl hB.cell (by rw [hsz]; show pre.length + 1 ≤ _; omega) ?_) | (refine r_arith rfl rfl rfl rfl rfl rfl rfl (by omega) ?_) | (with_reducible refine r_seq ?_) | (with_reducible refine x_then ?_) | (with_reducible refine r_region ?_) | (refine r_draw hM (by kernel_rfl) ?_) | (with_reducible refine r_skip ?_) | (with_reducible refine r_ret ?_) | (with_reducible refine x_then_ret ?_) | (with_reducible refine r_block ?_) | (with_reducible refine x_block ?_) | (with_reducible refine x_block_ret ?_) | (with_reducible refine r_exit ?_) | (with_reducible refine x_then_exit ?_) | (with_reducible refine x_block_here ?_) | (refine x_block_past rfl ?_) | (refine c_yes rfl (by omega) ?_) | (refine c_no rfl (by omega) ?_) | (refine c_no rfl (fun h => h rfl) ?_) | (refine r_cond_false rfl ?_) | (refine r_cond_true rfl ?_) | (refine r_cond_dec rfl (fun _ => ?_) (fun _ => ?_)) | (refine r_cond_true rfl ?_) | (refine r_cond_false rfl ?_) | (refine c_not rfl (fun _ => ?_) (fun _ => ?_)) | (refine r_off rfl rfl rfl ?_) | (refine q_guard rfl rfl (fun _ => ?_) (fun _ => ?_)) | (refine q_guardn rfl rfl (fun _ => ?_) (fun _ => ?_)))
    have e1 : setL (bdC pre post (.pointer none) A o.length c).toArray.toList (pre.length + 0) [.pointer (some ⟨pb, pre.length, none⟩)] = bdC pre post (.pointer (some ⟨pb, pre.length, none⟩)) A o.length c := bdC_ad _ _
    rw [e1]
    exact r_fin hT rfl () rfl rfl rfl trivial rfl ⟨hB.ad_, fun z hz => upd_ne hz⟩
  · repeat' (first | (refine r_pure hT rfl rfl rfl rfl ?_) | (refine r_new hT rfl rfl rfl rfl ?_) | (refine r_write hT rfl rfl rfl ?_) | (refine r_nil ?_) | (refine q_nil ?_) | (refine r_load hT hat rfl rfl rfl rfl rfl rfl rfl rfl rfl rfl rfl ?_) | (refine r_ptrnil Tryd.underlying91 rfl rfl rfl rfl rfl rfl ?_) | (refine r_ptrsame Tryd.underlying91 hj rfl rfl rfl rfl rfl rfl ?_) | (refine r_arith rfl rfl rfl rfl rfl rfl rfl (by omega) ?_) | (with_reducible refine r_seq ?_) | (with_reducible refine x_then ?_) | (with_reducible refine r_region ?_) | (refine r_draw hM (by kernel_rfl) ?_) | (with_reducible refine r_skip ?_) | (with_reducible refine r_ret ?_) | (with_reducible refine x_then_ret ?_) | (with_reducible refine r_block ?_) | (with_reducible refine x_block ?_) | (with_reducible refine x_block_ret ?_) | (with_reducible refine r_exit ?_) | (with_reducible refine x_then_exit ?_) | (with_reducible refine x_block_here ?_) | (refine x_block_past rfl ?_) | (refine c_yes rfl (by omega) ?_) | (refine c_no rfl (by omega) ?_) | (refine c_no rfl (fun h => h rfl) ?_) | (refine r_cond_false rfl ?_) | (refine r_cond_true rfl ?_) | (refine r_cond_dec rfl (fun _ => ?_) (fun _ => ?_)) | (refine r_cond_true rfl ?_) | (refine r_cond_false rfl ?_) | (refine c_not rfl (fun _ => ?_) (fun _ => ?_)) | (refine r_off rfl rfl rfl ?_) | (refine q_guard rfl rfl (fun _ => ?_) (fun _ => ?_)) | (refine q_guardn rfl rfl (fun _ => ?_) (fun _ => ?_)))
    exact r_fin hT rfl () rfl rfl rfl trivial rfl ⟨hB, fun z hz => rfl⟩
theorem writeS (h0 u : Hp) (pb : Nat) (e : TypeId) (pre post : List Value) (ad : Value) (A : Option Addr) (c : Nat) (o : List UInt8) (s : ByteArray) (hB : BSt h0 u pb e pre post ad A c o) (hl : LiesB e pre post) (hs : o.length + s.size ≤ 1000000000) :
    TriS Tryd.prog 109 [.v (.pointer (some ⟨pb, pre.length, none⟩)), .v (.string s)] [] u (fun _ : Option Addr × Nat => .tu [.v (.int .i64 (s.size : Int)), .v .nilIface]) (fun _ => [])
      (fun y u' => BSt h0 u' pb e pre post (.pointer (some ⟨pb, pre.length, none⟩)) y.1 y.2 (o ++ s.data.toList) ∧ KeepB u pb A u' y.1) := by
  refine enterS Tryd.func109 rfl (n := 19) rfl rfl (fun k N => ?_)
  repeat' (first | (refine r_pure hT rfl rfl rfl rfl ?_) | (refine r_new hT rfl rfl rfl rfl ?_) | (refine r_write hT rfl rfl rfl ?_) | (refine r_nil ?_) | (refine q_nil ?_) | (refine r_call (copyCheck h0 u pb e pre post ad A c o hB hl) rfl rfl rfl rfl rfl (hC _ rfl) rfl rfl (fun _ u1 hy => ?_)) | (refine r_arith rfl rfl rfl rfl rfl rfl rfl (by omega) ?_) | (with_reducible refine r_seq ?_) | (with_reducible refine x_then ?_) | (with_reducible refine r_region ?_) | (refine r_draw hM (by kernel_rfl) ?_) | (with_reducible refine r_skip ?_) | (with_reducible refine r_ret ?_) | (with_reducible refine x_then_ret ?_) | (with_reducible refine r_block ?_) | (with_reducible refine x_block ?_) | (with_reducible refine x_block_ret ?_) | (with_reducible refine r_exit ?_) | (with_reducible refine x_then_exit ?_) | (with_reducible refine x_block_here ?_) | (refine x_block_past rfl ?_) | (refine c_yes rfl (by omega) ?_) | (refine c_no rfl (by omega) ?_) | (refine c_no rfl (fun h => h rfl) ?_) | (refine r_cond_false rfl ?_) | (refine r_cond_true rfl ?_) | (refine r_cond_dec rfl (fun _ => ?_) (fun _ => ?_)) | (refine r_cond_true rfl ?_) | (refine r_cond_false rfl ?_) | (refine c_not rfl (fun _ => ?_) (fun _ => ?_)) | (refine r_off rfl rfl rfl ?_) | (refine q_guard rfl rfl (fun _ => ?_) (fun _ => ?_)) | (refine q_guardn rfl rfl (fun _ => ?_) (fun _ => ?_)))
  obtain ⟨hB1, hz1⟩ := hy
  have hat := hB1.at_
  have hsz : ∀ n : Nat, (bdC pre post (.pointer (some ⟨pb, pre.length, none⟩)) A n c).toArray.size = pre.length + 2 + post.length := fun n => by simpa using bdC_len pre post (.pointer (some ⟨pb, pre.length, none⟩)) A n c
  repeat' (first | (refine r_pure hT rfl rfl rfl rfl ?_) | (refine r_new hT rfl rfl rfl rfl ?_) | (refine r_write hT rfl rfl rfl ?_) | (refine r_nil ?_) | (refine q_nil ?_) | (refine r_load hT hat rfl rfl rfl rfl rfl rfl rfl rfl rfl rfl rfl ?_) | ((refine r_append_str0 hT rfl rfl rfl rfl rfl rfl rfl rfl rfl rfl rfl rfl rfl hB1.own (by omega) (fun A' c' u3 hO3 hG3 hH3 => ?_) ; rw [← bc1_bytes] at hO3 ; obtain ⟨hc3, hB3, hK3⟩ := hB1.push (x := s.data.toList) (Le.refl u1) hO3 hG3 hH3)) | (refine r_store hT rfl rfl rfl rfl rfl rfl rfl rfl rfl rfl hc3 (by rw [hsz]; show pre.length + 1 + 1 ≤ _; omega) ?_) | (refine r_arith rfl rfl rfl rfl rfl rfl rfl (by omega) ?_) | (with_reducible refine r_seq ?_) | (with_reducible refine x_then ?_) | (with_reducible refine r_region ?_) | (refine r_draw hM (by kernel_rfl) ?_) | (with_reducible refine r_skip ?_) | (with_reducible refine r_ret ?_) | (with_reducible refine x_then_ret ?_) | (with_reducible refine r_block ?_) | (with_reducible refine x_block ?_) | (with_reducible refine x_block_ret ?_) | (with_reducible refine r_exit ?_) | (with_reducible refine x_then_exit ?_) | (with_reducible refine x_block_here ?_) | (refine x_block_past rfl ?_) | (refine c_yes rfl (by omega) ?_) | (refine c_no rfl (by omega) ?_) | (refine c_no rfl (fun h => h rfl) ?_) | (refine r_cond_false rfl ?_) | (refine r_cond_true rfl ?_) | (refine r_cond_dec rfl (fun _ => ?_) (fun _ => ?_)) | (refine r_cond_true rfl ?_) | (refine r_cond_false rfl ?_) | (refine c_not rfl (fun _ => ?_) (fun _ => ?_)) | (refine r_off rfl rfl rfl ?_) | (refine q_guard rfl rfl (fun _ => ?_) (fun _ => ?_)) | (refine q_guardn rfl rfl (fun _ => ?_) (fun _ => ?_)))
  have e1 : setL (bdC pre post (.pointer (some ⟨pb, pre.length, none⟩)) A o.length c).toArray.toList (pre.length + 1) [.slice A' (o.length + s.size) c'] = bdC pre post (.pointer (some ⟨pb, pre.length, none⟩)) A' (o.length + s.size) c' := bdC_sl _ _ _ _
  rw [e1]
  exact r_fin hT rfl ((A', c') : Option Addr × Nat) rfl rfl rfl trivial rfl ⟨hB3, fun z ox hz hA hu => hK3 z ox hz hA (by rw [hz1 z hz]; exact hu)⟩
theorem writeB (h0 u : Hp) (pb : Nat) (e : TypeId) (pre post : List Value) (ad : Value) (A : Option Addr) (c : Nat) (o : List UInt8) (b : UInt8) (hB : BSt h0 u pb e pre post ad A c o) (hl : LiesB e pre post) (hs : o.length + 1 ≤ 1000000000) :
    TriS Tryd.prog 142 [.v (.pointer (some ⟨pb, pre.length, none⟩)), .v (.int .u8 (b.toNat : Int))] [] u (fun _ : Option Addr × Nat => .v .nilIface) (fun _ => [])
      (fun y u' => BSt h0 u' pb e pre post (.pointer (some ⟨pb, pre.length, none⟩)) y.1 y.2 (o ++ [b]) ∧ KeepB u pb A u' y.1) := by
  refine enterS Tryd.func142 rfl (n := 17) rfl rfl (fun k N => ?_)
  repeat' (first | (refine r_pure hT rfl rfl rfl rfl ?_) | (refine r_new hT rfl rfl rfl rfl ?_) | (refine r_write hT rfl rfl rfl ?_) | (refine r_nil ?_) | (refine q_nil ?_) | (refine r_call (copyCheck h0 u pb e pre post ad A c o hB hl) rfl rfl rfl rfl rfl (hC _ rfl) rfl rfl (fun _ u1 hy => ?_)) | (refine r_arith rfl rfl rfl rfl rfl rfl rfl (by omega) ?_) | (with_reducible refine r_seq ?_) | (with_reducible refine x_then ?_) | (with_reducible refine r_region ?_) | (refine r_draw hM (by kernel_rfl) ?_) | (with_reducible refine r_skip ?_) | (with_reducible refine r_ret ?_) | (with_reducible refine x_then_ret ?_) | (with_reducible refine r_block ?_) | (with_reducible refine x_block ?_) | (with_reducible refine x_block_ret ?_) | (with_reducible refine r_exit ?_) | (with_reducible refine x_then_exit ?_) | (with_reducible refine x_block_here ?_) | (refine x_block_past rfl ?_) | (refine c_yes rfl (by omega) ?_) | (refine c_no rfl (by omega) ?_) | (refine c_no rfl (fun h => h rfl) ?_) | (refine r_cond_false rfl ?_) | (refine r_cond_true rfl ?_) | (refine r_cond_dec rfl (fun _ => ?_) (fun _ => ?_)) | (refine r_cond_true rfl ?_) | (refine r_cond_false rfl ?_) | (refine c_not rfl (fun _ => ?_) (fun _ => ?_)) | (refine r_off rfl rfl rfl ?_) | (refine q_guard rfl rfl (fun _ => ?_) (fun _ => ?_)) | (refine q_guardn rfl rfl (fun _ => ?_) (fun _ => ?_)))
  obtain ⟨hB1, hz1⟩ := hy
  have hat := hB1.at_
  have hsz : ∀ n : Nat, (bdC pre post (.pointer (some ⟨pb, pre.length, none⟩)) A n c).toArray.size = pre.length + 2 + post.length := fun n => by simpa using bdC_len pre post (.pointer (some ⟨pb, pre.length, none⟩)) A n c
  repeat' (first | (refine r_pure hT rfl rfl rfl rfl ?_) | (refine r_new hT rfl rfl rfl rfl ?_) | (refine r_write hT rfl rfl rfl ?_) | (refine r_nil ?_) | (refine q_nil ?_) | (refine r_load hT hat rfl rfl rfl rfl rfl rfl rfl rfl rfl rfl rfl ?_) | (refine r_bslice hT (ps := [(0, .tmp 12)]) rfl rfl rfl rfl rfl rfl rfl (by simp) rfl rfl (by decide) (fun b2 hb2 => ?_)) | ((refine r_append0 hT (cs := o.flatMap bc1) (news := ([b] : List UInt8).flatMap bc1) rfl rfl rfl rfl rfl rfl rfl rfl rfl rfl rfl (own_fr hB1.own hb2) (sl_blk (upd_here ..) rfl) bc1_one (by dsimp only; omega) (by omega) (fun A' c' u3 hO3 hG3 hH3 => ?_) ; obtain ⟨hc3, hB3, hK3⟩ := hB1.push (x := [b]) (le_frsh (Le.refl u1) hb2) hO3 hG3 hH3)) | (refine r_store hT rfl rfl rfl rfl rfl rfl rfl rfl rfl rfl hc3 (by rw [hsz]; show pre.length + 1 + 1 ≤ _; omega) ?_) | (refine r_arith rfl rfl rfl rfl rfl rfl rfl (by omega) ?_) | (with_reducible refine r_seq ?_) | (with_reducible refine x_then ?_) | (with_reducible refine r_region ?_) | (refine r_draw hM (by kernel_rfl) ?_) | (with_reducible refine r_skip ?_) | (with_reducible refine r_ret ?_) | (with_reducible refine x_then_ret ?_) | (with_reducible refine r_block ?_) | (with_reducible refine x_block ?_) | (with_reducible refine x_block_ret ?_) | (with_reducible refine r_exit ?_) | (with_reducible refine x_then_exit ?_) | (with_reducible refine x_block_here ?_) | (refine x_block_past rfl ?_) | (refine c_yes rfl (by omega) ?_) | (refine c_no rfl (by omega) ?_) | (refine c_no rfl (fun h => h rfl) ?_) | (refine r_cond_false rfl ?_) | (refine r_cond_true rfl ?_) | (refine r_cond_dec rfl (fun _ => ?_) (fun _ => ?_)) | (refine r_cond_true rfl ?_) | (refine r_cond_false rfl ?_) | (refine c_not rfl (fun _ => ?_) (fun _ => ?_)) | (refine r_off rfl rfl rfl ?_) | (refine q_guard rfl rfl (fun _ => ?_) (fun _ => ?_)) | (refine q_guardn rfl rfl (fun _ => ?_) (fun _ => ?_)))
  have e1 : setL (bdC pre post (.pointer (some ⟨pb, pre.length, none⟩)) A o.length c).toArray.toList (pre.length + 1) [.slice A' (o.length + 1) c'] = bdC pre post (.pointer (some ⟨pb, pre.length, none⟩)) A' (o.length + 1) c' := bdC_sl _ _ _ _
  rw [e1]
  exact r_fin hT rfl ((A', c') : Option Addr × Nat) rfl rfl rfl trivial rfl ⟨hB3, fun z ox hz hA hu => hK3 z ox hz hA (by rw [hz1 z hz]; exact hu)⟩
theorem lenB (h0 u : Hp) (pb : Nat) (e : TypeId) (pre post : List Value) (ad : Value) (A : Option Addr) (c : Nat) (o : List UInt8) (hB : BSt h0 u pb e pre post ad A c o) :
    Pur Tryd.prog 71 [.v (.pointer (some ⟨pb, pre.length, none⟩))] u (fun y : Nat => .v (.int .i64 (y : Int))) o.length := by
  have hat := hB.at_
  refine enterS Tryd.func71 rfl (n := 8) rfl rfl (fun k N => ?_)
  repeat' (first | (refine r_pure hT rfl rfl rfl rfl ?_) | (refine r_new hT rfl rfl rfl rfl ?_) | (refine r_write hT rfl rfl rfl ?_) | (refine r_nil ?_) | (refine q_nil ?_) | (refine r_load hT hat rfl rfl rfl rfl rfl rfl rfl rfl rfl rfl rfl ?_) | (refine r_arith rfl rfl rfl rfl rfl rfl rfl (by omega) ?_) | (with_reducible refine r_seq ?_) | (with_reducible refine x_then ?_) | (with_reducible refine r_region ?_) | (refine r_draw hM (by kernel_rfl) ?_) | (with_reducible refine r_skip ?_) | (with_reducible refine r_ret ?_) | (with_reducible refine x_then_ret ?_) | (with_reducible refine r_block ?_) | (with_reducible refine x_block ?_) | (with_reducible refine x_block_ret ?_) | (with_reducible refine r_exit ?_) | (with_reducible refine x_then_exit ?_) | (with_reducible refine x_block_here ?_) | (refine x_block_past rfl ?_) | (refine c_yes rfl (by omega) ?_) | (refine c_no rfl (by omega) ?_) | (refine c_no rfl (fun h => h rfl) ?_) | (refine r_cond_false rfl ?_) | (refine r_cond_true rfl ?_) | (refine r_cond_dec rfl (fun _ => ?_) (fun _ => ?_)) | (refine r_cond_true rfl ?_) | (refine r_cond_false rfl ?_) | (refine c_not rfl (fun _ => ?_) (fun _ => ?_)) | (refine r_off rfl rfl rfl ?_) | (refine q_guard rfl rfl (fun _ => ?_) (fun _ => ?_)) | (refine q_guardn rfl rfl (fun _ => ?_) (fun _ => ?_)))
  exact r_fin hT rfl o.length rfl rfl rfl trivial rfl ⟨rfl, rfl⟩
end Go.Proofs.YtkamfnmbidnhdaaDoor
