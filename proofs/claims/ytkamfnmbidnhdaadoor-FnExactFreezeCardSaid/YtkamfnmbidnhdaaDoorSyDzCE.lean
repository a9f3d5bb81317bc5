/- The walk by a symbolic frame (SyDzCE): contracts of functions; each with its own conditions as hypotheses. -/
import Derived.Test.YtkamfnmbidnhdaaDoorSyDT
import Derived.Laws.StructEq
import Derived.WideKeyEntry
set_option linter.unusedVariables false
set_option linter.unusedSimpArgs false
set_option linter.unusedSectionVars false
namespace Go.Proofs.YtkamfnmbidnhdaaDoor
open Go.Sy
theorem text_eq {a b : ByteArray} : a.toList = b.toList ↔ a = b := by
  constructor
  · intro h
    rw [ByteArray.toList_eq, ByteArray.toList_eq] at h
    obtain ⟨⟨x⟩⟩ := a
    obtain ⟨⟨y⟩⟩ := b
    simp at h; rw [h]
  · intro h; rw [h]
instance : DecidableEq V := fun x y => decidable_of_iff (x.k = y.k ∧ x.n = y.n ∧ x.s.toList = y.s.toList ∧ x.a = y.a) (by
  cases x; cases y; simp [text_eq])
theorem eq48 (d : Nat) (w : World) (x y : V) : (Op.equalIn (d + 2) 48 (.agg x.c.toArray) (.agg y.c.toArray)).run Tryd.prog w = .ok (decide (x = y)) w := by
  rw [run_equalIn_struct w (d + 1) 48 _ _ (by rw [Program.fieldsOf, Tryd.underlying48]) (by kernel_rfl)]
  have e : decide (x = y) = (x.k == y.k && (x.n == y.n && (x.s.toList == y.s.toList && x.a == y.a))) := by
    rw [Bool.eq_iff_iff]
    cases x; cases y
    simp [V.mk.injEq, text_eq]
  rw [e]
  simp only [Program.fieldsOf, Tryd.underlying48, V.c, Op.eqFields]
  go_simp
  cases h1 : (x.k == y.k) <;> cases h2 : (x.n == y.n) <;> cases h3 : (x.s.toList == y.s.toList) <;> cases h4 : (x.a == y.a) <;> simp_all
end Go.Proofs.YtkamfnmbidnhdaaDoor
namespace Go.Proofs.YtkamfnmbidnhdaaDoor
open Go.Sy
set_option maxRecDepth 100000
set_option maxHeartbeats 4000000
set_option linter.unusedVariables false
/-- A value that a graph of n tables may hold. -/
def VOk (v : V) (n : Nat) : Prop :=
  (v.k = 0 ∧ v.n = 0 ∧ v.s.toList = [] ∧ v.a = 0) ∨ (v.k = 1 ∧ (v.n = 0 ∨ v.n = 1) ∧ v.s.toList = [] ∧ v.a = 0) ∨ (v.k = 2 ∧ v.s.toList = [] ∧ v.a = 0) ∨
    (v.k = 3 ∧ v.n = 0 ∧ v.a = 0 ∧ v.s.size ≤ 500) ∨ (v.k = 4 ∧ v.n = 0 ∧ v.s.toList = [] ∧ 0 ≤ v.a ∧ v.a < n)
instance (v : V) (n : Nat) : Decidable (VOk v n) := by unfold VOk; infer_instance
def KOk (v : V) : Prop := (v.k = 1 ∨ v.k = 2 ∨ v.k = 3) ∧ VOk v 0
instance (v : V) : Decidable (KOk v) := by unfold KOk; infer_instance
theorem nil_list : (ByteArray.mk ⟨[]⟩).toList = [] := by decide +kernel
theorem l2val (v g : V) (A : Option Addr) (n c : Nat) (h : Hp) : Pur Tryd.prog 101 [.ag (gsv g A n c), .ag v.sv] h (fun y : Bool => .v (.bool y)) (decide (VOk v n)) := by
  refine enterS Tryd.func101 rfl (n := 91) rfl rfl (fun k N => ?_)
  repeat' (first | (refine r_pure hT rfl rfl rfl rfl ?_) | (refine r_new hT rfl rfl rfl rfl ?_) | (refine r_write hT rfl rfl rfl ?_) | (refine r_nil ?_) | (refine q_nil ?_) | (refine r_arith rfl rfl rfl rfl rfl rfl rfl (by omega) ?_) | (with_reducible refine r_seq ?_) | (with_reducible refine x_then ?_) | (with_reducible refine r_region ?_) | (refine r_draw hM (by kernel_rfl) ?_) | (with_reducible refine r_skip ?_) | (with_reducible refine r_ret ?_) | (with_reducible refine x_then_ret ?_) | (with_reducible refine r_block ?_) | (with_reducible refine x_block ?_) | (with_reducible refine x_block_ret ?_) | (with_reducible refine r_exit ?_) | (with_reducible refine x_then_exit ?_) | (with_reducible refine x_block_here ?_) | (refine x_block_past rfl ?_) | (refine c_yes rfl (by omega) ?_) | (refine c_no rfl (by omega) ?_) | (refine c_no rfl (fun h => h rfl) ?_) | (refine r_cond_false rfl ?_) | (refine r_cond_true rfl ?_) | (refine r_cond_dec rfl (fun _ => ?_) (fun _ => ?_)) | (refine r_cond_true rfl ?_) | (refine r_cond_false rfl ?_) | (refine c_not rfl (fun _ => ?_) (fun _ => ?_)) | (refine r_off rfl rfl rfl ?_) | (refine q_guard rfl rfl (fun _ => ?_) (fun _ => ?_)) | (refine q_guardn rfl rfl (fun _ => ?_) (fun _ => ?_)))
  all_goals exact r_fin hT rfl _ rfl rfl rfl trivial rfl ⟨by (try simp only [nil_list] at *); simp_all [VOk] <;> omega, rfl⟩
theorem l2key (v : V) (h : Hp) : Pur Tryd.prog 102 [.ag v.sv] h (fun y : Bool => .v (.bool y)) (decide (KOk v)) := by
  refine enterS Tryd.func102 rfl (n := 21) rfl rfl (fun k N => ?_)
  repeat' (first | (refine r_pure hT rfl rfl rfl rfl ?_) | (refine r_new hT rfl rfl rfl rfl ?_) | (refine r_write hT rfl rfl rfl ?_) | (refine r_nil ?_) | (refine q_nil ?_) | (refine r_build hT rfl rfl rfl rfl rfl rfl rfl rfl rfl ?_) | (refine p_call (l2val v ⟨0, 0, ⟨⟨[]⟩⟩, 0⟩ none 0 0 _) rfl rfl rfl rfl rfl (hC _ rfl) rfl rfl rfl ?_) | (refine r_arith rfl rfl rfl rfl rfl rfl rfl (by omega) ?_) | (with_reducible refine r_seq ?_) | (with_reducible refine x_then ?_) | (with_reducible refine r_region ?_) | (refine r_draw hM (by kernel_rfl) ?_) | (with_reducible refine r_skip ?_) | (with_reducible refine r_ret ?_) | (with_reducible refine x_then_ret ?_) | (with_reducible refine r_block ?_) | (with_reducible refine x_block ?_) | (with_reducible refine x_block_ret ?_) | (with_reducible refine r_exit ?_) | (with_reducible refine x_then_exit ?_) | (with_reducible refine x_block_here ?_) | (refine x_block_past rfl ?_) | (refine c_yes rfl (by omega) ?_) | (refine c_no rfl (by omega) ?_) | (refine c_no rfl (fun h => h rfl) ?_) | (refine r_cond_false rfl ?_) | (refine r_cond_true rfl ?_) | (refine r_cond_dec rfl (fun _ => ?_) (fun _ => ?_)) | (refine r_cond_true rfl ?_) | (refine r_cond_false rfl ?_) | (refine c_not rfl (fun _ => ?_) (fun _ => ?_)) | (refine r_off rfl rfl rfl ?_) | (refine q_guard rfl rfl (fun _ => ?_) (fun _ => ?_)) | (refine q_guardn rfl rfl (fun _ => ?_) (fun _ => ?_)))
  all_goals exact r_fin hT rfl _ rfl rfl rfl trivial rfl ⟨by simp_all [KOk], rfl⟩
end Go.Proofs.YtkamfnmbidnhdaaDoor
namespace Go.Proofs.YtkamfnmbidnhdaaDoor
open Go.Sy Go.RowKit Go.ChangeMaps Go.MapKept
set_option maxRecDepth 100000
set_option maxHeartbeats 4000000
set_option linter.unusedVariables false
def iKey (x : Int) : Value := .int .i64 x
theorem i_now (x : Int) : ∀ (l : List Int) (es : List MapEntry) (i : Nat), es.map (·.key) = l.map iKey →
    Instr.findNow (.int .i64) (iKey x) es i = some (match l.findIdx? (fun y => decide (x = y)) with | some j => (es[j]?).map (fun e => (i + j, e.val)) | none => none)
  | [], es, i, h => by
    have : es = [] := by simpa using h
    subst this; rfl
  | y :: l, [], i, h => by simp at h
  | y :: l, e :: es, i, h => by
    simp only [List.map_cons, List.cons.injEq] at h
    obtain ⟨h1, h2⟩ := h
    have ih := i_now x l es (i + 1) h2
    by_cases hx : x = y
    · simp [Instr.findNow, h1, iKey, Instr.sameNow, List.findIdx?_cons, hx]
    · simp only [Instr.findNow, h1, Instr.sameNow, iKey, if_true, beq_eq_false_iff_ne.2 hx, List.findIdx?_cons, decide_eq_false hx]
      simp only [iKey] at ih
      rw [ih]
      cases l.findIdx? (fun y => decide (x = y)) with
      | none => rfl
      | some j => simp [Nat.add_assoc, Nat.add_comm 1 j]
theorem iKey_check (em : Bool) (m : Nat) (w : World) (x : Int) : (Instr.checkKey em (m + 1) 3 (iKey x)).run Tryd.prog w = .ok () w := by
  simp [Instr.checkKey, iKey, run_underlying Tryd.underlying3]
theorem iKeyOps : KeyOps Tryd.prog 3 iKey where
  check w em x := iKey_check em 9999 w x
  find w x l es h := by
    have := i_now x l es 0 h
    simp [Instr.findKey, run_underlying Tryd.underlying3, this]
    cases l.findIdx? (fun y => decide (x = y)) <;> rfl
  stays w x := by simp [Instr.keyThatStays, Instr.sameBits, iKey]
def vKey (v : V) : Value := .agg v.c.toArray
theorem vKey_eq (w : World) (x y : V) : (Op.equal 48 (vKey x) (vKey y)).run Tryd.prog w = .ok (decide (x = y)) w := eq48 9998 w x y
theorem v_asking (w : World) (x : V) : ∀ (l : List V) (es : List MapEntry) (i : Nat), es.map (·.key) = l.map vKey →
    (Instr.findAsking 48 (vKey x) es i).run Tryd.prog w = .ok (match l.findIdx? (fun y => decide (x = y)) with | some j => (es[j]?).map (fun e => (i + j, e.val)) | none => none) w
  | [], es, i, h => by
    have : es = [] := by simpa using h
    subst this
    simp [Instr.findAsking]
  | y :: l, [], i, h => by simp at h
  | y :: l, e :: es, i, h => by
    simp only [List.map_cons, List.cons.injEq] at h
    obtain ⟨h1, h2⟩ := h
    have ih := v_asking w x l es (i + 1) h2
    by_cases hx : x = y
    · simp [Instr.findAsking, h1, vKey_eq, Result.andThen, List.findIdx?_cons, hx]
    · simp only [Instr.findAsking, h1, Sem.run_bind, vKey_eq, Result.andThen, decide_eq_false hx, List.findIdx?_cons, ih, Bool.false_eq_true, if_false]
      cases l.findIdx? (fun y => decide (x = y)) with
      | none => rfl
      | some j => simp [Nat.add_assoc, Nat.add_comm 1 j]
theorem text_self (s : ByteArray) : (s == s) = true := by
  cases s with | mk d =>
  show (d == d) = true
  simp
theorem vKey_check (em : Bool) (n : Nat) (w : World) (x : V) : (Instr.checkKey em (n + 2) 48 (vKey x)).run Tryd.prog w = .ok () w := by
  have hu := Tryd.underlying48
  have hi : ∀ (m : Nat) (a : Int), (Instr.checkKey em (m + 1) 3 (.int .i64 a)).run Tryd.prog w = .ok () w := fun m a => by simp [Instr.checkKey, run_underlying Tryd.underlying3]
  have hs : ∀ (m : Nat) (a : ByteArray), (Instr.checkKey em (m + 1) 9 (.string a)).run Tryd.prog w = .ok () w := fun m a => by simp [Instr.checkKey, run_underlying Tryd.underlying9]
  have hj : ∀ (m : Nat) (a : Int), (Instr.checkKey em (m + 1) 2 (.int .i64 a)).run Tryd.prog w = .ok () w := fun m a => by simp [Instr.checkKey, run_underlying Tryd.underlying2]
  rw [Instr.checkKey, Sem.run_bind, run_underlying hu]
  simp only [vKey, V.c, Result.andThen]
  go_simp
theorem vKeyOps : KeyOps Tryd.prog 48 vKey where
  check w em x := vKey_check em 9998 w x
  find w x l es h := by
    have hu := Tryd.underlying48
    refine (run_findKey_eq (P := Tryd.prog) (k := 48) (w := w) (by rw [hu]) (vKey x) es).trans ?_
    rw [v_asking w x l es 0 h]
    cases l.findIdx? (fun y => decide (x = y)) <;> simp
  stays w x := by
    simp [Instr.keyThatStays, Instr.sameBits, vKey, V.c, text_self]
def lowBit (x : Int) : Int := if (BitVec.ofInt 64 x).toNat % 2 = 1 then 1 else 0
theorem lowBit_run (x : Int) : Op.intBits .and .i64 x 1 = pure (.int .i64 (lowBit x)) := by
  unfold Op.intBits lowBit
  simp only
  have h : (BitVec.ofInt IntKind.i64.bits x &&& BitVec.ofInt IntKind.i64.bits 1).toNat = (BitVec.ofInt 64 x).toNat % 2 := by
    show (BitVec.ofInt 64 x &&& 1#64).toNat = _
    rw [BitVec.toNat_and]
    exact Nat.and_one_is_mod _
  rw [h]
  have h2 : (BitVec.ofInt 64 x).toNat % 2 < 2 := Nat.mod_lt _ (by omega)
  split
  · rename_i h3; rw [h3]; rfl
  · rename_i h3
    have : (BitVec.ofInt 64 x).toNat % 2 = 0 := by omega
    rw [this]; rfl
theorem lowBit_iff (x : Int) : lowBit x = x ↔ x = 0 ∨ x = 1 := by
  constructor
  · intro h
    unfold lowBit at h
    split at h <;> omega
  · rintro (rfl | rfl) <;> decide
theorem eq29f (w : World) (k n : Int) (s : ByteArray) (a : Int) (y : V) : (Op.equalIn Op.maxDepth 48 (.agg [.int .i64 k, .int .i64 n, .string s, .int .i64 a].toArray) (.agg y.c.toArray)).run Tryd.prog w = .ok (decide ((⟨k, n, s, a⟩ : V) = y)) w := eq48 9998 w ⟨k, n, s, a⟩ y
theorem v_eq {k n : Int} {s : ByteArray} {a : Int} {v : V} : ((⟨k, n, s, a⟩ : V) = v) ↔ v.k = k ∧ v.n = n ∧ v.s.toList = s.toList ∧ v.a = a := by
  cases v
  simp only [V.mk.injEq, text_eq]
  constructor <;> (rintro ⟨rfl, rfl, rfl, rfl⟩; exact ⟨rfl, rfl, rfl, rfl⟩)
theorem size_nil (s : ByteArray) (h : s.toList = []) : s.size = 0 := by
  rw [ByteArray.toList_eq] at h
  obtain ⟨⟨x⟩⟩ := s
  simp at h; subst h; rfl
theorem lowBit_iff' {x : Int} : x = lowBit x ↔ x = 0 ∨ x = 1 := eq_comm.trans (lowBit_iff x)
theorem valOk (v : V) (n : Nat) (h : Hp) : Pur Tryd.prog 106 [.ag v.sv, .v (.int .i64 n)] h (fun y : Bool => .v (.bool y)) (decide (VOk v n)) := by
  refine enterS Tryd.func106 rfl (n := 57) rfl rfl (fun k N => ?_)
  repeat' (first | (refine r_pure hT rfl rfl rfl rfl ?_) | (refine r_new hT rfl rfl rfl rfl ?_) | (refine r_write hT rfl rfl rfl ?_) | (refine r_nil ?_) | (refine q_nil ?_) | (refine r_build hT rfl rfl rfl rfl rfl rfl rfl rfl rfl ?_) | (refine r_bits rfl rfl rfl rfl rfl rfl (lowBit_run _) (.inl rfl) ?_) | (refine r_eqs (fun w => eq29f w _ _ _ _ v) (by kernel_rfl) (.inl rfl) rfl rfl rfl rfl rfl rfl rfl rfl ?_) | (refine r_arith rfl rfl rfl rfl rfl rfl rfl (by omega) ?_) | (with_reducible refine r_seq ?_) | (with_reducible refine x_then ?_) | (with_reducible refine r_region ?_) | (refine r_draw hM (by kernel_rfl) ?_) | (with_reducible refine r_skip ?_) | (with_reducible refine r_ret ?_) | (with_reducible refine x_then_ret ?_) | (with_reducible refine r_block ?_) | (with_reducible refine x_block ?_) | (with_reducible refine x_block_ret ?_) | (with_reducible refine r_exit ?_) | (with_reducible refine x_then_exit ?_) | (with_reducible refine x_block_here ?_) | (refine x_block_past rfl ?_) | (refine c_yes rfl (by omega) ?_) | (refine c_no rfl (by omega) ?_) | (refine c_no rfl (fun h => h rfl) ?_) | (refine r_cond_false rfl ?_) | (refine r_cond_true rfl ?_) | (refine r_cond_dec rfl (fun _ => ?_) (fun _ => ?_)) | (refine r_cond_true rfl ?_) | (refine r_cond_false rfl ?_) | (refine c_not rfl (fun _ => ?_) (fun _ => ?_)) | (refine r_off rfl rfl rfl ?_) | (refine q_guard rfl rfl (fun _ => ?_) (fun _ => ?_)) | (refine q_guardn rfl rfl (fun _ => ?_) (fun _ => ?_)))
  all_goals exact r_fin hT rfl _ rfl rfl rfl trivial rfl ⟨by (have hz := size_nil v.s); (try simp only [v_eq, nil_list, lowBit_iff'] at *); simp_all [VOk] <;> omega, rfl⟩
theorem kok_iff (v : V) : KOk v ↔ (1 ≤ v.k ∧ v.k ≤ 3) ∧ VOk v 0 := by
  unfold KOk
  have : (v.k = 1 ∨ v.k = 2 ∨ v.k = 3) ↔ (1 ≤ v.k ∧ v.k ≤ 3) := by omega
  rw [this]
theorem keyOk (v : V) (h : Hp) : Pur Tryd.prog 107 [.ag v.sv] h (fun y : Bool => .v (.bool y)) (decide (KOk v)) := by
  refine enterS Tryd.func107 rfl (n := 15) rfl rfl (fun k N => ?_)
  repeat' (first | (refine r_pure hT rfl rfl rfl rfl ?_) | (refine r_new hT rfl rfl rfl rfl ?_) | (refine r_write hT rfl rfl rfl ?_) | (refine r_nil ?_) | (refine q_nil ?_) | (refine p_call (valOk v 0 _) rfl rfl rfl rfl rfl (hC _ rfl) rfl rfl rfl ?_) | (refine r_arith rfl rfl rfl rfl rfl rfl rfl (by omega) ?_) | (with_reducible refine r_seq ?_) | (with_reducible refine x_then ?_) | (with_reducible refine r_region ?_) | (refine r_draw hM (by kernel_rfl) ?_) | (with_reducible refine r_skip ?_) | (with_reducible refine r_ret ?_) | (with_reducible refine x_then_ret ?_) | (with_reducible refine r_block ?_) | (with_reducible refine x_block ?_) | (with_reducible refine x_block_ret ?_) | (with_reducible refine r_exit ?_) | (with_reducible refine x_then_exit ?_) | (with_reducible refine x_block_here ?_) | (refine x_block_past rfl ?_) | (refine c_yes rfl (by omega) ?_) | (refine c_no rfl (by omega) ?_) | (refine c_no rfl (fun h => h rfl) ?_) | (refine r_cond_false rfl ?_) | (refine r_cond_true rfl ?_) | (refine r_cond_dec rfl (fun _ => ?_) (fun _ => ?_)) | (refine r_cond_true rfl ?_) | (refine r_cond_false rfl ?_) | (refine c_not rfl (fun _ => ?_) (fun _ => ?_)) | (refine r_off rfl rfl rfl ?_) | (refine q_guard rfl rfl (fun _ => ?_) (fun _ => ?_)) | (refine q_guardn rfl rfl (fun _ => ?_) (fun _ => ?_)))
  all_goals exact r_fin hT rfl _ rfl rfl rfl trivial rfl ⟨by simp_all [kok_iff] <;> omega, rfl⟩
end Go.Proofs.YtkamfnmbidnhdaaDoor
