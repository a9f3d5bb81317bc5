/- Rows of counts and of labels. Plain. -/
import Derived.Test.YtkamfnmbidnhdaaDoorSqAL
import Derived.Test.YtkamfnmbidnhdaaDoorSqAI
import Derived.Laws.StructEq
import Derived.WideKeyEntry
set_option linter.unusedVariables false
set_option linter.unusedSimpArgs false
set_option linter.unusedSectionVars false
namespace Go.Sy
def ledV (n : Nat) (rs : List Nat) : List Value := (List.range n).map fun a => .int .i64 ((rs.count a : Nat) : Int)
theorem ledV_len (n : Nat) (rs : List Nat) : (ledV n rs).length = n := by simp [ledV]
theorem ledV_get {n a : Nat} (rs : List Nat) (h : a < n) : (ledV n rs)[a]? = some (.int .i64 ((rs.count a : Nat) : Int)) := by simp [ledV, h]
theorem ledV_set {n a : Nat} (rs : List Nat) (h : a < n) : setL (ledV n rs) a [.int .i64 (((rs.count a : Nat) : Int) + 1)] = ledV n (rs ++ [a]) := by
  apply List.ext_getElem?
  intro j
  rw [setL_get _ _ _ (by simp [ledV_len]; omega)]
  by_cases hj : j < n
  · rw [ledV_get _ hj, ledV_get _ hj]
    by_cases e : j = a
    · subst e
      rw [if_pos (by simp), List.count_append, List.count_singleton_self]
      simp
    · rw [if_neg (by simp; omega), List.count_append, List.count_singleton]
      have : (a == j) = false := by simp; omega
      simp [this]
  · have h1 : (ledV n (rs ++ [a]))[j]? = none := by simp [ledV]; omega
    have h2 : (ledV n rs)[j]? = none := by simp [ledV]; omega
    rw [h1, h2, if_neg (by simp; omega)]
def labV (n : Nat) (L : List Nat) : List Value := (List.range n).map fun a => .int .i64 (if a ∈ L then ((L.idxOf a + 1 : Nat) : Int) else 0)
theorem labV_len (n : Nat) (L : List Nat) : (labV n L).length = n := by simp [labV]
theorem labV_get {n a : Nat} (L : List Nat) (h : a < n) : (labV n L)[a]? = some (.int .i64 (if a ∈ L then ((L.idxOf a + 1 : Nat) : Int) else 0)) := by simp [labV, h]
theorem labV_set {n a : Nat} {L : List Nat} (h : a < n) (hn : a ∉ L) : setL (labV n L) a [.int .i64 ((L.length + 1 : Nat) : Int)] = labV n (L ++ [a]) := by
  apply List.ext_getElem?
  intro j
  rw [setL_get _ _ _ (by simp [labV_len]; omega)]
  by_cases hj : j < n
  · rw [labV_get _ hj, labV_get _ hj]
    by_cases e : j = a
    · subst e
      rw [if_pos (by simp), if_pos (by simp), List.idxOf_append, if_neg hn]
      simp
    · rw [if_neg (by simp; omega)]
      have : j ∈ L ++ [a] ↔ j ∈ L := by simp [e]
      simp only [this]
      split
      · rename_i hm; rw [List.idxOf_append, if_pos hm]
      · rfl
  · have h1 : (labV n (L ++ [a]))[j]? = none := by simp [labV]; omega
    have h2 : (labV n L)[j]? = none := by simp [labV]; omega
    rw [h1, h2, if_neg (by simp; omega)]
theorem ledV_zero (n : Nat) : ledV n [] = reps n [Value.int .i64 0] := by
  unfold ledV
  induction n with
  | zero => rfl
  | succ n ih =>
    have : ∀ m, reps m [Value.int .i64 0] = List.replicate m (Value.int .i64 0) := fun m => by
      induction m with
      | zero => rfl
      | succ m ih => rw [reps, ih, List.replicate_succ]; rfl
    rw [this]
    apply List.ext_getElem (by simp)
    intro i h1 h2
    simp
theorem labV_zero (n : Nat) : labV n [] = reps n [Value.int .i64 0] := by
  rw [← ledV_zero]; unfold labV ledV; simp
variable {ts : List (List Pr)}
/-- The members of what is led to, for a row. -/
theorem rfs_mem (hA : AllIn ts) {f : Nat} : ∀ (l : List Pr) (o q : List Nat), (∀ p ∈ l, In ts.length p.val) → Nm ts.length o → ts.length - o.length < f → (∀ a, a ∈ o ↔ a ∈ q) → (∀ a, a ∈ goes ts f o l ↔ a ∈ rfs ts f q l)
  | [], o, q, _, _, _, h => h
  | p :: r, o, q, hl, hN, hf, h => by
    rw [goes_cons, rfs_cons]
    have h1 := (rf_perm hA f o q p.val hN (hl p (.head _)) h hf).2
    have h2 := (go_pre ts f o p.val).length_le
    exact rfs_mem hA r _ _ (fun x hx => hl x (.tail _ hx)) (go_nm hA f o p.val hN (hl p (.head _))) (by omega) h1
theorem rfs_app (f : Nat) (q : List Nat) (a b : List Pr) : rfs ts f q (a ++ b) = rfs ts f (rfs ts f q a) b := by unfold rfs; rw [List.foldl_append]
theorem rfs_next {f : Nat} {q : List Nat} {t : List Pr} {j : Nat} {p : Pr} (h : t[j]? = some p) : rfs ts f q (t.take (j + 1)) = rf ts f (rfs ts f q (t.take j)) p.val := by
  rw [take_snoc h, rfs_app]; rfl
theorem rfs_le (f : Nat) (q : List Nat) (t : List Pr) (j : Nat) : rfs ts f q (t.take j) <+: rfs ts f q t := by
  conv => rhs; rw [← List.take_append_drop j t, rfs_app]
  exact rfs_pre f _ _
section
variable {m : Nat → Bool} {pl : V → List UInt8} {dc : Nat → List UInt8}
def TS.Le (s r : TS) : Prop := s.L.length ≤ r.L.length ∧ s.o.length ≤ r.o.length
theorem TS.Le.trans {a b c : TS} (h : a.Le b) (g : b.Le c) : a.Le c := ⟨Nat.le_trans h.1 g.1, Nat.le_trans h.2 g.2⟩
theorem txp_mono {g : TS → V → Option TS} (hg : ∀ s v r, g s v = some r → s.Le r) : ∀ (l : List Pr) (b : Bool) (s r : TS), txp pl g b l s = some r → s.Le r
  | [], b, s, r, h => by
    rw [txp] at h
    obtain rfl := Option.some.inj h
    exact ⟨Nat.le_refl _, Nat.le_refl _⟩
  | p :: l, b, s, r, h => by
    rw [txp] at h
    split at h
    · cases h
    · rename_i s1 h1
      have h2 := hg _ _ _ h1
      have h3 := txp_mono hg l true s1 r h
      refine TS.Le.trans (b := s1) ⟨h2.1, ?_⟩ h3
      have := h2.2
      simp only [List.length_append] at this; omega
theorem tx0_le (s : TS) (a : Nat) : s.Le (tx0 m dc s a) := by
  unfold tx0 TS.Le
  split <;> simp <;> omega
theorem tx_mono : ∀ (f : Nat) (s : TS) (v : V) (r : TS), tx ts m pl dc f s v = some r → s.Le r
  | 0, s, v, r, h => by cases h
  | f + 1, s, v, r, h => by
    rw [tx] at h
    split at h
    · split at h
      · obtain rfl := Option.some.inj h
        exact ⟨Nat.le_refl _, by simp⟩
      · split at h
        · cases h
        · rename_i s' h'
          obtain rfl := Option.some.inj h
          have := (tx0_le (m := m) (dc := dc) s v.a.toNat).trans (txp_mono (tx_mono f) _ _ _ _ h')
          exact ⟨this.1, by have := this.2; simp; omega⟩
    · obtain rfl := Option.some.inj h
      exact ⟨Nat.le_refl _, by simp⟩
end
end Go.Sy
namespace Go.Proofs.YtkamfnmbidnhdaaDoor
open Go.Sy
theorem text_eq {a b : ByteArray} : a.toList = b.toList ↔ a = b := by
  constructor
  · intro h
    rw [ByteArray.toList_eq, ByteArray.toList_eq] at h
    obtain ⟨⟨x⟩⟩ := a
    obtain ⟨⟨y⟩⟩ := b
    simp at h; rw [h]
  · intro h; rw [h]
instance : DecidableEq V := fun x y => decidable_of_iff (x.k = y.k ∧ x.n = y.n ∧ x.s.toList = y.s.toList ∧ x.a = y.a) (by
  cases x; cases y; simp [text_eq])
theorem eq48 (d : Nat) (w : World) (x y : V) : (Op.equalIn (d + 2) 48 (.agg x.c.toArray) (.agg y.c.toArray)).run Tryd.prog w = .ok (decide (x = y)) w := by
  rw [run_equalIn_struct w (d + 1) 48 _ _ (by rw [Program.fieldsOf, Tryd.underlying48]) (by kernel_rfl)]
  have e : decide (x = y) = (x.k == y.k && (x.n == y.n && (x.s.toList == y.s.toList && x.a == y.a))) := by
    rw [Bool.eq_iff_iff]
    cases x; cases y
    simp [V.mk.injEq, text_eq]
  rw [e]
  simp only [Program.fieldsOf, Tryd.underlying48, V.c, Op.eqFields]
  go_simp
  cases h1 : (x.k == y.k) <;> cases h2 : (x.n == y.n) <;> cases h3 : (x.s.toList == y.s.toList) <;> cases h4 : (x.a == y.a) <;> simp_all
end Go.Proofs.YtkamfnmbidnhdaaDoor
namespace Go.Proofs.YtkamfnmbidnhdaaDoor
open Go.Sy
set_option maxRecDepth 100000
set_option maxHeartbeats 4000000
set_option linter.unusedVariables false
/-- A value that a graph of n tables may hold. -/
def VOk (v : V) (n : Nat) : Prop :=
  (v.k = 0 ∧ v.n = 0 ∧ v.s.toList = [] ∧ v.a = 0) ∨ (v.k = 1 ∧ (v.n = 0 ∨ v.n = 1) ∧ v.s.toList = [] ∧ v.a = 0) ∨ (v.k = 2 ∧ v.s.toList = [] ∧ v.a = 0) ∨
    (v.k = 3 ∧ v.n = 0 ∧ v.a = 0 ∧ v.s.size ≤ 500) ∨ (v.k = 4 ∧ v.n = 0 ∧ v.s.toList = [] ∧ 0 ≤ v.a ∧ v.a < n)
instance (v : V) (n : Nat) : Decidable (VOk v n) := by unfold VOk; infer_instance
def KOk (v : V) : Prop := (v.k = 1 ∨ v.k = 2 ∨ v.k = 3) ∧ VOk v 0
instance (v : V) : Decidable (KOk v) := by unfold KOk; infer_instance
theorem nil_list : (ByteArray.mk ⟨[]⟩).toList = [] := by decide +kernel
theorem l2val (v g : V) (A : Option Addr) (n c : Nat) (h : Hp) : Pur Tryd.prog 101 [.ag (gsv g A n c), .ag v.sv] h (fun y : Bool => .v (.bool y)) (decide (VOk v n)) := by
  refine enterS Tryd.func101 rfl (n := 91) rfl rfl (fun k N => ?_)
  repeat' (first | (refine r_pure hT rfl rfl rfl rfl ?_) | (refine r_new hT rfl rfl rfl rfl ?_) | (refine r_write hT rfl rfl rfl ?_) | (refine r_nil ?_) | (refine q_nil ?_) | (refine r_arith rfl rfl rfl rfl rfl rfl rfl (by omega) ?_) | (with_reducible refine r_seq ?_) | (with_reducible refine x_then ?_) | (with_reducible refine r_region ?_) | (refine r_draw hM (by kernel_rfl) ?_) | (with_reducible refine r_skip ?_) | (with_reducible refine r_ret ?_) | (with_reducible refine x_then_ret ?_) | (with_reducible refine r_block ?_) | (with_reducible refine x_block ?_) | (with_reducible refine x_block_ret ?_) | (with_reducible refine r_exit ?_) | (with_reducible refine x_then_exit ?_) | (with_reducible refine x_block_here ?_) | (refine x_block_past rfl ?_) | (refine c_yes rfl (by omega) ?_) | (refine c_no rfl (by omega) ?_) | (refine c_no rfl (fun h => h rfl) ?_) | (refine r_cond_false rfl ?_) | (refine r_cond_true rfl ?_) | (refine r_cond_dec rfl (fun _ => ?_) (fun _ => ?_)) | (refine r_cond_true rfl ?_) | (refine r_cond_false rfl ?_) | (refine c_not rfl (fun _ => ?_) (fun _ => ?_)) | (refine r_off rfl rfl rfl ?_) | (refine q_guard rfl rfl (fun _ => ?_) (fun _ => ?_)) | (refine q_guardn rfl rfl (fun _ => ?_) (fun _ => ?_)))
  all_goals exact r_fin hT rfl _ rfl rfl rfl trivial rfl ⟨by (try simp only [nil_list] at *); simp_all [VOk] <;> omega, rfl⟩
theorem l2key (v : V) (h : Hp) : Pur Tryd.prog 102 [.ag v.sv] h (fun y : Bool => .v (.bool y)) (decide (KOk v)) := by
  refine enterS Tryd.func102 rfl (n := 21) rfl rfl (fun k N => ?_)
  repeat' (first | (refine r_pure hT rfl rfl rfl rfl ?_) | (refine r_new hT rfl rfl rfl rfl ?_) | (refine r_write hT rfl rfl rfl ?_) | (refine r_nil ?_) | (refine q_nil ?_) | (refine r_build hT rfl rfl rfl rfl rfl rfl rfl rfl rfl ?_) | (refine p_call (l2val v ⟨0, 0, ⟨⟨[]⟩⟩, 0⟩ none 0 0 _) rfl rfl rfl rfl rfl (hC _ rfl) rfl rfl rfl ?_) | (refine r_arith rfl rfl rfl rfl rfl rfl rfl (by omega) ?_) | (with_reducible refine r_seq ?_) | (with_reducible refine x_then ?_) | (with_reducible refine r_region ?_) | (refine r_draw hM (by kernel_rfl) ?_) | (with_reducible refine r_skip ?_) | (with_reducible refine r_ret ?_) | (with_reducible refine x_then_ret ?_) | (with_reducible refine r_block ?_) | (with_reducible refine x_block ?_) | (with_reducible refine x_block_ret ?_) | (with_reducible refine r_exit ?_) | (with_reducible refine x_then_exit ?_) | (with_reducible refine x_block_here ?_) | (refine x_block_past rfl ?_) | (refine c_yes rfl (by omega) ?_) | (refine c_no rfl (by omega) ?_) | (refine c_no rfl (fun h => h rfl) ?_) | (refine r_cond_false rfl ?_) | (refine r_cond_true rfl ?_) | (refine r_cond_dec rfl (fun _ => ?_) (fun _ => ?_)) | (refine r_cond_true rfl ?_) | (refine r_cond_false rfl ?_) | (refine c_not rfl (fun _ => ?_) (fun _ => ?_)) | (refine r_off rfl rfl rfl ?_) | (refine q_guard rfl rfl (fun _ => ?_) (fun _ => ?_)) | (refine q_guardn rfl rfl (fun _ => ?_) (fun _ => ?_)))
  all_goals exact r_fin hT rfl _ rfl rfl rfl trivial rfl ⟨by simp_all [KOk], rfl⟩
end Go.Proofs.YtkamfnmbidnhdaaDoor
namespace Go.Proofs.YtkamfnmbidnhdaaDoor
open Go.Sy Go.RowKit Go.ChangeMaps Go.MapKept
set_option maxRecDepth 100000
set_option maxHeartbeats 4000000
set_option linter.unusedVariables false
def iKey (x : Int) : Value := .int .i64 x
theorem i_now (x : Int) : ∀ (l : List Int) (es : List MapEntry) (i : Nat), es.map (·.key) = l.map iKey →
    Instr.findNow (.int .i64) (iKey x) es i = some (match l.findIdx? (fun y => decide (x = y)) with | some j => (es[j]?).map (fun e => (i + j, e.val)) | none => none)
  | [], es, i, h => by
    have : es = [] := by simpa using h
    subst this; rfl
  | y :: l, [], i, h => by simp at h
  | y :: l, e :: es, i, h => by
    simp only [List.map_cons, List.cons.injEq] at h
    obtain ⟨h1, h2⟩ := h
    have ih := i_now x l es (i + 1) h2
    by_cases hx : x = y
    · simp [Instr.findNow, h1, iKey, Instr.sameNow, List.findIdx?_cons, hx]
    · simp only [Instr.findNow, h1, Instr.sameNow, iKey, if_true, beq_eq_false_iff_ne.2 hx, List.findIdx?_cons, decide_eq_false hx]
      simp only [iKey] at ih
      rw [ih]
      cases l.findIdx? (fun y => decide (x = y)) with
      | none => rfl
      | some j => simp [Nat.add_assoc, Nat.add_comm 1 j]
theorem iKey_check (em : Bool) (m : Nat) (w : World) (x : Int) : (Instr.checkKey em (m + 1) 3 (iKey x)).run Tryd.prog w = .ok () w := by
  simp [Instr.checkKey, iKey, run_underlying Tryd.underlying3]
theorem iKeyOps : KeyOps Tryd.prog 3 iKey where
  check w em x := iKey_check em 9999 w x
  find w x l es h := by
    have := i_now x l es 0 h
    simp [Instr.findKey, run_underlying Tryd.underlying3, this]
    cases l.findIdx? (fun y => decide (x = y)) <;> rfl
  stays w x := by simp [Instr.keyThatStays, Instr.sameBits, iKey]
def vKey (v : V) : Value := .agg v.c.toArray
theorem vKey_eq (w : World) (x y : V) : (Op.equal 48 (vKey x) (vKey y)).run Tryd.prog w = .ok (decide (x = y)) w := eq48 9998 w x y
theorem v_asking (w : World) (x : V) : ∀ (l : List V) (es : List MapEntry) (i : Nat), es.map (·.key) = l.map vKey →
    (Instr.findAsking 48 (vKey x) es i).run Tryd.prog w = .ok (match l.findIdx? (fun y => decide (x = y)) with | some j => (es[j]?).map (fun e => (i + j, e.val)) | none => none) w
  | [], es, i, h => by
    have : es = [] := by simpa using h
    subst this
    simp [Instr.findAsking]
  | y :: l, [], i, h => by simp at h
  | y :: l, e :: es, i, h => by
    simp only [List.map_cons, List.cons.injEq] at h
    obtain ⟨h1, h2⟩ := h
    have ih := v_asking w x l es (i + 1) h2
    by_cases hx : x = y
    · simp [Instr.findAsking, h1, vKey_eq, Result.andThen, List.findIdx?_cons, hx]
    · simp only [Instr.findAsking, h1, Sem.run_bind, vKey_eq, Result.andThen, decide_eq_false hx, List.findIdx?_cons, ih, Bool.false_eq_true, if_false]
      cases l.findIdx? (fun y => decide (x = y)) with
      | none => rfl
      | some j => simp [Nat.add_assoc, Nat.add_comm 1 j]
theorem text_self (s : ByteArray) : (s == s) = true := by
  cases s with | mk d =>
  show (d == d) = true
  simp
theorem vKey_check (em : Bool) (n : Nat) (w : World) (x : V) : (Instr.checkKey em (n + 2) 48 (vKey x)).run Tryd.prog w = .ok () w := by
  have hu := Tryd.underlying48
  have hi : ∀ (m : Nat) (a : Int), (Instr.checkKey em (m + 1) 3 (.int .i64 a)).run Tryd.prog w = .ok () w := fun m a => by simp [Instr.checkKey, run_underlying Tryd.underlying3]
  have hs : ∀ (m : Nat) (a : ByteArray), (Instr.checkKey em (m + 1) 9 (.string a)).run Tryd.prog w = .ok () w := fun m a => by simp [Instr.checkKey, run_underlying Tryd.underlying9]
  have hj : ∀ (m : Nat) (a : Int), (Instr.checkKey em (m + 1) 2 (.int .i64 a)).run Tryd.prog w = .ok () w := fun m a => by simp [Instr.checkKey, run_underlying Tryd.underlying2]
  rw [Instr.checkKey, Sem.run_bind, run_underlying hu]
  simp only [vKey, V.c, Result.andThen]
  go_simp
theorem vKeyOps : KeyOps Tryd.prog 48 vKey where
  check w em x := vKey_check em 9998 w x
  find w x l es h := by
    have hu := Tryd.underlying48
    refine (run_findKey_eq (P := Tryd.prog) (k := 48) (w := w) (by rw [hu]) (vKey x) es).trans ?_
    rw [v_asking w x l es 0 h]
    cases l.findIdx? (fun y => decide (x = y)) <;> simp
  stays w x := by
    simp [Instr.keyThatStays, Instr.sameBits, vKey, V.c, text_self]
def lowBit (x : Int) : Int := if (BitVec.ofInt 64 x).toNat % 2 = 1 then 1 else 0
theorem lowBit_run (x : Int) : Op.intBits .and .i64 x 1 = pure (.int .i64 (lowBit x)) := by
  unfold Op.intBits lowBit
  simp only
  have h : (BitVec.ofInt IntKind.i64.bits x &&& BitVec.ofInt IntKind.i64.bits 1).toNat = (BitVec.ofInt 64 x).toNat % 2 := by
    show (BitVec.ofInt 64 x &&& 1#64).toNat = _
    rw [BitVec.toNat_and]
    exact Nat.and_one_is_mod _
  rw [h]
  have h2 : (BitVec.ofInt 64 x).toNat % 2 < 2 := Nat.mod_lt _ (by omega)
  split
  · rename_i h3; rw [h3]; rfl
  · rename_i h3
    have : (BitVec.ofInt 64 x).toNat % 2 = 0 := by omega
    rw [this]; rfl
theorem lowBit_iff (x : Int) : lowBit x = x ↔ x = 0 ∨ x = 1 := by
  constructor
  · intro h
    unfold lowBit at h
    split at h <;> omega
  · rintro (rfl | rfl) <;> decide
theorem eq29f (w : World) (k n : Int) (s : ByteArray) (a : Int) (y : V) : (Op.equalIn Op.maxDepth 48 (.agg [.int .i64 k, .int .i64 n, .string s, .int .i64 a].toArray) (.agg y.c.toArray)).run Tryd.prog w = .ok (decide ((⟨k, n, s, a⟩ : V) = y)) w := eq48 9998 w ⟨k, n, s, a⟩ y
theorem v_eq {k n : Int} {s : ByteArray} {a : Int} {v : V} : ((⟨k, n, s, a⟩ : V) = v) ↔ v.k = k ∧ v.n = n ∧ v.s.toList = s.toList ∧ v.a = a := by
  cases v
  simp only [V.mk.injEq, text_eq]
  constructor <;> (rintro ⟨rfl, rfl, rfl, rfl⟩; exact ⟨rfl, rfl, rfl, rfl⟩)
theorem size_nil (s : ByteArray) (h : s.toList = []) : s.size = 0 := by
  rw [ByteArray.toList_eq] at h
  obtain ⟨⟨x⟩⟩ := s
  simp at h; subst h; rfl
theorem lowBit_iff' {x : Int} : x = lowBit x ↔ x = 0 ∨ x = 1 := eq_comm.trans (lowBit_iff x)
theorem valOk (v : V) (n : Nat) (h : Hp) : Pur Tryd.prog 106 [.ag v.sv, .v (.int .i64 n)] h (fun y : Bool => .v (.bool y)) (decide (VOk v n)) := by
  refine enterS Tryd.func106 rfl (n := 57) rfl rfl (fun k N => ?_)
  repeat' (first | (refine r_pure hT rfl rfl rfl rfl ?_) | (refine r_new hT rfl rfl rfl rfl ?_) | (refine r_write hT rfl rfl rfl ?_) | (refine r_nil ?_) | (refine q_nil ?_) | (refine r_build hT rfl rfl rfl rfl rfl rfl rfl rfl rfl ?_) | (refine r_bits rfl rfl rfl rfl rfl rfl (lowBit_run _) (.inl rfl) ?_) | (refine r_eqs (fun w => eq29f w _ _ _ _ v) (by kernel_rfl) (.inl rfl) rfl rfl rfl rfl rfl rfl rfl rfl ?_) | (refine r_arith rfl rfl rfl rfl rfl rfl rfl (by omega) ?_) | (with_reducible refine r_seq ?_) | (with_reducible refine x_then ?_) | (with_reducible refine r_region ?_) | (refine r_draw hM (by kernel_rfl) ?_) | (with_reducible refine r_skip ?_) | (with_reducible refine r_ret ?_) | (with_reducible refine x_then_ret ?_) | (with_reducible refine r_block ?_) | (with_reducible refine x_block ?_) | (with_reducible refine x_block_ret ?_) | (with_reducible refine r_exit ?_) | (with_reducible refine x_then_exit ?_) | (with_reducible refine x_block_here ?_) | (refine x_block_past rfl ?_) | (refine c_yes rfl (by omega) ?_) | (refine c_no rfl (by omega) ?_) | (refine c_no rfl (fun h => h rfl) ?_) | (refine r_cond_false rfl ?_) | (refine r_cond_true rfl ?_) | (refine r_cond_dec rfl (fun _ => ?_) (fun _ => ?_)) | (refine r_cond_true rfl ?_) | (refine r_cond_false rfl ?_) | (refine c_not rfl (fun _ => ?_) (fun _ => ?_)) | (refine r_off rfl rfl rfl ?_) | (refine q_guard rfl rfl (fun _ => ?_) (fun _ => ?_)) | (refine q_guardn rfl rfl (fun _ => ?_) (fun _ => ?_)))
  all_goals exact r_fin hT rfl _ rfl rfl rfl trivial rfl ⟨by (have hz := size_nil v.s); (try simp only [v_eq, nil_list, lowBit_iff'] at *); simp_all [VOk] <;> omega, rfl⟩
theorem kok_iff (v : V) : KOk v ↔ (1 ≤ v.k ∧ v.k ≤ 3) ∧ VOk v 0 := by
  unfold KOk
  have : (v.k = 1 ∨ v.k = 2 ∨ v.k = 3) ↔ (1 ≤ v.k ∧ v.k ≤ 3) := by omega
  rw [this]
theorem keyOk (v : V) (h : Hp) : Pur Tryd.prog 107 [.ag v.sv] h (fun y : Bool => .v (.bool y)) (decide (KOk v)) := by
  refine enterS Tryd.func107 rfl (n := 15) rfl rfl (fun k N => ?_)
  repeat' (first | (refine r_pure hT rfl rfl rfl rfl ?_) | (refine r_new hT rfl rfl rfl rfl ?_) | (refine r_write hT rfl rfl rfl ?_) | (refine r_nil ?_) | (refine q_nil ?_) | (refine p_call (valOk v 0 _) rfl rfl rfl rfl rfl (hC _ rfl) rfl rfl rfl ?_) | (refine r_arith rfl rfl rfl rfl rfl rfl rfl (by omega) ?_) | (with_reducible refine r_seq ?_) | (with_reducible refine x_then ?_) | (with_reducible refine r_region ?_) | (refine r_draw hM (by kernel_rfl) ?_) | (with_reducible refine r_skip ?_) | (with_reducible refine r_ret ?_) | (with_reducible refine x_then_ret ?_) | (with_reducible refine r_block ?_) | (with_reducible refine x_block ?_) | (with_reducible refine x_block_ret ?_) | (with_reducible refine r_exit ?_) | (with_reducible refine x_then_exit ?_) | (with_reducible refine x_block_here ?_) | (refine x_block_past rfl ?_) | (refine c_yes rfl (by omega) ?_) | (refine c_no rfl (by omega) ?_) | (refine c_no rfl (fun h => h rfl) ?_) | (refine r_cond_false rfl ?_) | (refine r_cond_true rfl ?_) | (refine r_cond_dec rfl (fun _ => ?_) (fun _ => ?_)) | (refine r_cond_true rfl ?_) | (refine r_cond_false rfl ?_) | (refine c_not rfl (fun _ => ?_) (fun _ => ?_)) | (refine r_off rfl rfl rfl ?_) | (refine q_guard rfl rfl (fun _ => ?_) (fun _ => ?_)) | (refine q_guardn rfl rfl (fun _ => ?_) (fun _ => ?_)))
  all_goals exact r_fin hT rfl _ rfl rfl rfl trivial rfl ⟨by simp_all [kok_iff] <;> omega, rfl⟩
end Go.Proofs.YtkamfnmbidnhdaaDoor
namespace Go.Proofs.YtkamfnmbidnhdaaDoor
open Go.Sy
set_option maxRecDepth 100000
set_option maxHeartbeats 4000000
set_option linter.unusedVariables false
/-- A pair, a table, a graph that is well made. -/
def POk (p : Pr) (n : Nat) : Prop := KOk p.key ∧ VOk p.val n ∧ p.val.k ≠ 0
def TOk (t : List Pr) (n : Nat) : Prop := t.length ≤ 100 ∧ (∀ p ∈ t, POk p n) ∧ (t.map (·.key)).Nodup
def GOk (v : V) (ts : List (List Pr)) : Prop := ts.length ≤ 200 ∧ VOk v ts.length ∧ ∀ t ∈ ts, TOk t ts.length
instance (p : Pr) (n : Nat) : Decidable (POk p n) := by unfold POk; infer_instance
instance (t : List Pr) (n : Nat) : Decidable (TOk t n) := by unfold TOk; infer_instance
instance (v : V) (ts : List (List Pr)) : Decidable (GOk v ts) := by unfold GOk; infer_instance
theorem gok_not {b : Bool} {p : Prop} [Decidable p] (hb : b = false) (h : ¬ p) : b = decide p := by rw [hb, decide_eq_false h]
theorem keys_take {t : List Pr} {i : Nat} {p : Pr} (h : t[i]? = some p) : (t.take (i + 1)).map (·.key) = (t.take i).map (·.key) ++ [p.key] := by rw [take_snoc h]; simp
theorem nodup_take {t : List Pr} (h : (t.map (·.key)).Nodup) (i : Nat) : ((t.take i).map (·.key)).Nodup := by
  rw [List.map_take]; exact h.sublist (List.take_sublist _ _)
theorem nodup_next {t : List Pr} {i : Nat} {p : Pr} (h : t[i]? = some p) : ((t.take (i + 1)).map (·.key)).Nodup ↔ ((t.take i).map (·.key)).Nodup ∧ p.key ∉ (t.take i).map (·.key) := by
  rw [keys_take h, List.nodup_append]
  constructor
  · rintro ⟨h1, _, h3⟩; exact ⟨h1, fun hm => h3 _ hm _ (by simp) rfl⟩
  · rintro ⟨h1, h2⟩; exact ⟨h1, by simp, fun a ha b hb e => h2 (by rw [List.mem_singleton] at hb; rw [← hb, ← e]; exact ha)⟩
theorem key_at {t : List Pr} {i j : Nat} {p q : Pr} (hj : t[j]? = some q) (hji : j < i) (he : q.key = p.key) : p.key ∈ (t.take i).map (·.key) := by
  rw [← he]
  refine List.mem_map.2 ⟨q, ?_, rfl⟩
  refine List.mem_of_getElem? (i := j) ?_
  rw [List.getElem?_take, if_pos hji]; exact hj
set_option linter.unusedSimpArgs false
theorem tok_take {t : List Pr} {n i : Nat} {p : Pr} (h : t[i]? = some p) (h1 : ∀ p ∈ t.take i, POk p n) (h2 : POk p n) : ∀ p ∈ t.take (i + 1), POk p n := by
  rw [take_snoc h]
  intro q hq
  rcases List.mem_append.1 hq with hq | hq
  · exact h1 q hq
  · rw [List.mem_singleton] at hq; rw [hq]; exact h2
theorem gok_no_t {v : V} {ts : List (List Pr)} {t : List Pr} (hm : t ∈ ts) (h : ¬ TOk t ts.length) : ¬ GOk v ts := fun g => h (g.2.2 t hm)
theorem tok_no_p {t : List Pr} {n : Nat} {p : Pr} (hm : p ∈ t) (h : ¬ POk p n) : ¬ TOk t n := fun g => h (g.2.1 p hm)
theorem tok_no_k {t : List Pr} {n i j : Nat} {p q : Pr} (hi : t[i]? = some p) (hj : t[j]? = some q) (hji : j < i) (he : q.key = p.key) : ¬ TOk t n := fun g =>
  ((nodup_next hi).1 (nodup_take g.2.2 (i + 1))).2 (key_at hj hji he)
theorem specOk (v : V) (ts : List (List Pr)) (A : Option Addr) (n c : Nat) (h : Hp) (hP : Tabs h A n ts) : Pur Tryd.prog 63 [.ag (gsv v A n c)] h (fun y : Bool => .v (.bool y)) (decide (GOk v ts)) := by
  obtain rfl := hP.len
  refine enterS Tryd.func63 rfl (n := 71) rfl rfl (fun k N => ?_)
  repeat' (first | (refine r_pure hT rfl rfl rfl rfl ?_) | (refine r_new hT rfl rfl rfl rfl ?_) | (refine r_write hT rfl rfl rfl ?_) | (refine r_nil ?_) | (refine q_nil ?_) | (refine p_call (l2val v v A ts.length c _) rfl rfl rfl rfl rfl (hC _ rfl) rfl rfl rfl ?_) | (refine r_arith rfl rfl rfl rfl rfl rfl rfl (by omega) ?_) | (with_reducible refine r_seq ?_) | (with_reducible refine x_then ?_) | (with_reducible refine r_region ?_) | (refine r_draw hM (by kernel_rfl) ?_) | (with_reducible refine r_skip ?_) | (with_reducible refine r_ret ?_) | (with_reducible refine x_then_ret ?_) | (with_reducible refine r_block ?_) | (with_reducible refine x_block ?_) | (with_reducible refine x_block_ret ?_) | (with_reducible refine r_exit ?_) | (with_reducible refine x_then_exit ?_) | (with_reducible refine x_block_here ?_) | (refine x_block_past rfl ?_) | (refine c_yes rfl (by omega) ?_) | (refine c_no rfl (by omega) ?_) | (refine c_no rfl (fun h => h rfl) ?_) | (refine r_cond_false rfl ?_) | (refine r_cond_true rfl ?_) | (refine r_cond_dec rfl (fun _ => ?_) (fun _ => ?_)) | (refine r_cond_true rfl ?_) | (refine r_cond_false rfl ?_) | (refine c_not rfl (fun _ => ?_) (fun _ => ?_)) | (refine r_off rfl rfl rfl ?_) | (refine q_guard rfl rfl (fun _ => ?_) (fun _ => ?_)) | (refine q_guardn rfl rfl (fun _ => ?_) (fun _ => ?_)))
  · exact r_fin hT rfl _ rfl rfl rfl trivial rfl ⟨gok_not rfl (fun g => by have := g.1; omega), rfl⟩
  · rename_i h1 h2
    exact r_fin hT rfl _ rfl rfl rfl trivial rfl ⟨gok_not rfl (fun g => h2 g.2.1), rfl⟩
  rename_i h1 h2
  refine r_loop (γ := Nat) (fun i => i ≤ ts.length ∧ ∀ t ∈ ts.take i, TOk t ts.length) (fun i => [(1, .p 1 0), (2, .v (.bool false)), (20, .v (.slice A ts.length c)), (21, .v (.int .i64 ts.length)), (22, .v (.int .i64 i))])
    (fun _ => [(1, ⟨none, gsv v A ts.length c, 51⟩)]) (fun _ => h) (fun i => ts.length - i) 0 ⟨by omega, by simp⟩ (into rfl ⟨rfl, rfl, rfl, rfl, rfl, trivial⟩ ⟨rfl, trivial⟩ rfl rfl) ?_
  rintro i ⟨hi, hg⟩
  by_cases hlt : i < ts.length
  · obtain ⟨b, off, A1, n1, c1, t, rfl, hd, hix, hm, hat, hc1, hp1⟩ := hP.elem hlt
    obtain rfl := hp1.1
    repeat' (first | (refine r_pure hT rfl rfl rfl rfl ?_) | (refine r_new hT rfl rfl rfl rfl ?_) | (refine r_write hT rfl rfl rfl ?_) | (refine r_nil ?_) | (refine q_nil ?_) | (refine r_indexN hT rfl rfl rfl rfl rfl rfl rfl rfl rfl (by omega) ?_) | (refine r_load hT hat rfl rfl rfl rfl rfl (Nat.add_zero _).symm rfl rfl rfl rfl rfl ?_) | (refine r_arith rfl rfl rfl rfl rfl rfl rfl (by omega) ?_) | (with_reducible refine r_seq ?_) | (with_reducible refine x_then ?_) | (with_reducible refine r_region ?_) | (refine r_draw hM (by kernel_rfl) ?_) | (with_reducible refine r_skip ?_) | (with_reducible refine r_ret ?_) | (with_reducible refine x_then_ret ?_) | (with_reducible refine r_block ?_) | (with_reducible refine x_block ?_) | (with_reducible refine x_block_ret ?_) | (with_reducible refine r_exit ?_) | (with_reducible refine x_then_exit ?_) | (with_reducible refine x_block_here ?_) | (refine x_block_past rfl ?_) | (refine c_yes rfl (by omega) ?_) | (refine c_no rfl (by omega) ?_) | (refine c_no rfl (fun h => h rfl) ?_) | (refine r_cond_false rfl ?_) | (refine r_cond_true rfl ?_) | (refine r_cond_dec rfl (fun _ => ?_) (fun _ => ?_)) | (refine r_cond_true rfl ?_) | (refine r_cond_false rfl ?_) | (refine c_not rfl (fun _ => ?_) (fun _ => ?_)) | (refine r_off rfl rfl rfl ?_) | (refine q_guard rfl rfl (fun _ => ?_) (fun _ => ?_)) | (refine q_guardn rfl rfl (fun _ => ?_) (fun _ => ?_)))
    · exact r_fin hT rfl _ rfl rfl rfl trivial rfl ⟨gok_not rfl (gok_no_t hm fun g => by have := g.1; omega), rfl⟩
    refine r_loop (γ := Nat) (fun j => j ≤ t.length ∧ (∀ p ∈ t.take j, POk p ts.length) ∧ ((t.take j).map (·.key)).Nodup) (fun j => [(1, .p 1 0), (2, .v (.bool false)), (4, .p 4 0), (20, .v (.slice (some ⟨b, off, none⟩) ts.length c)), (21, .v (.int .i64 ts.length)), (22, .v (.int .i64 i)),
        (31, .v (.slice A1 t.length c1)), (32, .v (.int .i64 t.length)), (33, .v (.int .i64 j))])
      (fun _ => [(4, ⟨none, [.v (.slice A1 t.length c1)], 59⟩), (1, ⟨none, gsv v (some ⟨b, off, none⟩) ts.length c, 51⟩)]) (fun _ => h) (fun j => t.length - j) 0 ⟨by omega, by simp, by simp⟩ (into rfl ⟨rfl, rfl, rfl, rfl, rfl, rfl, rfl, rfl, rfl, trivial⟩ ⟨rfl, rfl, trivial⟩ rfl rfl) ?_
    rintro j ⟨hj, hg2, hnd⟩
    by_cases hlt2 : j < t.length
    · obtain ⟨b2, off2, p, rfl, hd2, hix2, hm2, hat2⟩ := hp1.elem Pr.c_len hlt2
      repeat' (first | (refine r_pure hT rfl rfl rfl rfl ?_) | (refine r_new hT rfl rfl rfl rfl ?_) | (refine r_write hT rfl rfl rfl ?_) | (refine r_nil ?_) | (refine q_nil ?_) | (refine r_indexN hT rfl rfl rfl rfl rfl rfl rfl rfl rfl (by omega) ?_) | (refine r_load hT hat2 rfl rfl rfl rfl rfl (Nat.add_zero _).symm rfl rfl rfl rfl rfl ?_) | (refine p_call (l2key p.key _) rfl rfl rfl rfl rfl (hC _ rfl) rfl rfl rfl ?_) | (refine p_call (l2val p.val v (some ⟨b, off, none⟩) ts.length c _) rfl rfl rfl rfl rfl (hC _ rfl) rfl rfl rfl ?_) | (refine r_arith rfl rfl rfl rfl rfl rfl rfl (by omega) ?_) | (with_reducible refine r_seq ?_) | (with_reducible refine x_then ?_) | (with_reducible refine r_region ?_) | (refine r_draw hM (by kernel_rfl) ?_) | (with_reducible refine r_skip ?_) | (with_reducible refine r_ret ?_) | (with_reducible refine x_then_ret ?_) | (with_reducible refine r_block ?_) | (with_reducible refine x_block ?_) | (with_reducible refine x_block_ret ?_) | (with_reducible refine r_exit ?_) | (with_reducible refine x_then_exit ?_) | (with_reducible refine x_block_here ?_) | (refine x_block_past rfl ?_) | (refine c_yes rfl (by omega) ?_) | (refine c_no rfl (by omega) ?_) | (refine c_no rfl (fun h => h rfl) ?_) | (refine r_cond_false rfl ?_) | (refine r_cond_true rfl ?_) | (refine r_cond_dec rfl (fun _ => ?_) (fun _ => ?_)) | (refine r_cond_true rfl ?_) | (refine r_cond_false rfl ?_) | (refine c_not rfl (fun _ => ?_) (fun _ => ?_)) | (refine r_off rfl rfl rfl ?_) | (refine q_guard rfl rfl (fun _ => ?_) (fun _ => ?_)) | (refine q_guardn rfl rfl (fun _ => ?_) (fun _ => ?_)))
      · rename_i x1 x2; exact r_fin hT rfl _ rfl rfl rfl trivial rfl ⟨gok_not rfl (gok_no_t hm (tok_no_p hm2 fun g => x2 g.1)), rfl⟩
      · rename_i x1 x2 x3; exact r_fin hT rfl _ rfl rfl rfl trivial rfl ⟨gok_not rfl (gok_no_t hm (tok_no_p hm2 fun g => x3 g.2.1)), rfl⟩
      · rename_i x1 x2 x3 x4; exact r_fin hT rfl _ rfl rfl rfl trivial rfl ⟨gok_not rfl (gok_no_t hm (tok_no_p hm2 fun g => g.2.2 x4)), rfl⟩
      rename_i x1 x2 x3 x4
      refine r_loop (γ := Nat) (fun l => l ≤ j ∧ p.key ∉ (t.take l).map (·.key)) (fun l => [(1, .p 1 0), (2, .v (.bool false)), (4, .p 4 0), (5, .v (.int .i64 j)), (6, .p 6 0), (7, .v (.int .i64 l)), (20, .v (.slice (some ⟨b, off, none⟩) ts.length c)), (21, .v (.int .i64 ts.length)), (22, .v (.int .i64 i)),
          (31, .v (.slice (some ⟨b2, off2, none⟩) t.length c1)), (32, .v (.int .i64 t.length)), (33, .v (.int .i64 j))])
        (fun _ => [(6, ⟨none, p.sv, 61⟩), (4, ⟨none, [.v (.slice (some ⟨b2, off2, none⟩) t.length c1)], 59⟩), (1, ⟨none, gsv v (some ⟨b, off, none⟩) ts.length c, 51⟩)]) (fun _ => h) (fun l => j - l) 0 ⟨by omega, by simp⟩
        (into rfl ⟨rfl, rfl, rfl, rfl, rfl, rfl, rfl, rfl, rfl, rfl, rfl, rfl, trivial⟩ ⟨rfl, rfl, rfl, trivial⟩ rfl rfl) ?_
      rintro l ⟨hl, hno⟩
      by_cases hlt3 : l < j
      · obtain ⟨b3, off3, q, e3, hd3, hix3, hm3, hat3⟩ := hp1.elem Pr.c_len (i := l) (by omega)
        have e3' := Option.some.inj e3
        simp only [Addr.mk.injEq] at e3'
        obtain ⟨rfl, rfl, _⟩ := e3'
        repeat' (first | (refine r_pure hT rfl rfl rfl rfl ?_) | (refine r_new hT rfl rfl rfl rfl ?_) | (refine r_write hT rfl rfl rfl ?_) | (refine r_nil ?_) | (refine q_nil ?_) | (refine r_indexN hT rfl rfl rfl rfl rfl rfl rfl rfl rfl (by omega) ?_) | (refine r_load hT hat3 rfl rfl rfl rfl rfl rfl rfl rfl rfl rfl rfl ?_) | (refine r_eqs (fun w => eq29f w q.key.k q.key.n q.key.s q.key.a p.key) (by kernel_rfl) (.inl rfl) rfl rfl rfl rfl rfl rfl rfl rfl ?_) | (refine r_arith rfl rfl rfl rfl rfl rfl rfl (by omega) ?_) | (with_reducible refine r_seq ?_) | (with_reducible refine x_then ?_) | (with_reducible refine r_region ?_) | (refine r_draw hM (by kernel_rfl) ?_) | (with_reducible refine r_skip ?_) | (with_reducible refine r_ret ?_) | (with_reducible refine x_then_ret ?_) | (with_reducible refine r_block ?_) | (with_reducible refine x_block ?_) | (with_reducible refine x_block_ret ?_) | (with_reducible refine r_exit ?_) | (with_reducible refine x_then_exit ?_) | (with_reducible refine x_block_here ?_) | (refine x_block_past rfl ?_) | (refine c_yes rfl (by omega) ?_) | (refine c_no rfl (by omega) ?_) | (refine c_no rfl (fun h => h rfl) ?_) | (refine r_cond_false rfl ?_) | (refine r_cond_true rfl ?_) | (refine r_cond_dec rfl (fun _ => ?_) (fun _ => ?_)) | (refine r_cond_true rfl ?_) | (refine r_cond_false rfl ?_) | (refine c_not rfl (fun _ => ?_) (fun _ => ?_)) | (refine r_off rfl rfl rfl ?_) | (refine q_guard rfl rfl (fun _ => ?_) (fun _ => ?_)) | (refine q_guardn rfl rfl (fun _ => ?_) (fun _ => ?_)))
        · rename_i x5; exact r_fin hT rfl _ rfl rfl rfl trivial rfl ⟨gok_not rfl (gok_no_t hm (tok_no_k hix2 hix3 hlt3 x5)), rfl⟩
        · rename_i x5
          exact x_round (l + 1) ⟨hlt3, by rw [keys_take hix3]; simp only [List.mem_append, List.mem_singleton, not_or]; exact ⟨hno, fun e => x5 e.symm⟩⟩ (by omega) (into rfl ⟨rfl, rfl, rfl, rfl, rfl, rfl, rfl, rfl, rfl, rfl, rfl, rfl, trivial⟩ ⟨rfl, rfl, rfl, trivial⟩ rfl rfl)
      · obtain rfl : l = j := by omega
        repeat' (first | (refine r_pure hT rfl rfl rfl rfl ?_) | (refine r_new hT rfl rfl rfl rfl ?_) | (refine r_write hT rfl rfl rfl ?_) | (refine r_nil ?_) | (refine q_nil ?_) | (refine r_arith rfl rfl rfl rfl rfl rfl rfl (by omega) ?_) | (with_reducible refine r_seq ?_) | (with_reducible refine x_then ?_) | (with_reducible refine r_region ?_) | (refine r_draw hM (by kernel_rfl) ?_) | (with_reducible refine r_skip ?_) | (with_reducible refine r_ret ?_) | (with_reducible refine x_then_ret ?_) | (with_reducible refine r_block ?_) | (with_reducible refine x_block ?_) | (with_reducible refine x_block_ret ?_) | (with_reducible refine r_exit ?_) | (with_reducible refine x_then_exit ?_) | (with_reducible refine x_block_here ?_) | (refine x_block_past rfl ?_) | (refine c_yes rfl (by omega) ?_) | (refine c_no rfl (by omega) ?_) | (refine c_no rfl (fun h => h rfl) ?_) | (refine r_cond_false rfl ?_) | (refine r_cond_true rfl ?_) | (refine r_cond_dec rfl (fun _ => ?_) (fun _ => ?_)) | (refine r_cond_true rfl ?_) | (refine r_cond_false rfl ?_) | (refine c_not rfl (fun _ => ?_) (fun _ => ?_)) | (refine r_off rfl rfl rfl ?_) | (refine q_guard rfl rfl (fun _ => ?_) (fun _ => ?_)) | (refine q_guardn rfl rfl (fun _ => ?_) (fun _ => ?_)))
        exact x_round (l + 1) ⟨hlt2, tok_take hix2 hg2 ⟨x2, x3, x4⟩, (nodup_next hix2).2 ⟨hnd, hno⟩⟩ (by omega) (into rfl ⟨rfl, rfl, rfl, rfl, rfl, rfl, rfl, rfl, rfl, trivial⟩ ⟨rfl, rfl, trivial⟩ rfl rfl)
    · obtain rfl : j = t.length := by omega
      rename_i x1
      repeat' (first | (refine r_pure hT rfl rfl rfl rfl ?_) | (refine r_new hT rfl rfl rfl rfl ?_) | (refine r_write hT rfl rfl rfl ?_) | (refine r_nil ?_) | (refine q_nil ?_) | (refine r_arith rfl rfl rfl rfl rfl rfl rfl (by omega) ?_) | (with_reducible refine r_seq ?_) | (with_reducible refine x_then ?_) | (with_reducible refine r_region ?_) | (refine r_draw hM (by kernel_rfl) ?_) | (with_reducible refine r_skip ?_) | (with_reducible refine r_ret ?_) | (with_reducible refine x_then_ret ?_) | (with_reducible refine r_block ?_) | (with_reducible refine x_block ?_) | (with_reducible refine x_block_ret ?_) | (with_reducible refine r_exit ?_) | (with_reducible refine x_then_exit ?_) | (with_reducible refine x_block_here ?_) | (refine x_block_past rfl ?_) | (refine c_yes rfl (by omega) ?_) | (refine c_no rfl (by omega) ?_) | (refine c_no rfl (fun h => h rfl) ?_) | (refine r_cond_false rfl ?_) | (refine r_cond_true rfl ?_) | (refine r_cond_dec rfl (fun _ => ?_) (fun _ => ?_)) | (refine r_cond_true rfl ?_) | (refine r_cond_false rfl ?_) | (refine c_not rfl (fun _ => ?_) (fun _ => ?_)) | (refine r_off rfl rfl rfl ?_) | (refine q_guard rfl rfl (fun _ => ?_) (fun _ => ?_)) | (refine q_guardn rfl rfl (fun _ => ?_) (fun _ => ?_)))
      exact x_round (i + 1) ⟨hlt, by
        rw [take_snoc hix]
        intro s hs
        rcases List.mem_append.1 hs with hs | hs
        · exact hg s hs
        · rw [List.mem_singleton] at hs; rw [hs]; exact ⟨by omega, by simpa using hg2, by simpa using hnd⟩⟩ (by omega) (into rfl ⟨rfl, rfl, rfl, rfl, rfl, trivial⟩ ⟨rfl, trivial⟩ rfl rfl)
  · repeat' (first | (refine r_pure hT rfl rfl rfl rfl ?_) | (refine r_new hT rfl rfl rfl rfl ?_) | (refine r_write hT rfl rfl rfl ?_) | (refine r_nil ?_) | (refine q_nil ?_) | (refine r_arith rfl rfl rfl rfl rfl rfl rfl (by omega) ?_) | (with_reducible refine r_seq ?_) | (with_reducible refine x_then ?_) | (with_reducible refine r_region ?_) | (refine r_draw hM (by kernel_rfl) ?_) | (with_reducible refine r_skip ?_) | (with_reducible refine r_ret ?_) | (with_reducible refine x_then_ret ?_) | (with_reducible refine r_block ?_) | (with_reducible refine x_block ?_) | (with_reducible refine x_block_ret ?_) | (with_reducible refine r_exit ?_) | (with_reducible refine x_then_exit ?_) | (with_reducible refine x_block_here ?_) | (refine x_block_past rfl ?_) | (refine c_yes rfl (by omega) ?_) | (refine c_no rfl (by omega) ?_) | (refine c_no rfl (fun h => h rfl) ?_) | (refine r_cond_false rfl ?_) | (refine r_cond_true rfl ?_) | (refine r_cond_dec rfl (fun _ => ?_) (fun _ => ?_)) | (refine r_cond_true rfl ?_) | (refine r_cond_false rfl ?_) | (refine c_not rfl (fun _ => ?_) (fun _ => ?_)) | (refine r_off rfl rfl rfl ?_) | (refine q_guard rfl rfl (fun _ => ?_) (fun _ => ?_)) | (refine q_guardn rfl rfl (fun _ => ?_) (fun _ => ?_)))
    obtain rfl : i = ts.length := by omega
    exact r_fin hT rfl _ rfl rfl rfl trivial rfl ⟨(decide_eq_true ⟨by omega, h2, by simpa using hg⟩).symm, rfl⟩
end Go.Proofs.YtkamfnmbidnhdaaDoor
