/- The specification's freezing: the plain text of a graph that is well made; spec.Freeze. No condition. -/
import Derived.Test.YtkamfnmbidnhdaaDoorSqAV
import Derived.Test.YtkamfnmbidnhdaaDoorSqAH
import Derived.Test.YtkamfnmbidnhdaaDoorSqAL
import Derived.Test.YtkamfnmbidnhdaaDoorSqAI
import Derived.Test.YtkamfnmbidnhdaaDoorSqAP
import Derived.Test.YtkamfnmbidnhdaaDoorSqAQ
import Derived.Test.YtkamfnmbidnhdaaDoorSqAU
set_option linter.unusedVariables false
set_option linter.unusedSimpArgs false
set_option linter.unusedSectionVars false
namespace Go.Proofs.YtkamfnmbidnhdaaDoor
open Go.Sy
set_option maxRecDepth 100000
set_option maxHeartbeats 8000000
set_option linter.unusedVariables false
set_option linter.unusedSimpArgs false
def Rng (v : V) : Prop := -9223372036854775808 ≤ v.n ∧ v.n ≤ 9223372036854775807
def RngG (v : V) (ts : List (List Pr)) : Prop := Rng v ∧ ∀ t ∈ ts, ∀ p ∈ t, Rng p.key ∧ Rng p.val
theorem vok_size {v : V} {n : Nat} (h : VOk v n) : v.s.size ≤ 500 := by
  have h0 : v.s.toList = [] → v.s.size ≤ 500 := fun e => by
    have := text_eq.1 (e.trans nil_list.symm)
    rw [this]; show 0 ≤ 500; omega
  rcases h with h | h | h | h | h
  · exact h0 h.2.2.1
  · exact h0 h.2.2.1
  · exact h0 h.2.1
  · exact h.2.2.2
  · exact h0 h.2.2.1
theorem itoa_len {n : Int} (h0 : -9223372036854775808 ≤ n) (h1 : n ≤ 9223372036854775807) : (Lib.itoa n).length ≤ 21 := by
  by_cases hz : n = 0
  · rw [hz, itoa_zero]; simp
  · rw [itoa_rdg n hz, List.length_append, List.length_reverse]
    have := rdg_len 20 n.natAbs (by omega)
    split <;> simp <;> omega
theorem plT_len {v : V} (hs : v.s.size ≤ 500) (hr : Rng v) : (plT v).length ≤ 1502 := by
  unfold plT
  split
  · split <;> simp
  · split
    · have := itoa_len hr.1 hr.2; omega
    · split
      · have := qt_len v.s.data.toList
        have e : v.s.data.toList.length = v.s.size := rfl
        omega
      · simp
theorem gok_fit {v : V} {ts : List (List Pr)} (h : GOk v ts) (hr : RngG v ts) : FzOk ts plT dcN 1502 ∧ Fit ts ∧ v.fit ∧ (plT v).length ≤ 1502 := by
  obtain ⟨i1, i2, i3, i4⟩ := gok_in h
  have hv := vok_size h.2.1
  refine ⟨⟨i1, i4, fun t ht p hp => ?_, fun k hk => by have := itoa_len (n := (k : Int)) (by omega) (by omega); unfold dcN; omega⟩, fun t ht p hp => ?_, ⟨hr.1, by omega⟩, plT_len hv hr.1⟩
  · have hp1 := (h.2.2 t ht).2.1 p hp
    obtain ⟨r1, r2⟩ := hr.2 t ht p hp
    exact ⟨plT_len (vok_size hp1.1.2) r1, plT_len (vok_size hp1.2.1) r2⟩
  · have hp1 := (h.2.2 t ht).2.1 p hp
    obtain ⟨r1, r2⟩ := hr.2 t ht p hp
    have e1 := vok_size hp1.1.2
    have e2 := vok_size hp1.2.1
    exact ⟨⟨r1, by omega⟩, ⟨r2, by omega⟩⟩
theorem trefs_len (t : List Pr) : (trefs t).length ≤ t.length := by
  unfold trefs
  induction t with
  | nil => simp
  | cons p r ih =>
    rw [List.flatMap_cons, List.length_append, List.length_cons]
    have : (vrefs p.val).length ≤ 1 := by unfold vrefs; split <;> simp
    omega
theorem brefs_sum {ts : List (List Pr)} (h : ∀ t ∈ ts, t.length ≤ 100) : ∀ l : List Nat, (l.flatMap (brefs ts)).length ≤ 100 * l.length
  | [] => by simp
  | b :: r => by
    have := brefs_sum h r
    have hb : (brefs ts b).length ≤ 100 := by
      unfold brefs
      have := trefs_len (ts.getD b [])
      have h2 : (ts.getD b []).length ≤ 100 := by
        rw [List.getD_eq_getElem?_getD]
        cases hq : ts[b]? with
        | none => simp
        | some t => exact h t (List.mem_of_getElem? hq)
      omega
    rw [List.flatMap_cons, List.length_append, List.length_cons]; omega
theorem rs_len {v : V} {ts : List (List Pr)} (h : GOk v ts) : (rf ts (ts.length + 1) [] v).length ≤ 1000000 := by
  obtain ⟨i1, i2, i3, i4⟩ := gok_in h
  rw [(rf_all i1 i2).length_eq, List.length_append]
  have h1 : (vrefs v).length ≤ 1 := by unfold vrefs; split <;> simp
  have h2 := brefs_sum i4 (ordOf ts v)
  have h3 := (ordOf_nm i1 i2).len
  omega
/-- The text of a graph that is well made. -/
theorem gok_txt {v : V} {ts : List (List Pr)} (h : GOk v ts) (hr : RngG v ts) : ∃ r, tx ts (multi ts v) plT dcN (ts.length + 1) ⟨[], []⟩ v = some r ∧ r.L.length ≤ 1000000 ∧ r.o.length ≤ 900000000 ∧ ∀ a ∈ r.L, a ∈ ordOf ts v := by
  obtain ⟨i1, i2, i3, i4⟩ := gok_in h
  obtain ⟨f1, f2, f3, f4⟩ := gok_fit h hr
  obtain ⟨r, e1, e2, e3, e4⟩ := tx_some (m := multi ts v) f1 (ts.length + 1) [] [] v ⟨[], []⟩ (nm_nil _) i2 f4 (fun a => Iff.rfl) (by simp) rfl (fun a ha => decide_eq_true ha)
  have h3 := (ordOf_nm i1 i2).len
  have h4 : go ts (ts.length + 1) [] v = ordOf ts v := rfl
  rw [h4] at e2 e4
  refine ⟨r, e1, ?_, ?_, fun a ha => ?_⟩
  · rw [e2]
    have := List.length_filter_le (multi ts v) (ordOf ts v)
    omega
  · have : bigK 1502 * ((ordOf ts v).length - ([] : List Nat).length) ≤ bigK 1502 * 200 := Nat.mul_le_mul_left _ (by simp; omega)
    have hb : bigK 1502 = 302406 := rfl
    rw [hb] at this e4
    simp only [List.length_nil] at e4
    simp only [List.length_nil] at this
    omega
  · rw [e2] at ha
    exact (List.mem_filter.1 ha).1
/-- What Freeze answers. -/
def frz (v : V) (ts : List (List Pr)) : List UInt8 := if GOk v ts then (match tx ts (multi ts v) plT dcN (ts.length + 1) ⟨[], []⟩ v with | some r => if 20000 < r.o.length then [] else r.o | none => []) else []
theorem specFreeze (v : V) (ts : List (List Pr)) (A : Option Addr) (n c : Nat) (h : Hp) (hP : Tabs h A n ts) (hr : RngG v ts) : Pur Tryd.prog 30 [.ag (gsv v A n c)] h (fun y : ByteArray => .v (.string y)) ⟨(frz v ts).toArray⟩ := by
  refine enterS Tryd.func30 rfl (n := 13) rfl rfl (fun k N => ?_)
  by_cases hg : GOk v ts
  · have hok := specOk v ts A n c h hP
    rw [decide_eq_true hg] at hok
    obtain ⟨i1, i2, i3, i4⟩ := gok_in hg
    obtain ⟨f1, f2, f3, f4⟩ := gok_fit hg hr
    obtain ⟨r, e1, e2, e3, e4⟩ := gok_txt hg hr
    have hfz : frz v ts = if 20000 < r.o.length then [] else r.o := by unfold frz; rw [if_pos hg, e1]
    have hl4 := l4freeze v ts A n c h hP i1 i2 (by omega) (fun t ht => by have := i4 t ht; omega) f2 f3 (rs_len hg) r e1 e2 e3
    have hsz : ((⟨r.o.toArray⟩ : ByteArray).size : Int) = (r.o.length : Int) := rfl
    by_cases hlen : 20000 < r.o.length
    · rw [if_pos hlen] at hfz
      repeat' (first | (refine r_pure hT rfl rfl rfl rfl ?_) | (refine r_new hT rfl rfl rfl rfl ?_) | (refine r_write hT rfl rfl rfl ?_) | (refine r_nil ?_) | (refine q_nil ?_) | (refine p_call hok rfl rfl rfl rfl rfl (hC _ rfl) rfl rfl rfl ?_) | (refine p_call hl4 rfl rfl rfl rfl rfl (hC _ rfl) rfl rfl rfl ?_) | (refine c_yes rfl (show (20000 : Int) < ((⟨r.o.toArray⟩ : ByteArray).size : Int) by rw [hsz]; omega) ?_) | (refine r_arith rfl rfl rfl rfl rfl rfl rfl (by omega) ?_) | (with_reducible refine r_seq ?_) | (with_reducible refine x_then ?_) | (with_reducible refine r_region ?_) | (refine r_draw hM (by kernel_rfl) ?_) | (with_reducible refine r_skip ?_) | (with_reducible refine r_ret ?_) | (with_reducible refine x_then_ret ?_) | (with_reducible refine r_block ?_) | (with_reducible refine x_block ?_) | (with_reducible refine x_block_ret ?_) | (with_reducible refine r_exit ?_) | (with_reducible refine x_then_exit ?_) | (with_reducible refine x_block_here ?_) | (refine x_block_past rfl ?_) | (refine c_yes rfl (by omega) ?_) | (refine c_no rfl (by omega) ?_) | (refine c_no rfl (fun h => h rfl) ?_) | (refine r_cond_false rfl ?_) | (refine r_cond_true rfl ?_) | (refine r_cond_dec rfl (fun _ => ?_) (fun _ => ?_)) | (refine r_cond_true rfl ?_) | (refine r_cond_false rfl ?_) | (refine c_not rfl (fun _ => ?_) (fun _ => ?_)) | (refine r_off rfl rfl rfl ?_) | (refine q_guard rfl rfl (fun _ => ?_) (fun _ => ?_)) | (refine q_guardn rfl rfl (fun _ => ?_) (fun _ => ?_)))
      exact r_fin hT rfl (⟨(frz v ts).toArray⟩ : ByteArray) rfl rfl (congrArg (fun z : List UInt8 => some (Value.string ⟨z.toArray⟩)) hfz) trivial rfl ⟨rfl, rfl⟩
    · rw [if_neg hlen] at hfz
      repeat' (first | (refine r_pure hT rfl rfl rfl rfl ?_) | (refine r_new hT rfl rfl rfl rfl ?_) | (refine r_write hT rfl rfl rfl ?_) | (refine r_nil ?_) | (refine q_nil ?_) | (refine p_call hok rfl rfl rfl rfl rfl (hC _ rfl) rfl rfl rfl ?_) | (refine p_call hl4 rfl rfl rfl rfl rfl (hC _ rfl) rfl rfl rfl ?_) | (refine c_no rfl (show ¬ (20000 : Int) < ((⟨r.o.toArray⟩ : ByteArray).size : Int) by rw [hsz]; omega) ?_) | (refine r_arith rfl rfl rfl rfl rfl rfl rfl (by omega) ?_) | (with_reducible refine r_seq ?_) | (with_reducible refine x_then ?_) | (with_reducible refine r_region ?_) | (refine r_draw hM (by kernel_rfl) ?_) | (with_reducible refine r_skip ?_) | (with_reducible refine r_ret ?_) | (with_reducible refine x_then_ret ?_) | (with_reducible refine r_block ?_) | (with_reducible refine x_block ?_) | (with_reducible refine x_block_ret ?_) | (with_reducible refine r_exit ?_) | (with_reducible refine x_then_exit ?_) | (with_reducible refine x_block_here ?_) | (refine x_block_past rfl ?_) | (refine c_yes rfl (by omega) ?_) | (refine c_no rfl (by omega) ?_) | (refine c_no rfl (fun h => h rfl) ?_) | (refine r_cond_false rfl ?_) | (refine r_cond_true rfl ?_) | (refine r_cond_dec rfl (fun _ => ?_) (fun _ => ?_)) | (refine r_cond_true rfl ?_) | (refine r_cond_false rfl ?_) | (refine c_not rfl (fun _ => ?_) (fun _ => ?_)) | (refine r_off rfl rfl rfl ?_) | (refine q_guard rfl rfl (fun _ => ?_) (fun _ => ?_)) | (refine q_guardn rfl rfl (fun _ => ?_) (fun _ => ?_)))
      exact r_fin hT rfl (⟨(frz v ts).toArray⟩ : ByteArray) rfl rfl (congrArg (fun z : List UInt8 => some (Value.string ⟨z.toArray⟩)) hfz) trivial rfl ⟨rfl, rfl⟩
  · have hok := specOk v ts A n c h hP
    rw [decide_eq_false hg] at hok
    have hfz : frz v ts = [] := by unfold frz; rw [if_neg hg]
    repeat' (first | (refine r_pure hT rfl rfl rfl rfl ?_) | (refine r_new hT rfl rfl rfl rfl ?_) | (refine r_write hT rfl rfl rfl ?_) | (refine r_nil ?_) | (refine q_nil ?_) | (refine p_call hok rfl rfl rfl rfl rfl (hC _ rfl) rfl rfl rfl ?_) | (refine r_arith rfl rfl rfl rfl rfl rfl rfl (by omega) ?_) | (with_reducible refine r_seq ?_) | (with_reducible refine x_then ?_) | (with_reducible refine r_region ?_) | (refine r_draw hM (by kernel_rfl) ?_) | (with_reducible refine r_skip ?_) | (with_reducible refine r_ret ?_) | (with_reducible refine x_then_ret ?_) | (with_reducible refine r_block ?_) | (with_reducible refine x_block ?_) | (with_reducible refine x_block_ret ?_) | (with_reducible refine r_exit ?_) | (with_reducible refine x_then_exit ?_) | (with_reducible refine x_block_here ?_) | (refine x_block_past rfl ?_) | (refine c_yes rfl (by omega) ?_) | (refine c_no rfl (by omega) ?_) | (refine c_no rfl (fun h => h rfl) ?_) | (refine r_cond_false rfl ?_) | (refine r_cond_true rfl ?_) | (refine r_cond_dec rfl (fun _ => ?_) (fun _ => ?_)) | (refine r_cond_true rfl ?_) | (refine r_cond_false rfl ?_) | (refine c_not rfl (fun _ => ?_) (fun _ => ?_)) | (refine r_off rfl rfl rfl ?_) | (refine q_guard rfl rfl (fun _ => ?_) (fun _ => ?_)) | (refine q_guardn rfl rfl (fun _ => ?_) (fun _ => ?_)))
    exact r_fin hT rfl (⟨(frz v ts).toArray⟩ : ByteArray) rfl rfl (congrArg (fun z : List UInt8 => some (Value.string ⟨z.toArray⟩)) hfz) trivial rfl ⟨rfl, rfl⟩
end Go.Proofs.YtkamfnmbidnhdaaDoor
/- Maps with texts as keys, a Builder's text (that may be empty), the text of a value. No condition. -/

namespace Go.Proofs.YtkamfnmbidnhdaaDoor
open Go.Sy
set_option maxRecDepth 100000
set_option maxHeartbeats 4000000
set_option linter.unusedVariables false
set_option linter.unusedSimpArgs false
def sKey (x : ByteArray) : Value := .string x
theorem beq_text (x y : ByteArray) : (x == y) = decide (x = y) := by
  cases x with | mk d =>
  cases y with | mk f =>
  show (d == f) = decide (ByteArray.mk d = ByteArray.mk f)
  by_cases h : d = f
  · subst h; simp
  · have : ¬ ByteArray.mk d = ByteArray.mk f := fun e => h (ByteArray.mk.inj e)
    rw [decide_eq_false this]
    simpa using h
theorem s_now (x : ByteArray) : ∀ (l : List ByteArray) (es : List MapEntry) (i : Nat), es.map (·.key) = l.map sKey →
    Instr.findNow .string (sKey x) es i = some (match l.findIdx? (fun y => decide (x = y)) with | some j => (es[j]?).map (fun e => (i + j, e.val)) | none => none)
  | [], es, i, h => by
    have : es = [] := by simpa using h
    subst this; rfl
  | y :: l, [], i, h => by simp at h
  | y :: l, e :: es, i, h => by
    simp only [List.map_cons, List.cons.injEq] at h
    obtain ⟨h1, h2⟩ := h
    have ih := s_now x l es (i + 1) h2
    by_cases hx : x = y
    · simp [Instr.findNow, h1, sKey, Instr.sameNow, List.findIdx?_cons, hx, text_self]
    · simp only [Instr.findNow, h1, Instr.sameNow, sKey, beq_text, decide_eq_false hx, List.findIdx?_cons]
      simp only [sKey] at ih
      rw [ih]
      cases l.findIdx? (fun y => decide (x = y)) with
      | none => rfl
      | some j => simp [Nat.add_assoc, Nat.add_comm 1 j]
theorem sKey_check (em : Bool) (m : Nat) (w : World) (x : ByteArray) : (Instr.checkKey em (m + 1) 9 (sKey x)).run Tryd.prog w = .ok () w := by
  simp [Instr.checkKey, sKey, run_underlying Tryd.underlying9]
theorem sKeyOps : KeyOps Tryd.prog 9 sKey where
  check w em x := sKey_check em 9999 w x
  find w x l es h := by
    have := s_now x l es 0 h
    simp [Instr.findKey, run_underlying Tryd.underlying9, this]
    cases l.findIdx? (fun y => decide (x = y)) <;> rfl
  stays w x := by simp [Instr.keyThatStays, Instr.sameBits, sKey, text_self]
theorem map154 : Tryd.prog.underlying 154 = some (.map 9 3) := by kernel_rfl
theorem map154L : Tryd.prog.underlying 154 = some (.map (Tryd.prog.mapKeyOf 154) (Tryd.prog.mapElemOf 154)) := by kernel_rfl
theorem stringE (h0 u : Hp) (pb : Nat) (e : TypeId) (pre post : List Value) (ad : Value) (c : Nat) (hB : BSt h0 u pb e pre post ad none c []) :
    Pur Tryd.prog 72 [.v (.pointer (some ⟨pb, pre.length, none⟩))] u (fun _ : Unit => .v (.string ⟨#[]⟩)) () := by
  have hat := hB.at_
  refine enterS Tryd.func72 rfl (n := 14) rfl rfl (fun k N => ?_)
  repeat' (first | (refine r_pure hT rfl rfl rfl rfl ?_) | (refine r_new hT rfl rfl rfl rfl ?_) | (refine r_write hT rfl rfl rfl ?_) | (refine r_nil ?_) | (refine q_nil ?_) | (refine r_many (id := 1) [0, 1, 2, 3, 5, 6, 7, 8, 9] [] u (Le.refl u) hM (by kernel_rfl) rfl (by kernel_rfl) rfl rfl rfl (fun β0 => ?_)) | (refine r_load hT hat rfl rfl rfl rfl rfl rfl rfl rfl rfl rfl rfl ?_) | (refine r_sldata0 rfl rfl rfl rfl rfl ?_) | (refine m_keep (Le.refl u) trivial rfl rfl ?_) | (refine r_ustring0 rfl rfl rfl rfl rfl rfl ?_) | (refine r_arith rfl rfl rfl rfl rfl rfl rfl (by omega) ?_) | (with_reducible refine r_seq ?_) | (with_reducible refine x_then ?_) | (with_reducible refine r_region ?_) | (with_reducible refine r_skip ?_) | (with_reducible refine r_ret ?_) | (with_reducible refine x_then_ret ?_) | (with_reducible refine r_block ?_) | (with_reducible refine x_block ?_) | (with_reducible refine x_block_ret ?_) | (with_reducible refine r_exit ?_) | (with_reducible refine x_then_exit ?_) | (with_reducible refine x_block_here ?_) | (refine x_block_past rfl ?_) | (refine c_yes rfl (by omega) ?_) | (refine c_no rfl (by omega) ?_) | (refine c_no rfl (fun h => h rfl) ?_) | (refine r_cond_false rfl ?_) | (refine r_cond_true rfl ?_) | (refine r_cond_dec rfl (fun _ => ?_) (fun _ => ?_)) | (refine r_cond_true rfl ?_) | (refine r_cond_false rfl ?_) | (refine c_not rfl (fun _ => ?_) (fun _ => ?_)) | (refine r_off rfl rfl rfl ?_) | (refine q_guard rfl rfl (fun _ => ?_) (fun _ => ?_)) | (refine q_guardn rfl rfl (fun _ => ?_) (fun _ => ?_)) | (refine s_nil ?_) | (with_reducible refine a_full ?_) | (refine m_step rfl rfl (List.cons_ne_nil _ _) ?_) | (refine allR_cons rfl ?_ ?_) | (exact allR_nil) | (refine m_end rfl rfl rfl ?_))
  exact r_fin hT rfl () rfl rfl rfl trivial rfl ⟨rfl, rfl⟩
/-- The text that was written; nothing else is turned but the Builder's own bytes. -/
theorem stringA (h0 u : Hp) (pb : Nat) (e : TypeId) (pre post : List Value) (ad : Value) (A : Option Addr) (c : Nat) (o : List UInt8) (hB : BSt h0 u pb e pre post ad A c o) (hz : o = [] → A = none) (hs : o.length ≤ 1000000000) :
    TriS Tryd.prog 72 [.v (.pointer (some ⟨pb, pre.length, none⟩))] [] u (fun _ : Unit => .v (.string (bs o))) (fun _ => []) (fun _ u' => ∀ z ox, blk A ≠ some z → u z = some ox → u' z = some ox) := by
  by_cases hne : o = []
  · have hA := hz hne
    subst hne
    subst hA
    intro e1 e2 vs h1 e3 e4
    refine (stringE h0 u pb e pre post ad c hB e1 e2 vs h1 e3 e4).mono ?_
    rintro v h'' ⟨y, h', a, b, d, f, g⟩
    exact ⟨(), h', a, b, d, fun z ox _ hu => by rw [g]; exact hu⟩
  · exact stringB h0 u pb e pre post ad A c o hB hne hs
abbrev comma : ByteArray := ⟨#[44]⟩
abbrev colon : ByteArray := ⟨#[58]⟩
/-- A value's text, as the program puts it together. -/
def txB (v : V) : ByteArray := ((((((dec v.k ++ comma) ++ dec v.n) ++ comma) ++ dec v.a) ++ comma) ++ dec (v.s.size : Int)) ++ colon ++ v.s
theorem txB_list (v : V) : (txB v).data.toList = tx1 v := by
  unfold txB tx1
  simp only [bs_cat, dec, comma, colon]
  simp
theorem dec_size {n : Int} (h0 : -9223372036854775808 ≤ n) (h1 : n ≤ 9223372036854775807) : (dec n).size ≤ 21 := itoa_len h0 h1
theorem BSt.weak {h0 h1 u : Hp} {pb : Nat} {e : TypeId} {pre post : List Value} {ad : Value} {A : Option Addr} {c : Nat} {o : List UInt8} (h : BSt h1 u pb e pre post ad A c o) (hl : Le h0 h1) : BSt h0 u pb e pre post ad A c o := by
  have hn : ∀ b, h1 b = none → h0 b = none := fun b hb => by
    cases hh : h0 b with
    | none => rfl
    | some ox => have := hl b ox hh; rw [hb] at this; cases this
  exact ⟨h.cell, h.own, h.hd, h.adr, fun x o hx => h.base x o (hl x o hx), hn _ h.hp, fun b hb => hn _ (h.ho b hb), h.ap⟩
/-- A new block is laid beside a Builder. -/
theorem BSt.beside {h0 u : Hp} {pb : Nat} {e : TypeId} {pre post : List Value} {ad : Value} {A : Option Addr} {c : Nat} {o : List UInt8} (h : BSt h0 u pb e pre post ad A c o) {b : Nat} (ob : Obj) (hb : u b = none) : BSt (upd h0 b ob) (upd u b ob) pb e pre post ad A c o := by
  have hpb : pb ≠ b := fun x => by have := h.cell; rw [x, hb] at this; cases this
  have hA : blk A ≠ some b := fun x => by
    cases A with
    | none => cases x
    | some a =>
      obtain ⟨_, arr, h2, _⟩ := h.own.row a rfl
      have e1 : a.block = b := Option.some.inj x
      rw [e1, hb] at h2; cases h2
  refine ⟨by rw [upd_ne hpb]; exact h.cell, own_fr h.own hb, h.hd, h.adr, fun x o hx => ?_, by rw [upd_ne hpb]; exact h.hp, fun z hz => ?_, h.ap⟩
  · by_cases hxb : x = b
    · subst hxb
      rw [upd_here] at hx ⊢; exact hx
    · rw [upd_ne hxb] at hx ⊢; exact h.base x o hx
  · rw [upd_ne (fun x => hA (by rw [← x]; exact hz))]; exact h.ho z hz
end Go.Proofs.YtkamfnmbidnhdaaDoor
/- Graphs whose tables may be classed: what is known of their pairs. Plain; no condition. -/
namespace Go.Proofs.YtkamfnmbidnhdaaDoor
open Go.Sy
set_option linter.unusedVariables false
/-- Tables that may be classed. -/
structure ClOk (ts : List (List Pr)) : Prop where
  num : ts.length ≤ 1000
  tok : ∀ t ∈ ts, TOk t ts.length
  fit : Fit ts
/-- A value that is written into a text. -/
structure Tf (v : V) : Prop where
  k : 0 ≤ v.k ∧ v.k ≤ 4
  n : -9223372036854775808 ≤ v.n ∧ v.n ≤ 9223372036854775807
  a : 0 ≤ v.a ∧ v.a ≤ 1000000
  s : v.s.size ≤ 500
theorem vok_k {v : V} {n : Nat} (h : VOk v n) : (0 ≤ v.k ∧ v.k ≤ 4) ∧ (v.k ≠ 4 → v.a = 0) := by
  rcases h with ⟨a, b, c, d⟩ | ⟨a, b, c, d⟩ | ⟨a, c, d⟩ | ⟨a, b, c, d⟩ | ⟨a, b, c, d, e⟩
  · exact ⟨by omega, fun _ => d⟩
  · exact ⟨by omega, fun _ => d⟩
  · exact ⟨by omega, fun _ => d⟩
  · exact ⟨by omega, fun _ => c⟩
  · exact ⟨by omega, fun h => absurd a h⟩
theorem ClOk.inAll {ts : List (List Pr)} (h : ClOk ts) : AllIn ts := fun t ht p hp => vok_in ((h.tok t ht).2.1 p hp).2.1
theorem ClOk.kd {ts : List (List Pr)} (h : ClOk ts) {t : List Pr} (ht : t ∈ ts) {p : Pr} (hp : p ∈ t) : Kd p.key := by
  have h1 := ((h.tok t ht).2.1 p hp).1.1
  unfold Kd
  omega
theorem ClOk.ky {ts : List (List Pr)} (h : ClOk ts) {t : List Pr} (ht : t ∈ ts) {p : Pr} (hp : p ∈ t) : Ky p.key ∧ p.key.s.size ≤ 1000000 :=
  ⟨ky_of ((h.tok t ht).2.1 p hp).1, Nat.le_trans (vok_size ((h.tok t ht).2.1 p hp).1.2) (by decide)⟩
theorem ClOk.uniq {ts : List (List Pr)} (h : ClOk ts) {t : List Pr} (ht : t ∈ ts) {ys : List Pr} (h1 : ys.Perm t) (h2 : Srt ys) : ys = srt t := tok_uniq (h.tok t ht) h1 h2
theorem ClOk.tfk {ts : List (List Pr)} (h : ClOk ts) {t : List Pr} (ht : t ∈ ts) {p : Pr} (hp : p ∈ t) : Tf p.key := by
  obtain ⟨h1, h2, h3⟩ := (h.tok t ht).2.1 p hp
  obtain ⟨k1, k2⟩ := vok_k h1.2
  have := k2 (by have := h1.1; omega)
  exact ⟨k1, (h.fit t ht p hp).1.1, by omega, vok_size h1.2⟩
theorem ClOk.tfv {ts : List (List Pr)} (h : ClOk ts) {t : List Pr} (ht : t ∈ ts) {p : Pr} (hp : p ∈ t) {c : List Nat} (hc : CIn ts.length c) : Tf (lk c p.val) := by
  obtain ⟨h1, h2, h3⟩ := (h.tok t ht).2.1 p hp
  have h4 := vok_lk h2 hc
  obtain ⟨k1, k2⟩ := vok_k h4
  have hn := h.num
  have hin := vok_in h4
  refine ⟨k1, ?_, ?_, vok_size h4⟩
  · have := (h.fit t ht p hp).2.1
    unfold lk
    split <;> exact this
  · by_cases e : (lk c p.val).k = 4
    · have := hin e; omega
    · have := k2 e; omega
theorem ClOk.srt_mem {ts : List (List Pr)} {i : Nat} {t : List Pr} (hi : ts[i]? = some t) : (ts.map srt)[i]? = some (srt t) := by rw [List.getElem?_map, hi]; rfl
theorem ClOk.inSrt {ts : List (List Pr)} (h : ClOk ts) : AllIn (ts.map srt) := allin_srt h.inAll
theorem tx1_len {v : V} (h : Tf v) : (tx1 v).length ≤ 600 := by
  have h1 := itoa_len (n := v.k) (by have := h.k; omega) (by have := h.k; omega)
  have h2 := itoa_len (n := v.n) h.n.1 h.n.2
  have h3 := itoa_len (n := v.a) (by have := h.a; omega) (by have := h.a; omega)
  have h4 := itoa_len (n := (v.s.size : Int)) (by omega) (by have := h.s; omega)
  have h5 : v.s.data.toList.length = v.s.size := Array.length_toList
  have h6 := h.s
  unfold tx1
  simp only [List.length_append, List.length_cons]
  omega
end Go.Proofs.YtkamfnmbidnhdaaDoor
