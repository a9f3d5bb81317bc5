/- The walk by a symbolic frame: the text of a Builder that nothing was written into. -/
import Derived.Test.YtkamfnmbidnhdaaDoorSqAI
import Derived.Shelf.LaysM
import Derived.Shelf.Strconv.Itoa3
import Derived.Test.YtkamfnmbidnhdaaDoorProg
import Derived.Test.YtkamfnmbidnhdaaDoorSqAE
import Derived.Sort.Grow
import Derived.Test.YtkamfnmbidnhdaaDoorSqAF
import Derived.Test.YtkamfnmbidnhdaaDoorSqAC
import Derived.KernelRfl
import Derived.Test.YtkamfnmbidnhdaaDoorSqAG
import Derived.Laws.StructEq
import Derived.WideKeyEntry
set_option linter.unusedVariables false
set_option linter.unusedSimpArgs false
set_option linter.unusedSectionVars false
namespace Go.Sy
set_option linter.unusedVariables false
section
variable {P : Program} {F : Fr} {tm : Tm} {L : Lm} {u : Hp} {Q : Exit → Act → World → Prop}
theorem r_sldata0 {q : Md} {l : List Oper} {o : Oper} {r : List Oper} {d : Nat} {tys : Array TypeId} {x : Operand} {n c : Nat} (hw : wantE l tm o = some true) (ho : o.dst = some d) (hn : Nat.blt d F.n.z = true)
    (hop : o.op = .call { callee := .builtin .unsafeSliceData, args := #[x], argTypes := tys }) (hx : ev tm x = some (.v (.slice none n c))) (next : Run P Q F ((d, .v (.pointer none)) :: tm) L u q l r) : Run P Q F tm L u q l (o :: r) := by
  refine op_pure hw ho hn (fun β a w ht' hd => ⟨?_, rfl⟩) next
  have h1 : a.eval x = .slice none n c := by rw [ev_ok ht' hx, SV.den]
  simp [execOp, hop, h1, resolve, invoke, builtin, Lib.run_unsafeSliceData_nil (P := P) (w := w) tys o.type n c, SV.den]
theorem r_ustring0 {q : Md} {l : List Oper} {o : Oper} {r : List Oper} {d : Nat} {pt it : TypeId} {x y : Operand} {p : Option Addr} (hw : wantE l tm o = some true) (ho : o.dst = some d) (hn : Nat.blt d F.n.z = true)
    (hop : o.op = .call { callee := .builtin .unsafeString, args := #[x, y], argTypes := #[pt, it] })
    (hx : ev tm x = some (.v (.pointer p))) (hy : ev tm y = some (.v (.int .i64 0))) (next : Run P Q F ((d, .v (.string ⟨#[]⟩)) :: tm) L u q l r) : Run P Q F tm L u q l (o :: r) := by
  refine op_pure hw ho hn (fun β a w ht' hd => ⟨?_, rfl⟩) next
  have h1 : a.eval x = .pointer p := by rw [ev_ok ht' hx, SV.den]
  have h2 : a.eval y = .int .i64 0 := by rw [ev_ok ht' hy, SV.den]
  have e : ByteArray.empty = (⟨#[]⟩ : ByteArray) := rfl
  simp [execOp, hop, h1, h2, resolve, invoke, builtin, Lib.run_unsafeString_none (P := P) (w := w) pt it o.type p, SV.den, e]
end
end Go.Sy
/-
  DERIVED: THE SHELF's CONTRACTS AT THIS DUMP, IN PLAIN WORDS (tools/lay-plain.mjs out of 'TrydShelf.lean', which tools/lay-shelf.mjs wrote): THE SAME DECLARATIONS UNDER THE SAME NAMES: 'import', 'namespace', 'open', 'def', 'theorem' AND NOTHING ELSE: no command of the shelf's: FOR A HAND-IN. Each laying: the table of numbers ('.._ren') and one theorem, a field a fact of the dump's own or the kernel's comparison; each contract: ONE APPLICATION.
-/
namespace Go.Proofs
open Go.Shelf
def Tryd.laysM246_ren : Go.Shelf.Ren := ⟨fun | 246 => 141 | 283 => 165 | 284 => 166 | 285 => 167 | 286 => 168 | 129 => 155 | 317 => 184 | 318 => 185 | 319 => 186 | 320 => 187 | 337 => 192 | 338 => 193 | n => n, fun | 2 => 2 | 3 => 3 | 9 => 9 | 4 => 4 | 171 => 200 | 0 => 0 | 53 => 120 | 37 => 22 | 5 => 5 | 173 => 202 | 212 => 217 | 51 => 190 | 20 => 20 | 213 => 218 | 46 => 162 | 232 => 226 | 233 => 227 | n => n, fun | 17 => 2 | 18 => 3 | 19 => 4 | n => n⟩
theorem Tryd.laysM246 : Go.Proofs.LaysM.n246 Tryd.prog Tryd.laysM246_ren := {
  mixed := by kernel_rfl
  f129 := Tryd.func155.trans (congrArg some (by kernel_rfl))
  f246 := Tryd.func141.trans (congrArg some (by kernel_rfl))
  f283 := Tryd.func165.trans (congrArg some (by kernel_rfl))
  f284 := Tryd.func166.trans (congrArg some (by kernel_rfl))
  f285 := Tryd.func167.trans (congrArg some (by kernel_rfl))
  f286 := Tryd.func168.trans (congrArg some (by kernel_rfl))
  f317 := Tryd.func184.trans (congrArg some (by kernel_rfl))
  f318 := Tryd.func185.trans (congrArg some (by kernel_rfl))
  f319 := Tryd.func186.trans (congrArg some (by kernel_rfl))
  f320 := Tryd.func187.trans (congrArg some (by kernel_rfl))
  f337 := Tryd.func192.trans (congrArg some (by kernel_rfl))
  f338 := Tryd.func193.trans (congrArg some (by kernel_rfl))
  t0 := Tryd.underlying0
  a0 := Tryd.isAgg0
  z0 := Tryd.sizeOf0
  v0 := Tryd.zeroValue0
  t2 := Tryd.underlying2
  a2 := Tryd.isAgg2
  z2 := Tryd.sizeOf2
  v2 := Tryd.zeroValue2
  t3 := Tryd.underlying3
  a3 := Tryd.isAgg3
  z3 := Tryd.sizeOf3
  v3 := Tryd.zeroValue3
  t4 := Tryd.underlying4
  a4 := Tryd.isAgg4
  z4 := Tryd.sizeOf4
  v4 := Tryd.zeroValue4
  t5 := Tryd.underlying5
  a5 := Tryd.isAgg5
  z5 := Tryd.sizeOf5
  v5 := Tryd.zeroValue5
  t9 := Tryd.underlying9
  a9 := Tryd.isAgg9
  z9 := Tryd.sizeOf9
  v9 := Tryd.zeroValue9
  t20 := Tryd.underlying20
  a20 := Tryd.isAgg20
  z20 := Tryd.sizeOf20
  v20 := Tryd.zeroValue20
  t37 := Tryd.underlying22
  a37 := Tryd.isAgg22
  z37 := Tryd.sizeOf22
  v37 := Tryd.zeroValue22
  t46 := Tryd.underlying162
  a46 := Tryd.isAgg162
  z46 := Tryd.sizeOf162
  v46 := Tryd.zeroValue162
  t51 := Tryd.underlying190
  a51 := Tryd.isAgg190
  z51 := Tryd.sizeOf190
  v51 := Tryd.zeroValue190
  t53 := Tryd.underlying120
  a53 := Tryd.isAgg120
  z53 := Tryd.sizeOf120
  v53 := Tryd.zeroValue120
  t171 := Tryd.underlying200
  a171 := Tryd.isAgg200
  z171 := Tryd.sizeOf200
  v171 := Tryd.zeroValue200
  t173 := Tryd.underlying202
  a173 := Tryd.isAgg202
  z173 := Tryd.sizeOf202
  v173 := Tryd.zeroValue202
  t212 := Tryd.underlying217
  a212 := Tryd.isAgg217
  z212 := Tryd.sizeOf217
  v212 := Tryd.zeroValue217
  t213 := Tryd.underlying218
  a213 := Tryd.isAgg218
  z213 := Tryd.sizeOf218
  t232 := Tryd.underlying226
  a232 := Tryd.isAgg226
  z232 := Tryd.sizeOf226
  v232 := Tryd.zeroValue226
  t233 := Tryd.underlying227
  a233 := Tryd.isAgg227
  z233 := Tryd.sizeOf227
  v233 := Tryd.zeroValue227
  g17 := by kernel_rfl
  g18 := by kernel_rfl
  g19 := by kernel_rfl
  i0 := by kernel_rfl
  i2 := by kernel_rfl
  i3 := by kernel_rfl
  i4 := by kernel_rfl
  i5 := by kernel_rfl
  i9 := by kernel_rfl
  i20 := by kernel_rfl
  i37 := by kernel_rfl
  i46 := by kernel_rfl
  i51 := by kernel_rfl
  i53 := by kernel_rfl
  i171 := by kernel_rfl
  i173 := by kernel_rfl
  i212 := by kernel_rfl
  i232 := by kernel_rfl
  i233 := by kernel_rfl
  m17 := by kernel_rfl
  m18 := by kernel_rfl
  m19 := by kernel_rfl }
open Go.RowKit Go.Sort Go.Lib in
/-- internal/strconv.FormatInt: "FormatInt returns the string representation of i in the given base": AT BASE 10: i's decimal numeral, for every int64. The world behind the call: the world before it, new blocks behind the heap, draws. (LAID: no walk: one application.) -/
theorem Tryd.internal_strconv_FormatInt_10 (n : Int) (h0 : -9223372036854775808 ≤ n) (h1 : n ≤ 9223372036854775807) (w : World) (htab : Lib.TabIs Tryd.prog w "internal/strconv.uint64pow10" .u64 Lib.pow10Tab) :
    Calls Tryd.prog 141 #[.int .i64 n, .int .i64 10] w fun e w' => e = .returned (.string ⟨(Lib.itoa n).toArray⟩) ∧ ∃ k os, w' = grow (w.drewN k) os := Any.internal_strconv_FormatInt_10 Tryd.laysM246 n h0 h1 w htab
end Go.Proofs
/- A contract of the library's own words, for the walk by a symbolic frame: it answers, and only new blocks come. -/
namespace Go.Sy
open Go.Sort
theorem pur_calls {P : Program} {f : FuncId} {args : List SV} {vs : List Value} {h : Hp} {Y : Type} {val : Y → SV} {v : Value} (r : Y) (hvs : valsE [] args = some vs) (hv : valE [] (val r) = some v)
    (hc : ∀ w : World, (∀ (b : Nat) (o : Obj), h b = some o → w.heap[b]? = some o) → Calls P f vs.toArray w fun (e : Ending) (w' : World) => e = .returned v ∧ (∀ (b : Nat) (o : Obj), w.heap[b]? = some o → w'.heap[b]? = some o) ∧ Ge w w') : Pur P f args h val r := by
  intro _ _ vs' h0 h1 h2
  rw [hvs] at h1
  obtain rfl := Option.some.inj h1
  have e : h = h0 := by simpa [addsE] using h2
  subst e
  intro k N w hd
  refine (hc w hd.ext).mono fun e w' ⟨he, hk, hg⟩ => ?_
  exact ⟨v, h, he, ⟨r, h, hv, rfl, fun b hb => (by cases hb), rfl, rfl⟩, ⟨fun b o hb => hk b o (hd.ext b o hb), fun b o hb => ⟨hk b o (hd.hid b o hb).1, (hd.hid b o hb).2⟩, hd.size.trans hg⟩⟩
theorem grow_keep {w : World} {k : Nat} {os : Array Obj} : (∀ (b : Nat) (o : Obj), w.heap[b]? = some o → (grow (w.drewN k) os).heap[b]? = some o) ∧ Ge w (grow (w.drewN k) os) := by
  refine ⟨fun b o hb => ?_, ⟨by simp [grow, World.drewN], rfl, rfl, rfl, Nat.le_add_right _ _⟩⟩
  have hlt := (Array.getElem?_eq_some_iff.1 hb).1
  show (w.heap ++ os)[b]? = some o
  rw [Array.getElem?_append_left hlt]; exact hb
end Go.Sy
/- strconv's decimal texts. No condition. -/
namespace Go.Proofs.YtkamfnmbidnhdaaDoor
open Go.Sy
set_option maxRecDepth 100000
set_option maxHeartbeats 4000000
set_option linter.unusedVariables false
set_option linter.unusedSimpArgs false
/-- The library's table lies in a heap. -/
def Tab10 (h : Hp) : Prop := ∀ w : World, (∀ (b : Nat) (o : Obj), h b = some o → w.heap[b]? = some o) → Lib.TabIs Tryd.prog w "internal/strconv.uint64pow10" .u64 Lib.pow10Tab
theorem Tab10.le {h u : Hp} (hT : Tab10 h) (hl : Le h u) : Tab10 u := fun w hw => hT w fun b o hb => hw b o (hl b o hb)
def dec (n : Int) : ByteArray := ⟨(Lib.itoa n).toArray⟩
theorem fmt141 (n : Int) (h0 : -9223372036854775808 ≤ n) (h1 : n ≤ 9223372036854775807) (h : Hp) (ht : Tab10 h) : Pur Tryd.prog 141 [.v (.int .i64 n), .v (.int .i64 10)] h (fun y : ByteArray => .v (.string y)) (dec n) :=
  pur_calls (vs := [.int .i64 n, .int .i64 10]) (v := .string (dec n)) (dec n) rfl rfl fun w hw => (Tryd.internal_strconv_FormatInt_10 n h0 h1 w (ht w hw)).mono fun e w' ⟨he, k, os, hw'⟩ => by
    subst hw'
    exact ⟨he, grow_keep.1, grow_keep.2⟩
theorem fmt111 (n : Int) (h0 : -9223372036854775808 ≤ n) (h1 : n ≤ 9223372036854775807) (h : Hp) (ht : Tab10 h) : Pur Tryd.prog 111 [.v (.int .i64 n), .v (.int .i64 10)] h (fun y : ByteArray => .v (.string y)) (dec n) := by
  refine enterS Tryd.func111 rfl (n := 8) rfl rfl (fun k N => ?_)
  repeat' (first | (refine r_pure hT rfl rfl rfl rfl ?_) | (refine r_new hT rfl rfl rfl rfl ?_) | (refine r_write hT rfl rfl rfl ?_) | (refine r_nil ?_) | (refine q_nil ?_) | (refine p_call (fmt141 n h0 h1 h ht) rfl rfl rfl rfl rfl (hC _ rfl) rfl rfl rfl ?_) | (refine r_arith rfl rfl rfl rfl rfl rfl rfl (by omega) ?_) | (with_reducible refine r_seq ?_) | (with_reducible refine x_then ?_) | (with_reducible refine r_region ?_) | (refine r_draw hM (by kernel_rfl) ?_) | (with_reducible refine r_skip ?_) | (with_reducible refine r_ret ?_) | (with_reducible refine x_then_ret ?_) | (with_reducible refine r_block ?_) | (with_reducible refine x_block ?_) | (with_reducible refine x_block_ret ?_) | (with_reducible refine r_exit ?_) | (with_reducible refine x_then_exit ?_) | (with_reducible refine x_block_here ?_) | (refine x_block_past rfl ?_) | (refine c_yes rfl (by omega) ?_) | (refine c_no rfl (by omega) ?_) | (refine c_no rfl (fun h => h rfl) ?_) | (refine r_cond_false rfl ?_) | (refine r_cond_true rfl ?_) | (refine r_cond_dec rfl (fun _ => ?_) (fun _ => ?_)) | (refine r_cond_true rfl ?_) | (refine r_cond_false rfl ?_) | (refine c_not rfl (fun _ => ?_) (fun _ => ?_)) | (refine r_off rfl rfl rfl ?_) | (refine q_guard rfl rfl (fun _ => ?_) (fun _ => ?_)) | (refine q_guardn rfl rfl (fun _ => ?_) (fun _ => ?_)))
  exact r_fin hT rfl (dec n) rfl rfl rfl trivial rfl ⟨rfl, rfl⟩
theorem itoa144 (n : Int) (h0 : -9223372036854775808 ≤ n) (h1 : n ≤ 9223372036854775807) (h : Hp) (ht : Tab10 h) : Pur Tryd.prog 144 [.v (.int .i64 n)] h (fun y : ByteArray => .v (.string y)) (dec n) := by
  refine enterS Tryd.func144 rfl (n := 5) rfl rfl (fun k N => ?_)
  repeat' (first | (refine r_pure hT rfl rfl rfl rfl ?_) | (refine r_new hT rfl rfl rfl rfl ?_) | (refine r_write hT rfl rfl rfl ?_) | (refine r_nil ?_) | (refine q_nil ?_) | (refine p_call (fmt141 n h0 h1 h ht) rfl rfl rfl rfl rfl (hC _ rfl) rfl rfl rfl ?_) | (refine r_arith rfl rfl rfl rfl rfl rfl rfl (by omega) ?_) | (with_reducible refine r_seq ?_) | (with_reducible refine x_then ?_) | (with_reducible refine r_region ?_) | (refine r_draw hM (by kernel_rfl) ?_) | (with_reducible refine r_skip ?_) | (with_reducible refine r_ret ?_) | (with_reducible refine x_then_ret ?_) | (with_reducible refine r_block ?_) | (with_reducible refine x_block ?_) | (with_reducible refine x_block_ret ?_) | (with_reducible refine r_exit ?_) | (with_reducible refine x_then_exit ?_) | (with_reducible refine x_block_here ?_) | (refine x_block_past rfl ?_) | (refine c_yes rfl (by omega) ?_) | (refine c_no rfl (by omega) ?_) | (refine c_no rfl (fun h => h rfl) ?_) | (refine r_cond_false rfl ?_) | (refine r_cond_true rfl ?_) | (refine r_cond_dec rfl (fun _ => ?_) (fun _ => ?_)) | (refine r_cond_true rfl ?_) | (refine r_cond_false rfl ?_) | (refine c_not rfl (fun _ => ?_) (fun _ => ?_)) | (refine r_off rfl rfl rfl ?_) | (refine q_guard rfl rfl (fun _ => ?_) (fun _ => ?_)) | (refine q_guardn rfl rfl (fun _ => ?_) (fun _ => ?_)))
  exact r_fin hT rfl (dec n) rfl rfl rfl trivial rfl ⟨rfl, rfl⟩
theorem itoa115 (n : Int) (h0 : -9223372036854775808 ≤ n) (h1 : n ≤ 9223372036854775807) (h : Hp) (ht : Tab10 h) : Pur Tryd.prog 115 [.v (.int .i64 n)] h (fun y : ByteArray => .v (.string y)) (dec n) := by
  refine enterS Tryd.func115 rfl (n := 5) rfl rfl (fun k N => ?_)
  repeat' (first | (refine r_pure hT rfl rfl rfl rfl ?_) | (refine r_new hT rfl rfl rfl rfl ?_) | (refine r_write hT rfl rfl rfl ?_) | (refine r_nil ?_) | (refine q_nil ?_) | (refine p_call (itoa144 n h0 h1 h ht) rfl rfl rfl rfl rfl (hC _ rfl) rfl rfl rfl ?_) | (refine r_arith rfl rfl rfl rfl rfl rfl rfl (by omega) ?_) | (with_reducible refine r_seq ?_) | (with_reducible refine x_then ?_) | (with_reducible refine r_region ?_) | (refine r_draw hM (by kernel_rfl) ?_) | (with_reducible refine r_skip ?_) | (with_reducible refine r_ret ?_) | (with_reducible refine x_then_ret ?_) | (with_reducible refine r_block ?_) | (with_reducible refine x_block ?_) | (with_reducible refine x_block_ret ?_) | (with_reducible refine r_exit ?_) | (with_reducible refine x_then_exit ?_) | (with_reducible refine x_block_here ?_) | (refine x_block_past rfl ?_) | (refine c_yes rfl (by omega) ?_) | (refine c_no rfl (by omega) ?_) | (refine c_no rfl (fun h => h rfl) ?_) | (refine r_cond_false rfl ?_) | (refine r_cond_true rfl ?_) | (refine r_cond_dec rfl (fun _ => ?_) (fun _ => ?_)) | (refine r_cond_true rfl ?_) | (refine r_cond_false rfl ?_) | (refine c_not rfl (fun _ => ?_) (fun _ => ?_)) | (refine r_off rfl rfl rfl ?_) | (refine q_guard rfl rfl (fun _ => ?_) (fun _ => ?_)) | (refine q_guardn rfl rfl (fun _ => ?_) (fun _ => ?_)))
  exact r_fin hT rfl (dec n) rfl rfl rfl trivial rfl ⟨rfl, rfl⟩
end Go.Proofs.YtkamfnmbidnhdaaDoor
namespace Go.Proofs.YtkamfnmbidnhdaaDoor
open Go.Sy
set_option maxRecDepth 100000
set_option maxHeartbeats 4000000
set_option linter.unusedVariables false
end Go.Proofs.YtkamfnmbidnhdaaDoor
/- The specification's decimal text. No condition. -/
namespace Go.Proofs.YtkamfnmbidnhdaaDoor
open Go.Sy
set_option maxRecDepth 100000
set_option maxHeartbeats 4000000
set_option linter.unusedVariables false
set_option linter.unusedSimpArgs false
end Go.Proofs.YtkamfnmbidnhdaaDoor
/- A quoted text: the plain function. -/
namespace Go.Sy
def hexT : ByteArray := ⟨#[48, 49, 50, 51, 52, 53, 54, 55, 56, 57, 97, 98, 99, 100, 101, 102]⟩
def hx (k : Nat) : UInt8 := hexT.data.toList.getD k 0
def q1 (b : UInt8) : List UInt8 := if (b.toNat : Int) = 34 ∨ (b.toNat : Int) = 92 then [92, b] else if (b.toNat : Int) < 32 ∨ 126 < (b.toNat : Int) then [92, hx (b.toNat / 16), hx (b.toNat % 16)] else [b]
def qt (l : List UInt8) : List UInt8 := 34 :: l.flatMap q1 ++ [34]
theorem q1_len (b : UInt8) : (q1 b).length ≤ 3 := by
  unfold q1
  split
  · simp
  · split <;> simp
theorem qs_len : ∀ l : List UInt8, (l.flatMap q1).length ≤ 3 * l.length
  | [] => by simp
  | b :: r => by
    have := qs_len r
    have := q1_len b
    rw [List.flatMap_cons, List.length_append, List.length_cons]; omega
theorem qt_len (l : List UInt8) : (qt l).length ≤ 3 * l.length + 2 := by
  have := qs_len l
  unfold qt
  rw [List.length_append, List.length_cons, List.length_singleton]; omega
theorem byt_at {s : ByteArray} {i : Nat} {b : UInt8} (h : s.data.toList[i]? = some b) : byt s i = b.toNat := by
  unfold byt
  rw [List.getD_eq_getElem?_getD, h]; rfl
end Go.Sy
/- The specification's quoted text. No condition. -/
namespace Go.Proofs.YtkamfnmbidnhdaaDoor
open Go.Sy
set_option maxRecDepth 100000
set_option maxHeartbeats 4000000
set_option linter.unusedVariables false
set_option linter.unusedSimpArgs false
/-- A heap without a row. -/
def ptw (u : Hp) (A : Option Addr) : Hp := fun b => if blk A = some b then none else u b
theorem ptw_le (u : Hp) (A : Option Addr) : Le (ptw u A) u := fun b o h => by
  unfold ptw at h
  split at h
  · cases h
  · exact h
theorem ptw_off (u : Hp) (A : Option Addr) : Off (ptw u A) A := fun b hb => by unfold ptw; rw [if_pos hb]
theorem ptw_grown {w v u : Hp} {A A' : Option Addr} (hG : Grown v u A A') (h : Le w v) : Le (ptw w A) u ∧ Off (ptw w A) A' := hG _ ((ptw_le w A).trans h) (ptw_off w A)
end Go.Proofs.YtkamfnmbidnhdaaDoor
/- strings.Builder, wherever it lies in a block. No condition. -/
namespace Go.Proofs.YtkamfnmbidnhdaaDoor
open Go.Sy
set_option maxRecDepth 100000
set_option maxHeartbeats 4000000
set_option linter.unusedVariables false
set_option linter.unusedSimpArgs false
def bdC (pre post : List Value) (ad : Value) (A : Option Addr) (n c : Nat) : List Value := pre ++ ad :: .slice A n c :: post
structure BSt (h0 u : Hp) (pb : Nat) (e : TypeId) (pre post : List Value) (ad : Value) (A : Option Addr) (c : Nat) (o : List UInt8) : Prop where
  cell : u pb = some (.cells (bdC pre post ad A o.length c).toArray e (0, 0))
  own : Own u A o.length c 5 1 (o.flatMap bc1)
  hd : HdA A
  adr : ad = .pointer none ∨ ad = .pointer (some ⟨pb, pre.length, none⟩)
  base : Le h0 u
  hp : h0 pb = none
  ho : Off h0 A
  ap : blk A ≠ some pb
/-- That a Builder lies there in a block of that type. -/
def LiesB (e : TypeId) (pre post : List Value) : Prop := liesAt Tryd.prog Tryd.prog.depth e ((pre.length + 2 + post.length) / Tryd.prog.cellsOf e) pre.length 93 1 = true
section
variable {h0 u : Hp} {pb : Nat} {e : TypeId} {pre post : List Value} {ad : Value} {A : Option Addr} {c : Nat} {o : List UInt8}
theorem bdC_len (pre post : List Value) (ad : Value) (A : Option Addr) (n c : Nat) : (bdC pre post ad A n c).length = pre.length + 2 + post.length := by simp [bdC]; omega
theorem BSt.at_ (h : BSt h0 u pb e pre post ad A c o) : At u pb pre.length [ad, .slice A o.length c] := ⟨_, _, _, h.cell, fun j v hj => by
  simp only [bdC, List.getElem?_toArray]
  rw [List.getElem?_append_right (by omega), show pre.length + j - pre.length = j by omega]
  match j, hj with
  | 0, hj => exact hj
  | 1, hj => exact hj⟩
theorem bdC_ad (v : Value) (n : Nat) : setL (bdC pre post ad A n c) pre.length [v] = bdC pre post v A n c := by
  unfold bdC
  rw [show pre.length = pre.length + 0 from rfl, setL_pre]; rfl
theorem bdC_sl (n : Nat) (A' : Option Addr) (m c' : Nat) : setL (bdC pre post ad A n c) (pre.length + 1) [.slice A' m c'] = bdC pre post ad A' m c' := by
  unfold bdC
  rw [setL_pre]; rfl
theorem BSt.ad_ (h : BSt h0 u pb e pre post ad A c o) : BSt h0 (upd u pb (.cells (bdC pre post (.pointer (some ⟨pb, pre.length, none⟩)) A o.length c).toArray e (0, 0))) pb e pre post (.pointer (some ⟨pb, pre.length, none⟩)) A c o :=
  ⟨upd_here .., h.own.le fun b o hb ho => by rw [upd_ne (fun e => h.ap (by rw [← e]; exact hb))]; exact ho, h.hd, .inr rfl, fun x o hx => by rw [upd_ne (fun e => by rw [e, h.hp] at hx; cases hx)]; exact h.base x o hx, h.hp, h.ho, h.ap⟩
end
/-- Blocks that are not the builder's stay, and are not its afterwards. -/
def KeepB (u : Hp) (pb : Nat) (A : Option Addr) (u' : Hp) (A' : Option Addr) : Prop := ∀ z ox, z ≠ pb → blk A ≠ some z → u z = some ox → u' z = some ox ∧ blk A' ≠ some z
theorem BSt.push {h0 u w u3 : Hp} {pb : Nat} {e : TypeId} {pre post : List Value} {ad : Value} {A A' : Option Addr} {c c' : Nat} {o x : List UInt8} (h : BSt h0 u pb e pre post ad A c o) (hw : Le u w) (hO : Own u3 A' (o.length + x.length) c' 5 1 (o.flatMap bc1 ++ x.flatMap bc1)) (hG : Grown w u3 A A') (hH : HdA A → HdA A') :
    u3 pb = some (.cells (bdC pre post ad A o.length c).toArray e (0, 0)) ∧ BSt h0 (upd u3 pb (.cells (bdC pre post ad A' (o.length + x.length) c').toArray e (0, 0))) pb e pre post ad A' c' (o ++ x) ∧ KeepB u pb A (upd u3 pb (.cells (bdC pre post ad A' (o.length + x.length) c').toArray e (0, 0))) A' := by
  obtain ⟨g1, g2⟩ := ptw_grown hG hw
  have kk : ∀ z ox, u z = some ox → blk A ≠ some z → u3 z = some ox ∧ blk A' ≠ some z := fun z ox hx hne => by
    have h1 : ptw u A z = some ox := by unfold ptw; rw [if_neg hne]; exact hx
    exact ⟨g1 z ox h1, fun e => by rw [g2 z e] at h1; cases h1⟩
  obtain ⟨c1, c2⟩ := kk _ _ h.cell h.ap
  have hl : (o ++ x).length = o.length + x.length := List.length_append
  refine ⟨c1, ⟨by rw [upd_here, hl], ?_, hH h.hd, h.adr, fun z ox hz => ?_, h.hp, fun b hb => ?_, c2⟩, fun z ox hz hA hu => ?_⟩
  · rw [hl, List.flatMap_append]
    exact hO.le fun b o hb ho => by rw [upd_ne (fun e => c2 (by rw [← e]; exact hb))]; exact ho
  · rw [upd_ne (fun e => by rw [e, h.hp] at hz; cases hz)]
    exact (kk z ox (h.base z ox hz) (fun e => by rw [h.ho z e] at hz; cases hz)).1
  · cases hh : h0 b with
    | none => rfl
    | some ox => exact absurd hb (kk b ox (h.base b ox hh) (fun e => by rw [h.ho b e] at hh; cases hh)).2
  · obtain ⟨k1, k2⟩ := kk z ox hu hA
    exact ⟨by rw [upd_ne hz]; exact k1, k2⟩
theorem info93 : (Tryd.prog.info? 93).map (·.size) = some 2 := by kernel_rfl
theorem copyCheck (h0 u : Hp) (pb : Nat) (e : TypeId) (pre post : List Value) (ad : Value) (A : Option Addr) (c : Nat) (o : List UInt8) (hB : BSt h0 u pb e pre post ad A c o) (hl : LiesB e pre post) :
    TriS Tryd.prog 139 [.v (.pointer (some ⟨pb, pre.length, none⟩))] [] u (fun _ : Unit => .tu []) (fun _ => [])
      (fun _ u' => BSt h0 u' pb e pre post (.pointer (some ⟨pb, pre.length, none⟩)) A c o ∧ ∀ z, z ≠ pb → u' z = u z) := by
  obtain ⟨j, hj, hjs⟩ := Option.map_eq_some_iff.1 info93
  have hat := hB.at_
  refine enterS Tryd.func139 rfl (n := 20) rfl rfl (fun k N => ?_)
  rcases hB.adr with rfl | rfl
  · have hsz : (bdC pre post (.pointer none) A o.length c).toArray.size = pre.length + 2 + post.length := by simpa using bdC_len pre post (.pointer none) A o.length c
    repeat' (first | (refine r_pure hT rfl rfl rfl rfl ?_) | (refine r_new hT rfl rfl rfl rfl ?_) | (refine r_write hT rfl rfl rfl ?_) | (refine r_nil ?_) | (refine q_nil ?_) | (refine r_load hT hat rfl rfl rfl rfl rfl rfl rfl rfl rfl rfl rfl ?_) | (refine r_ptrnil Tryd.underlying91 rfl rfl rfl rfl rfl rfl ?_) | (refine r_tounsafe Tryd.underlying91 Tryd.underlying198 hj (by rw [hjs]; decide) hB.cell (by rw [hsz]; show pre.length < _; omega) rfl rfl rfl rfl rfl ?_) | (refine r_noescape Tryd.func164 (by kernel_rfl) (by kernel_rfl) (by kernel_rfl) (by kernel_rfl) rfl rfl rfl rfl rfl ?_) | (refine r_fromunsafe Tryd.underlying198 Tryd.underlying91 hj hB.cell (by rw [hsz]; exact hl) rfl rfl rfl rfl rfl ?_) | (refine r_store hT rfl rfl rfl rfl rfl rfl rfl rfl rfl rfl hB.cell (by rw [hsz]; show pre.length + 1 ≤ _; omega) ?_) | (refine r_arith rfl rfl rfl rfl rfl rfl rfl (by omega) ?_) | (with_reducible refine r_seq ?_) | (with_reducible refine x_then ?_) | (with_reducible refine r_region ?_) | (refine r_draw hM (by kernel_rfl) ?_) | (with_reducible refine r_skip ?_) | (with_reducible refine r_ret ?_) | (with_reducible refine x_then_ret ?_) | (with_reducible refine r_block ?_) | (with_reducible refine x_block ?_) | (with_reducible refine x_block_ret ?_) | (with_reducible refine r_exit ?_) | (with_reducible refine x_then_exit ?_) | (with_reducible refine x_block_here ?_) | (refine x_block_past rfl ?_) | (refine c_yes rfl (by omega) ?_) | (refine c_no rfl (by omega) ?_) | (refine c_no rfl (fun h => h rfl) ?_) | (refine r_cond_false rfl ?_) | (refine r_cond_true rfl ?_) | (refine r_cond_dec rfl (fun _ => ?_) (fun _ => ?_)) | (refine r_cond_true rfl ?_) | (refine r_cond_false rfl ?_) | (refine c_not rfl (fun _ => ?_) (fun _ => ?_)) | (refine r_off rfl rfl rfl ?_) | (refine q_guard rfl rfl (fun _ => ?_) (fun _ => ?_)) | (refine q_guardn rfl rfl (fun _ => ?_) (fun _ => ?_)))
    have e1 : setL (bdC pre post (.pointer none) A o.length c).toArray.toList (pre.length + 0) [.pointer (some ⟨pb, pre.length, none⟩)] = bdC pre post (.pointer (some ⟨pb, pre.length, none⟩)) A o.length c := bdC_ad _ _
    rw [e1]
    exact r_fin hT rfl () rfl rfl rfl trivial rfl ⟨hB.ad_, fun z hz => upd_ne hz⟩
  · repeat' (first | (refine r_pure hT rfl rfl rfl rfl ?_) | (refine r_new hT rfl rfl rfl rfl ?_) | (refine r_write hT rfl rfl rfl ?_) | (refine r_nil ?_) | (refine q_nil ?_) | (refine r_load hT hat rfl rfl rfl rfl rfl rfl rfl rfl rfl rfl rfl ?_) | (refine r_ptrnil Tryd.underlying91 rfl rfl rfl rfl rfl rfl ?_) | (refine r_ptrsame Tryd.underlying91 hj rfl rfl rfl rfl rfl rfl ?_) | (refine r_arith rfl rfl rfl rfl rfl rfl rfl (by omega) ?_) | (with_reducible refine r_seq ?_) | (with_reducible refine x_then ?_) | (with_reducible refine r_region ?_) | (refine r_draw hM (by kernel_rfl) ?_) | (with_reducible refine r_skip ?_) | (with_reducible refine r_ret ?_) | (with_reducible refine x_then_ret ?_) | (with_reducible refine r_block ?_) | (with_reducible refine x_block ?_) | (with_reducible refine x_block_ret ?_) | (with_reducible refine r_exit ?_) | (with_reducible refine x_then_exit ?_) | (with_reducible refine x_block_here ?_) | (refine x_block_past rfl ?_) | (refine c_yes rfl (by omega) ?_) | (refine c_no rfl (by omega) ?_) | (refine c_no rfl (fun h => h rfl) ?_) | (refine r_cond_false rfl ?_) | (refine r_cond_true rfl ?_) | (refine r_cond_dec rfl (fun _ => ?_) (fun _ => ?_)) | (refine r_cond_true rfl ?_) | (refine r_cond_false rfl ?_) | (refine c_not rfl (fun _ => ?_) (fun _ => ?_)) | (refine r_off rfl rfl rfl ?_) | (refine q_guard rfl rfl (fun _ => ?_) (fun _ => ?_)) | (refine q_guardn rfl rfl (fun _ => ?_) (fun _ => ?_)))
    exact r_fin hT rfl () rfl rfl rfl trivial rfl ⟨hB, fun z hz => rfl⟩
theorem writeS (h0 u : Hp) (pb : Nat) (e : TypeId) (pre post : List Value) (ad : Value) (A : Option Addr) (c : Nat) (o : List UInt8) (s : ByteArray) (hB : BSt h0 u pb e pre post ad A c o) (hl : LiesB e pre post) (hs : o.length + s.size ≤ 1000000000) :
    TriS Tryd.prog 109 [.v (.pointer (some ⟨pb, pre.length, none⟩)), .v (.string s)] [] u (fun _ : Option Addr × Nat => .tu [.v (.int .i64 (s.size : Int)), .v .nilIface]) (fun _ => [])
      (fun y u' => BSt h0 u' pb e pre post (.pointer (some ⟨pb, pre.length, none⟩)) y.1 y.2 (o ++ s.data.toList) ∧ KeepB u pb A u' y.1) := by
  refine enterS Tryd.func109 rfl (n := 19) rfl rfl (fun k N => ?_)
  repeat' (first | (refine r_pure hT rfl rfl rfl rfl ?_) | (refine r_new hT rfl rfl rfl rfl ?_) | (refine r_write hT rfl rfl rfl ?_) | (refine r_nil ?_) | (refine q_nil ?_) | (refine r_call (copyCheck h0 u pb e pre post ad A c o hB hl) rfl rfl rfl rfl rfl (hC _ rfl) rfl rfl (fun _ u1 hy => ?_)) | (refine r_arith rfl rfl rfl rfl rfl rfl rfl (by omega) ?_) | (with_reducible refine r_seq ?_) | (with_reducible refine x_then ?_) | (with_reducible refine r_region ?_) | (refine r_draw hM (by kernel_rfl) ?_) | (with_reducible refine r_skip ?_) | (with_reducible refine r_ret ?_) | (with_reducible refine x_then_ret ?_) | (with_reducible refine r_block ?_) | (with_reducible refine x_block ?_) | (with_reducible refine x_block_ret ?_) | (with_reducible refine r_exit ?_) | (with_reducible refine x_then_exit ?_) | (with_reducible refine x_block_here ?_) | (refine x_block_past rfl ?_) | (refine c_yes rfl (by omega) ?_) | (refine c_no rfl (by omega) ?_) | (refine c_no rfl (fun h => h rfl) ?_) | (refine r_cond_false rfl ?_) | (refine r_cond_true rfl ?_) | (refine r_cond_dec rfl (fun _ => ?_) (fun _ => ?_)) | (refine r_cond_true rfl ?_) | (refine r_cond_false rfl ?_) | (refine c_not rfl (fun _ => ?_) (fun _ => ?_)) | (refine r_off rfl rfl rfl ?_) | (refine q_guard rfl rfl (fun _ => ?_) (fun _ => ?_)) | (refine q_guardn rfl rfl (fun _ => ?_) (fun _ => ?_)))
  obtain ⟨hB1, hz1⟩ := hy
  have hat := hB1.at_
  have hsz : ∀ n : Nat, (bdC pre post (.pointer (some ⟨pb, pre.length, none⟩)) A n c).toArray.size = pre.length + 2 + post.length := fun n => by simpa using bdC_len pre post (.pointer (some ⟨pb, pre.length, none⟩)) A n c
  repeat' (first | (refine r_pure hT rfl rfl rfl rfl ?_) | (refine r_new hT rfl rfl rfl rfl ?_) | (refine r_write hT rfl rfl rfl ?_) | (refine r_nil ?_) | (refine q_nil ?_) | (refine r_load hT hat rfl rfl rfl rfl rfl rfl rfl rfl rfl rfl rfl ?_) | ((refine r_append_str0 hT rfl rfl rfl rfl rfl rfl rfl rfl rfl rfl rfl rfl rfl hB1.own (by omega) (fun A' c' u3 hO3 hG3 hH3 => ?_) ; rw [← bc1_bytes] at hO3 ; obtain ⟨hc3, hB3, hK3⟩ := hB1.push (x := s.data.toList) (Le.refl u1) hO3 hG3 hH3)) | (refine r_store hT rfl rfl rfl rfl rfl rfl rfl rfl rfl rfl hc3 (by rw [hsz]; show pre.length + 1 + 1 ≤ _; omega) ?_) | (refine r_arith rfl rfl rfl rfl rfl rfl rfl (by omega) ?_) | (with_reducible refine r_seq ?_) | (with_reducible refine x_then ?_) | (with_reducible refine r_region ?_) | (refine r_draw hM (by kernel_rfl) ?_) | (with_reducible refine r_skip ?_) | (with_reducible refine r_ret ?_) | (with_reducible refine x_then_ret ?_) | (with_reducible refine r_block ?_) | (with_reducible refine x_block ?_) | (with_reducible refine x_block_ret ?_) | (with_reducible refine r_exit ?_) | (with_reducible refine x_then_exit ?_) | (with_reducible refine x_block_here ?_) | (refine x_block_past rfl ?_) | (refine c_yes rfl (by omega) ?_) | (refine c_no rfl (by omega) ?_) | (refine c_no rfl (fun h => h rfl) ?_) | (refine r_cond_false rfl ?_) | (refine r_cond_true rfl ?_) | (refine r_cond_dec rfl (fun _ => ?_) (fun _ => ?_)) | (refine r_cond_true rfl ?_) | (refine r_cond_false rfl ?_) | (refine c_not rfl (fun _ => ?_) (fun _ => ?_)) | (refine r_off rfl rfl rfl ?_) | (refine q_guard rfl rfl (fun _ => ?_) (fun _ => ?_)) | (refine q_guardn rfl rfl (fun _ => ?_) (fun _ => ?_)))
  have e1 : setL (bdC pre post (.pointer (some ⟨pb, pre.length, none⟩)) A o.length c).toArray.toList (pre.length + 1) [.slice A' (o.length + s.size) c'] = bdC pre post (.pointer (some ⟨pb, pre.length, none⟩)) A' (o.length + s.size) c' := bdC_sl _ _ _ _
  rw [e1]
  exact r_fin hT rfl ((A', c') : Option Addr × Nat) rfl rfl rfl trivial rfl ⟨hB3, fun z ox hz hA hu => hK3 z ox hz hA (by rw [hz1 z hz]; exact hu)⟩
end Go.Proofs.YtkamfnmbidnhdaaDoor
/- A Builder's text. No condition. -/
namespace Go.Proofs.YtkamfnmbidnhdaaDoor
open Go.Sy
set_option maxRecDepth 100000
set_option maxHeartbeats 4000000
set_option linter.unusedVariables false
set_option linter.unusedSimpArgs false
theorem cellsU8 : Tryd.prog.cellsOf 5 = 1 := by kernel_rfl
theorem ptw_keep {u u5 : Hp} {g : Nat} (hu5 : ∀ z, z ≠ g → u5 z = u z) : Le (ptw u (some ⟨g, 0, none⟩)) u5 := fun z ox hz => by
  unfold ptw at hz
  split at hz
  · cases hz
  · rename_i hzz; rw [hu5 z (fun e => hzz (by rw [e]; rfl))]; exact hz
theorem stringB (h0 u : Hp) (pb : Nat) (e : TypeId) (pre post : List Value) (ad : Value) (A : Option Addr) (c : Nat) (o : List UInt8) (hB : BSt h0 u pb e pre post ad A c o) (hne : o ≠ []) (hs : o.length ≤ 1000000000) :
    TriS Tryd.prog 72 [.v (.pointer (some ⟨pb, pre.length, none⟩))] [] u (fun _ : Unit => .v (.string ⟨o.toArray⟩)) (fun _ => []) (fun _ u' => ∀ z ox, blk A ≠ some z → u z = some ox → u' z = some ox) := by
  have hpos : 0 < o.length := by cases o with | nil => exact absurd rfl hne | cons a r => simp
  obtain ⟨g, off, rfl⟩ := own_some hB.own hpos
  obtain rfl : off = 0 := hB.hd _ rfl
  have hcap := hB.own.cap
  have hat0 := hB.at_
  have hat : At (ptw u (some ⟨g, 0, none⟩)) pb pre.length [ad, .slice (some ⟨g, 0, none⟩) o.length c] := by
    obtain ⟨arr, t, fr, g1, g2⟩ := hat0
    exact ⟨arr, t, fr, by unfold ptw; rw [if_neg hB.ap]; exact g1, g2⟩
  refine enterS Tryd.func72 rfl (n := 14) rfl rfl (fun k N => ?_)
  repeat' (first | (refine r_pure hT rfl rfl rfl rfl ?_) | (refine r_new hT rfl rfl rfl rfl ?_) | (refine r_write hT rfl rfl rfl ?_) | (refine r_nil ?_) | (refine q_nil ?_) | (refine r_many (id := 1) [0, 1, 2, 3, 5, 6, 7, 8, 9] [] (ptw u (some ⟨g, 0, none⟩)) (ptw_le u _) hM (by kernel_rfl) rfl (by kernel_rfl) rfl rfl rfl (fun β0 => ?_)) | (refine r_load hT hat rfl rfl rfl rfl rfl rfl rfl rfl rfl rfl rfl ?_) | (refine r_sldata (by omega) rfl rfl rfl rfl rfl ?_) | (refine m_keep (ptw_le u _) trivial rfl rfl ?_) | (refine r_ustring (bs := o) Tryd.underlying151 cellsU8 hne (by omega) rfl hB.own rfl rfl rfl rfl rfl rfl (fun u5 hu5 => ?_)) | (refine m_keep (ptw_keep hu5) trivial rfl rfl ?_) | (refine r_arith rfl rfl rfl rfl rfl rfl rfl (by omega) ?_) | (with_reducible refine r_seq ?_) | (with_reducible refine x_then ?_) | (with_reducible refine r_region ?_) | (with_reducible refine r_skip ?_) | (with_reducible refine r_ret ?_) | (with_reducible refine x_then_ret ?_) | (with_reducible refine r_block ?_) | (with_reducible refine x_block ?_) | (with_reducible refine x_block_ret ?_) | (with_reducible refine r_exit ?_) | (with_reducible refine x_then_exit ?_) | (with_reducible refine x_block_here ?_) | (refine x_block_past rfl ?_) | (refine c_yes rfl (by omega) ?_) | (refine c_no rfl (by omega) ?_) | (refine c_no rfl (fun h => h rfl) ?_) | (refine r_cond_false rfl ?_) | (refine r_cond_true rfl ?_) | (refine r_cond_dec rfl (fun _ => ?_) (fun _ => ?_)) | (refine r_cond_true rfl ?_) | (refine r_cond_false rfl ?_) | (refine c_not rfl (fun _ => ?_) (fun _ => ?_)) | (refine r_off rfl rfl rfl ?_) | (refine q_guard rfl rfl (fun _ => ?_) (fun _ => ?_)) | (refine q_guardn rfl rfl (fun _ => ?_) (fun _ => ?_)) | (refine s_nil ?_) | (with_reducible refine a_full ?_) | (refine m_step rfl rfl (List.cons_ne_nil _ _) ?_) | (refine allR_cons rfl ?_ ?_) | (exact allR_nil) | (refine m_end rfl rfl rfl ?_))
  exact r_fin hT rfl () rfl rfl rfl trivial rfl (fun z ox hz hu => by rw [hu5 z (fun e => hz (by rw [e]; rfl))]; exact hu)
end Go.Proofs.YtkamfnmbidnhdaaDoor
/- A simple value's text: the plain function. -/
namespace Go.Sy
def plT (v : V) : List UInt8 := if v.k = 1 then (if v.n = 1 then [116, 114, 117, 101] else [102, 97, 108, 115, 101]) else if v.k = 2 then Lib.itoa v.n else if v.k = 3 then qt v.s.data.toList else [110, 105, 108]
/-- A value whose number is an int64 and whose text is not too long. -/
def V.fit (v : V) : Prop := (-9223372036854775808 ≤ v.n ∧ v.n ≤ 9223372036854775807) ∧ v.s.size ≤ 1000000
end Go.Sy
/- The specification's text of a simple value; its writer. No condition. -/
namespace Go.Proofs.YtkamfnmbidnhdaaDoor
open Go.Sy
set_option maxRecDepth 100000
set_option maxHeartbeats 4000000
set_option linter.unusedVariables false
set_option linter.unusedSimpArgs false
end Go.Proofs.YtkamfnmbidnhdaaDoor
/- A graph's text: the plain law. Labels in the order in which tables are met; a table that is led to once needs none. -/
namespace Go.Sy
set_option linter.unusedVariables false
structure TS where
  L : List Nat
  o : List UInt8
section
variable (ts : List (List Pr)) (m : Nat → Bool) (pl : V → List UInt8) (dc : Nat → List UInt8)
def txp (g : TS → V → Option TS) : Bool → List Pr → TS → Option TS
  | _, [], s => some s
  | b, p :: r, s => match g ⟨s.L, s.o ++ (if b then [44, 32] else []) ++ pl p.key ++ [58, 32]⟩ p.val with
    | none => none
    | some s' => txp g true r s'
def tx0 (s : TS) (a : Nat) : TS := if m a then ⟨s.L ++ [a], s.o ++ (35 :: dc (s.L.length + 1) ++ [61]) ++ [123]⟩ else ⟨s.L, s.o ++ [123]⟩
def tx : Nat → TS → V → Option TS
  | 0, _, _ => none
  | f + 1, s, v => if v.k = 4 then
      if v.a.toNat ∈ s.L then some ⟨s.L, s.o ++ (35 :: dc (s.L.idxOf v.a.toNat + 1))⟩
      else match txp pl (tx f) false (ts.getD v.a.toNat []) (tx0 m dc s v.a.toNat) with
        | none => none
        | some s' => some ⟨s'.L, s'.o ++ [125]⟩
    else some ⟨s.L, s.o ++ pl v⟩
end
section
variable {ts : List (List Pr)} {m : Nat → Bool} {pl : V → List UInt8} {dc : Nat → List UInt8}
/-- What is asked of a graph whose text is wanted: c bounds each simple text. -/
structure FzOk (ts : List (List Pr)) (pl : V → List UInt8) (dc : Nat → List UInt8) (c : Nat) : Prop where
  inn : AllIn ts
  len : ∀ t ∈ ts, t.length ≤ 100
  txt : ∀ t ∈ ts, ∀ p ∈ t, (pl p.key).length ≤ c ∧ (pl p.val).length ≤ c
  dec : ∀ k, k ≤ ts.length → (dc k).length ≤ c
end
end Go.Sy
/- A graph's text: what is led to, and the text of the graph in canonical order. Plain. -/
namespace Go.Sy
set_option linter.unusedVariables false
section
variable {ts : List (List Pr)}
end
end Go.Sy
/- Rows of counts and of labels. Plain. -/
namespace Go.Sy
def ledV (n : Nat) (rs : List Nat) : List Value := (List.range n).map fun a => .int .i64 ((rs.count a : Nat) : Int)
def labV (n : Nat) (L : List Nat) : List Value := (List.range n).map fun a => .int .i64 (if a ∈ L then ((L.idxOf a + 1 : Nat) : Int) else 0)
variable {ts : List (List Pr)}
section
variable {m : Nat → Bool} {pl : V → List UInt8} {dc : Nat → List UInt8}
def TS.Le (s r : TS) : Prop := s.L.length ≤ r.L.length ∧ s.o.length ≤ r.o.length
theorem TS.Le.trans {a b c : TS} (h : a.Le b) (g : b.Le c) : a.Le c := ⟨Nat.le_trans h.1 g.1, Nat.le_trans h.2 g.2⟩
end
end Go.Sy
namespace Go.Proofs.YtkamfnmbidnhdaaDoor
open Go.Sy
theorem text_eq {a b : ByteArray} : a.toList = b.toList ↔ a = b := by
  constructor
  · intro h
    rw [ByteArray.toList_eq, ByteArray.toList_eq] at h
    obtain ⟨⟨x⟩⟩ := a
    obtain ⟨⟨y⟩⟩ := b
    simp at h; rw [h]
  · intro h; rw [h]
instance : DecidableEq V := fun x y => decidable_of_iff (x.k = y.k ∧ x.n = y.n ∧ x.s.toList = y.s.toList ∧ x.a = y.a) (by
  cases x; cases y; simp [text_eq])
theorem eq48 (d : Nat) (w : World) (x y : V) : (Op.equalIn (d + 2) 48 (.agg x.c.toArray) (.agg y.c.toArray)).run Tryd.prog w = .ok (decide (x = y)) w := by
  rw [run_equalIn_struct w (d + 1) 48 _ _ (by rw [Program.fieldsOf, Tryd.underlying48]) (by kernel_rfl)]
  have e : decide (x = y) = (x.k == y.k && (x.n == y.n && (x.s.toList == y.s.toList && x.a == y.a))) := by
    rw [Bool.eq_iff_iff]
    cases x; cases y
    simp [V.mk.injEq, text_eq]
  rw [e]
  simp only [Program.fieldsOf, Tryd.underlying48, V.c, Op.eqFields]
  go_simp
  cases h1 : (x.k == y.k) <;> cases h2 : (x.n == y.n) <;> cases h3 : (x.s.toList == y.s.toList) <;> cases h4 : (x.a == y.a) <;> simp_all
end Go.Proofs.YtkamfnmbidnhdaaDoor
namespace Go.Proofs.YtkamfnmbidnhdaaDoor
open Go.Sy
set_option maxRecDepth 100000
set_option maxHeartbeats 4000000
set_option linter.unusedVariables false
/-- A value that a graph of n tables may hold. -/
def VOk (v : V) (n : Nat) : Prop :=
  (v.k = 0 ∧ v.n = 0 ∧ v.s.toList = [] ∧ v.a = 0) ∨ (v.k = 1 ∧ (v.n = 0 ∨ v.n = 1) ∧ v.s.toList = [] ∧ v.a = 0) ∨ (v.k = 2 ∧ v.s.toList = [] ∧ v.a = 0) ∨
    (v.k = 3 ∧ v.n = 0 ∧ v.a = 0 ∧ v.s.size ≤ 500) ∨ (v.k = 4 ∧ v.n = 0 ∧ v.s.toList = [] ∧ 0 ≤ v.a ∧ v.a < n)
instance (v : V) (n : Nat) : Decidable (VOk v n) := by unfold VOk; infer_instance
def KOk (v : V) : Prop := (v.k = 1 ∨ v.k = 2 ∨ v.k = 3) ∧ VOk v 0
instance (v : V) : Decidable (KOk v) := by unfold KOk; infer_instance
theorem nil_list : (ByteArray.mk ⟨[]⟩).toList = [] := by decide +kernel
theorem l2val (v g : V) (A : Option Addr) (n c : Nat) (h : Hp) : Pur Tryd.prog 101 [.ag (gsv g A n c), .ag v.sv] h (fun y : Bool => .v (.bool y)) (decide (VOk v n)) := by
  refine enterS Tryd.func101 rfl (n := 91) rfl rfl (fun k N => ?_)
  repeat' (first | (refine r_pure hT rfl rfl rfl rfl ?_) | (refine r_new hT rfl rfl rfl rfl ?_) | (refine r_write hT rfl rfl rfl ?_) | (refine r_nil ?_) | (refine q_nil ?_) | (refine r_arith rfl rfl rfl rfl rfl rfl rfl (by omega) ?_) | (with_reducible refine r_seq ?_) | (with_reducible refine x_then ?_) | (with_reducible refine r_region ?_) | (refine r_draw hM (by kernel_rfl) ?_) | (with_reducible refine r_skip ?_) | (with_reducible refine r_ret ?_) | (with_reducible refine x_then_ret ?_) | (with_reducible refine r_block ?_) | (with_reducible refine x_block ?_) | (with_reducible refine x_block_ret ?_) | (with_reducible refine r_exit ?_) | (with_reducible refine x_then_exit ?_) | (with_reducible refine x_block_here ?_) | (refine x_block_past rfl ?_) | (refine c_yes rfl (by omega) ?_) | (refine c_no rfl (by omega) ?_) | (refine c_no rfl (fun h => h rfl) ?_) | (refine r_cond_false rfl ?_) | (refine r_cond_true rfl ?_) | (refine r_cond_dec rfl (fun _ => ?_) (fun _ => ?_)) | (refine r_cond_true rfl ?_) | (refine r_cond_false rfl ?_) | (refine c_not rfl (fun _ => ?_) (fun _ => ?_)) | (refine r_off rfl rfl rfl ?_) | (refine q_guard rfl rfl (fun _ => ?_) (fun _ => ?_)) | (refine q_guardn rfl rfl (fun _ => ?_) (fun _ => ?_)))
  all_goals exact r_fin hT rfl _ rfl rfl rfl trivial rfl ⟨by (try simp only [nil_list] at *); simp_all [VOk] <;> omega, rfl⟩
theorem l2key (v : V) (h : Hp) : Pur Tryd.prog 102 [.ag v.sv] h (fun y : Bool => .v (.bool y)) (decide (KOk v)) := by
  refine enterS Tryd.func102 rfl (n := 21) rfl rfl (fun k N => ?_)
  repeat' (first | (refine r_pure hT rfl rfl rfl rfl ?_) | (refine r_new hT rfl rfl rfl rfl ?_) | (refine r_write hT rfl rfl rfl ?_) | (refine r_nil ?_) | (refine q_nil ?_) | (refine r_build hT rfl rfl rfl rfl rfl rfl rfl rfl rfl ?_) | (refine p_call (l2val v ⟨0, 0, ⟨⟨[]⟩⟩, 0⟩ none 0 0 _) rfl rfl rfl rfl rfl (hC _ rfl) rfl rfl rfl ?_) | (refine r_arith rfl rfl rfl rfl rfl rfl rfl (by omega) ?_) | (with_reducible refine r_seq ?_) | (with_reducible refine x_then ?_) | (with_reducible refine r_region ?_) | (refine r_draw hM (by kernel_rfl) ?_) | (with_reducible refine r_skip ?_) | (with_reducible refine r_ret ?_) | (with_reducible refine x_then_ret ?_) | (with_reducible refine r_block ?_) | (with_reducible refine x_block ?_) | (with_reducible refine x_block_ret ?_) | (with_reducible refine r_exit ?_) | (with_reducible refine x_then_exit ?_) | (with_reducible refine x_block_here ?_) | (refine x_block_past rfl ?_) | (refine c_yes rfl (by omega) ?_) | (refine c_no rfl (by omega) ?_) | (refine c_no rfl (fun h => h rfl) ?_) | (refine r_cond_false rfl ?_) | (refine r_cond_true rfl ?_) | (refine r_cond_dec rfl (fun _ => ?_) (fun _ => ?_)) | (refine r_cond_true rfl ?_) | (refine r_cond_false rfl ?_) | (refine c_not rfl (fun _ => ?_) (fun _ => ?_)) | (refine r_off rfl rfl rfl ?_) | (refine q_guard rfl rfl (fun _ => ?_) (fun _ => ?_)) | (refine q_guardn rfl rfl (fun _ => ?_) (fun _ => ?_)))
  all_goals exact r_fin hT rfl _ rfl rfl rfl trivial rfl ⟨by simp_all [KOk], rfl⟩
end Go.Proofs.YtkamfnmbidnhdaaDoor
namespace Go.Proofs.YtkamfnmbidnhdaaDoor
open Go.Sy Go.RowKit Go.ChangeMaps Go.MapKept
set_option maxRecDepth 100000
set_option maxHeartbeats 4000000
set_option linter.unusedVariables false
def iKey (x : Int) : Value := .int .i64 x
theorem i_now (x : Int) : ∀ (l : List Int) (es : List MapEntry) (i : Nat), es.map (·.key) = l.map iKey →
    Instr.findNow (.int .i64) (iKey x) es i = some (match l.findIdx? (fun y => decide (x = y)) with | some j => (es[j]?).map (fun e => (i + j, e.val)) | none => none)
  | [], es, i, h => by
    have : es = [] := by simpa using h
    subst this; rfl
  | y :: l, [], i, h => by simp at h
  | y :: l, e :: es, i, h => by
    simp only [List.map_cons, List.cons.injEq] at h
    obtain ⟨h1, h2⟩ := h
    have ih := i_now x l es (i + 1) h2
    by_cases hx : x = y
    · simp [Instr.findNow, h1, iKey, Instr.sameNow, List.findIdx?_cons, hx]
    · simp only [Instr.findNow, h1, Instr.sameNow, iKey, if_true, beq_eq_false_iff_ne.2 hx, List.findIdx?_cons, decide_eq_false hx]
      simp only [iKey] at ih
      rw [ih]
      cases l.findIdx? (fun y => decide (x = y)) with
      | none => rfl
      | some j => simp [Nat.add_assoc, Nat.add_comm 1 j]
theorem iKey_check (em : Bool) (m : Nat) (w : World) (x : Int) : (Instr.checkKey em (m + 1) 3 (iKey x)).run Tryd.prog w = .ok () w := by
  simp [Instr.checkKey, iKey, run_underlying Tryd.underlying3]
theorem iKeyOps : KeyOps Tryd.prog 3 iKey where
  check w em x := iKey_check em 9999 w x
  find w x l es h := by
    have := i_now x l es 0 h
    simp [Instr.findKey, run_underlying Tryd.underlying3, this]
    cases l.findIdx? (fun y => decide (x = y)) <;> rfl
  stays w x := by simp [Instr.keyThatStays, Instr.sameBits, iKey]
def vKey (v : V) : Value := .agg v.c.toArray
theorem vKey_eq (w : World) (x y : V) : (Op.equal 48 (vKey x) (vKey y)).run Tryd.prog w = .ok (decide (x = y)) w := eq48 9998 w x y
theorem v_asking (w : World) (x : V) : ∀ (l : List V) (es : List MapEntry) (i : Nat), es.map (·.key) = l.map vKey →
    (Instr.findAsking 48 (vKey x) es i).run Tryd.prog w = .ok (match l.findIdx? (fun y => decide (x = y)) with | some j => (es[j]?).map (fun e => (i + j, e.val)) | none => none) w
  | [], es, i, h => by
    have : es = [] := by simpa using h
    subst this
    simp [Instr.findAsking]
  | y :: l, [], i, h => by simp at h
  | y :: l, e :: es, i, h => by
    simp only [List.map_cons, List.cons.injEq] at h
    obtain ⟨h1, h2⟩ := h
    have ih := v_asking w x l es (i + 1) h2
    by_cases hx : x = y
    · simp [Instr.findAsking, h1, vKey_eq, Result.andThen, List.findIdx?_cons, hx]
    · simp only [Instr.findAsking, h1, Sem.run_bind, vKey_eq, Result.andThen, decide_eq_false hx, List.findIdx?_cons, ih, Bool.false_eq_true, if_false]
      cases l.findIdx? (fun y => decide (x = y)) with
      | none => rfl
      | some j => simp [Nat.add_assoc, Nat.add_comm 1 j]
theorem text_self (s : ByteArray) : (s == s) = true := by
  cases s with | mk d =>
  show (d == d) = true
  simp
theorem vKey_check (em : Bool) (n : Nat) (w : World) (x : V) : (Instr.checkKey em (n + 2) 48 (vKey x)).run Tryd.prog w = .ok () w := by
  have hu := Tryd.underlying48
  have hi : ∀ (m : Nat) (a : Int), (Instr.checkKey em (m + 1) 3 (.int .i64 a)).run Tryd.prog w = .ok () w := fun m a => by simp [Instr.checkKey, run_underlying Tryd.underlying3]
  have hs : ∀ (m : Nat) (a : ByteArray), (Instr.checkKey em (m + 1) 9 (.string a)).run Tryd.prog w = .ok () w := fun m a => by simp [Instr.checkKey, run_underlying Tryd.underlying9]
  have hj : ∀ (m : Nat) (a : Int), (Instr.checkKey em (m + 1) 2 (.int .i64 a)).run Tryd.prog w = .ok () w := fun m a => by simp [Instr.checkKey, run_underlying Tryd.underlying2]
  rw [Instr.checkKey, Sem.run_bind, run_underlying hu]
  simp only [vKey, V.c, Result.andThen]
  go_simp
theorem vKeyOps : KeyOps Tryd.prog 48 vKey where
  check w em x := vKey_check em 9998 w x
  find w x l es h := by
    have hu := Tryd.underlying48
    refine (run_findKey_eq (P := Tryd.prog) (k := 48) (w := w) (by rw [hu]) (vKey x) es).trans ?_
    rw [v_asking w x l es 0 h]
    cases l.findIdx? (fun y => decide (x = y)) <;> simp
  stays w x := by
    simp [Instr.keyThatStays, Instr.sameBits, vKey, V.c, text_self]
def lowBit (x : Int) : Int := if (BitVec.ofInt 64 x).toNat % 2 = 1 then 1 else 0
theorem lowBit_run (x : Int) : Op.intBits .and .i64 x 1 = pure (.int .i64 (lowBit x)) := by
  unfold Op.intBits lowBit
  simp only
  have h : (BitVec.ofInt IntKind.i64.bits x &&& BitVec.ofInt IntKind.i64.bits 1).toNat = (BitVec.ofInt 64 x).toNat % 2 := by
    show (BitVec.ofInt 64 x &&& 1#64).toNat = _
    rw [BitVec.toNat_and]
    exact Nat.and_one_is_mod _
  rw [h]
  have h2 : (BitVec.ofInt 64 x).toNat % 2 < 2 := Nat.mod_lt _ (by omega)
  split
  · rename_i h3; rw [h3]; rfl
  · rename_i h3
    have : (BitVec.ofInt 64 x).toNat % 2 = 0 := by omega
    rw [this]; rfl
theorem lowBit_iff (x : Int) : lowBit x = x ↔ x = 0 ∨ x = 1 := by
  constructor
  · intro h
    unfold lowBit at h
    split at h <;> omega
  · rintro (rfl | rfl) <;> decide
theorem eq29f (w : World) (k n : Int) (s : ByteArray) (a : Int) (y : V) : (Op.equalIn Op.maxDepth 48 (.agg [.int .i64 k, .int .i64 n, .string s, .int .i64 a].toArray) (.agg y.c.toArray)).run Tryd.prog w = .ok (decide ((⟨k, n, s, a⟩ : V) = y)) w := eq48 9998 w ⟨k, n, s, a⟩ y
theorem v_eq {k n : Int} {s : ByteArray} {a : Int} {v : V} : ((⟨k, n, s, a⟩ : V) = v) ↔ v.k = k ∧ v.n = n ∧ v.s.toList = s.toList ∧ v.a = a := by
  cases v
  simp only [V.mk.injEq, text_eq]
  constructor <;> (rintro ⟨rfl, rfl, rfl, rfl⟩; exact ⟨rfl, rfl, rfl, rfl⟩)
theorem size_nil (s : ByteArray) (h : s.toList = []) : s.size = 0 := by
  rw [ByteArray.toList_eq] at h
  obtain ⟨⟨x⟩⟩ := s
  simp at h; subst h; rfl
theorem lowBit_iff' {x : Int} : x = lowBit x ↔ x = 0 ∨ x = 1 := eq_comm.trans (lowBit_iff x)
theorem valOk (v : V) (n : Nat) (h : Hp) : Pur Tryd.prog 106 [.ag v.sv, .v (.int .i64 n)] h (fun y : Bool => .v (.bool y)) (decide (VOk v n)) := by
  refine enterS Tryd.func106 rfl (n := 57) rfl rfl (fun k N => ?_)
  repeat' (first | (refine r_pure hT rfl rfl rfl rfl ?_) | (refine r_new hT rfl rfl rfl rfl ?_) | (refine r_write hT rfl rfl rfl ?_) | (refine r_nil ?_) | (refine q_nil ?_) | (refine r_build hT rfl rfl rfl rfl rfl rfl rfl rfl rfl ?_) | (refine r_bits rfl rfl rfl rfl rfl rfl (lowBit_run _) (.inl rfl) ?_) | (refine r_eqs (fun w => eq29f w _ _ _ _ v) (by kernel_rfl) (.inl rfl) rfl rfl rfl rfl rfl rfl rfl rfl ?_) | (refine r_arith rfl rfl rfl rfl rfl rfl rfl (by omega) ?_) | (with_reducible refine r_seq ?_) | (with_reducible refine x_then ?_) | (with_reducible refine r_region ?_) | (refine r_draw hM (by kernel_rfl) ?_) | (with_reducible refine r_skip ?_) | (with_reducible refine r_ret ?_) | (with_reducible refine x_then_ret ?_) | (with_reducible refine r_block ?_) | (with_reducible refine x_block ?_) | (with_reducible refine x_block_ret ?_) | (with_reducible refine r_exit ?_) | (with_reducible refine x_then_exit ?_) | (with_reducible refine x_block_here ?_) | (refine x_block_past rfl ?_) | (refine c_yes rfl (by omega) ?_) | (refine c_no rfl (by omega) ?_) | (refine c_no rfl (fun h => h rfl) ?_) | (refine r_cond_false rfl ?_) | (refine r_cond_true rfl ?_) | (refine r_cond_dec rfl (fun _ => ?_) (fun _ => ?_)) | (refine r_cond_true rfl ?_) | (refine r_cond_false rfl ?_) | (refine c_not rfl (fun _ => ?_) (fun _ => ?_)) | (refine r_off rfl rfl rfl ?_) | (refine q_guard rfl rfl (fun _ => ?_) (fun _ => ?_)) | (refine q_guardn rfl rfl (fun _ => ?_) (fun _ => ?_)))
  all_goals exact r_fin hT rfl _ rfl rfl rfl trivial rfl ⟨by (have hz := size_nil v.s); (try simp only [v_eq, nil_list, lowBit_iff'] at *); simp_all [VOk] <;> omega, rfl⟩
theorem kok_iff (v : V) : KOk v ↔ (1 ≤ v.k ∧ v.k ≤ 3) ∧ VOk v 0 := by
  unfold KOk
  have : (v.k = 1 ∨ v.k = 2 ∨ v.k = 3) ↔ (1 ≤ v.k ∧ v.k ≤ 3) := by omega
  rw [this]
theorem keyOk (v : V) (h : Hp) : Pur Tryd.prog 107 [.ag v.sv] h (fun y : Bool => .v (.bool y)) (decide (KOk v)) := by
  refine enterS Tryd.func107 rfl (n := 15) rfl rfl (fun k N => ?_)
  repeat' (first | (refine r_pure hT rfl rfl rfl rfl ?_) | (refine r_new hT rfl rfl rfl rfl ?_) | (refine r_write hT rfl rfl rfl ?_) | (refine r_nil ?_) | (refine q_nil ?_) | (refine p_call (valOk v 0 _) rfl rfl rfl rfl rfl (hC _ rfl) rfl rfl rfl ?_) | (refine r_arith rfl rfl rfl rfl rfl rfl rfl (by omega) ?_) | (with_reducible refine r_seq ?_) | (with_reducible refine x_then ?_) | (with_reducible refine r_region ?_) | (refine r_draw hM (by kernel_rfl) ?_) | (with_reducible refine r_skip ?_) | (with_reducible refine r_ret ?_) | (with_reducible refine x_then_ret ?_) | (with_reducible refine r_block ?_) | (with_reducible refine x_block ?_) | (with_reducible refine x_block_ret ?_) | (with_reducible refine r_exit ?_) | (with_reducible refine x_then_exit ?_) | (with_reducible refine x_block_here ?_) | (refine x_block_past rfl ?_) | (refine c_yes rfl (by omega) ?_) | (refine c_no rfl (by omega) ?_) | (refine c_no rfl (fun h => h rfl) ?_) | (refine r_cond_false rfl ?_) | (refine r_cond_true rfl ?_) | (refine r_cond_dec rfl (fun _ => ?_) (fun _ => ?_)) | (refine r_cond_true rfl ?_) | (refine r_cond_false rfl ?_) | (refine c_not rfl (fun _ => ?_) (fun _ => ?_)) | (refine r_off rfl rfl rfl ?_) | (refine q_guard rfl rfl (fun _ => ?_) (fun _ => ?_)) | (refine q_guardn rfl rfl (fun _ => ?_) (fun _ => ?_)))
  all_goals exact r_fin hT rfl _ rfl rfl rfl trivial rfl ⟨by simp_all [kok_iff] <;> omega, rfl⟩
end Go.Proofs.YtkamfnmbidnhdaaDoor
