/- The walk by a symbolic frame: the text of a Builder that nothing was written into. -/
import Derived.Test.YtkamfnmbidnhdaaDoorSqAE
import Derived.Shelf.LaysM
import Derived.Shelf.Strconv.Itoa3
import Derived.Test.YtkamfnmbidnhdaaDoorProg
import Derived.Sort.Grow
import Derived.KernelRfl
import Derived.Test.YtkamfnmbidnhdaaDoorSqAC
import Derived.Test.YtkamfnmbidnhdaaDoorSqAD
set_option linter.unusedVariables false
set_option linter.unusedSimpArgs false
set_option linter.unusedSectionVars false
namespace Go.Sy
set_option linter.unusedVariables false
section
variable {P : Program} {F : Fr} {tm : Tm} {L : Lm} {u : Hp} {Q : Exit → Act → World → Prop}
theorem r_sldata0 {q : Md} {l : List Oper} {o : Oper} {r : List Oper} {d : Nat} {tys : Array TypeId} {x : Operand} {n c : Nat} (hw : wantE l tm o = some true) (ho : o.dst = some d) (hn : Nat.blt d F.n.z = true)
    (hop : o.op = .call { callee := .builtin .unsafeSliceData, args := #[x], argTypes := tys }) (hx : ev tm x = some (.v (.slice none n c))) (next : Run P Q F ((d, .v (.pointer none)) :: tm) L u q l r) : Run P Q F tm L u q l (o :: r) := by
  refine op_pure hw ho hn (fun β a w ht' hd => ⟨?_, rfl⟩) next
  have h1 : a.eval x = .slice none n c := by rw [ev_ok ht' hx, SV.den]
  simp [execOp, hop, h1, resolve, invoke, builtin, Lib.run_unsafeSliceData_nil (P := P) (w := w) tys o.type n c, SV.den]
theorem r_ustring0 {q : Md} {l : List Oper} {o : Oper} {r : List Oper} {d : Nat} {pt it : TypeId} {x y : Operand} {p : Option Addr} (hw : wantE l tm o = some true) (ho : o.dst = some d) (hn : Nat.blt d F.n.z = true)
    (hop : o.op = .call { callee := .builtin .unsafeString, args := #[x, y], argTypes := #[pt, it] })
    (hx : ev tm x = some (.v (.pointer p))) (hy : ev tm y = some (.v (.int .i64 0))) (next : Run P Q F ((d, .v (.string ⟨#[]⟩)) :: tm) L u q l r) : Run P Q F tm L u q l (o :: r) := by
  refine op_pure hw ho hn (fun β a w ht' hd => ⟨?_, rfl⟩) next
  have h1 : a.eval x = .pointer p := by rw [ev_ok ht' hx, SV.den]
  have h2 : a.eval y = .int .i64 0 := by rw [ev_ok ht' hy, SV.den]
  have e : ByteArray.empty = (⟨#[]⟩ : ByteArray) := rfl
  simp [execOp, hop, h1, h2, resolve, invoke, builtin, Lib.run_unsafeString_none (P := P) (w := w) pt it o.type p, SV.den, e]
end
end Go.Sy
/-
  DERIVED: THE SHELF's CONTRACTS AT THIS DUMP, IN PLAIN WORDS (tools/lay-plain.mjs out of 'TrydShelf.lean', which tools/lay-shelf.mjs wrote): THE SAME DECLARATIONS UNDER THE SAME NAMES: 'import', 'namespace', 'open', 'def', 'theorem' AND NOTHING ELSE: no command of the shelf's: FOR A HAND-IN. Each laying: the table of numbers ('.._ren') and one theorem, a field a fact of the dump's own or the kernel's comparison; each contract: ONE APPLICATION.
-/
namespace Go.Proofs
open Go.Shelf
def Tryd.laysM246_ren : Go.Shelf.Ren := ⟨fun | 246 => 141 | 283 => 165 | 284 => 166 | 285 => 167 | 286 => 168 | 129 => 155 | 317 => 184 | 318 => 185 | 319 => 186 | 320 => 187 | 337 => 192 | 338 => 193 | n => n, fun | 2 => 2 | 3 => 3 | 9 => 9 | 4 => 4 | 171 => 200 | 0 => 0 | 53 => 120 | 37 => 22 | 5 => 5 | 173 => 202 | 212 => 217 | 51 => 190 | 20 => 20 | 213 => 218 | 46 => 162 | 232 => 226 | 233 => 227 | n => n, fun | 17 => 2 | 18 => 3 | 19 => 4 | n => n⟩
theorem Tryd.laysM246 : Go.Proofs.LaysM.n246 Tryd.prog Tryd.laysM246_ren := {
  mixed := by kernel_rfl
  f129 := Tryd.func155.trans (congrArg some (by kernel_rfl))
  f246 := Tryd.func141.trans (congrArg some (by kernel_rfl))
  f283 := Tryd.func165.trans (congrArg some (by kernel_rfl))
  f284 := Tryd.func166.trans (congrArg some (by kernel_rfl))
  f285 := Tryd.func167.trans (congrArg some (by kernel_rfl))
  f286 := Tryd.func168.trans (congrArg some (by kernel_rfl))
  f317 := Tryd.func184.trans (congrArg some (by kernel_rfl))
  f318 := Tryd.func185.trans (congrArg some (by kernel_rfl))
  f319 := Tryd.func186.trans (congrArg some (by kernel_rfl))
  f320 := Tryd.func187.trans (congrArg some (by kernel_rfl))
  f337 := Tryd.func192.trans (congrArg some (by kernel_rfl))
  f338 := Tryd.func193.trans (congrArg some (by kernel_rfl))
  t0 := Tryd.underlying0
  a0 := Tryd.isAgg0
  z0 := Tryd.sizeOf0
  v0 := Tryd.zeroValue0
  t2 := Tryd.underlying2
  a2 := Tryd.isAgg2
  z2 := Tryd.sizeOf2
  v2 := Tryd.zeroValue2
  t3 := Tryd.underlying3
  a3 := Tryd.isAgg3
  z3 := Tryd.sizeOf3
  v3 := Tryd.zeroValue3
  t4 := Tryd.underlying4
  a4 := Tryd.isAgg4
  z4 := Tryd.sizeOf4
  v4 := Tryd.zeroValue4
  t5 := Tryd.underlying5
  a5 := Tryd.isAgg5
  z5 := Tryd.sizeOf5
  v5 := Tryd.zeroValue5
  t9 := Tryd.underlying9
  a9 := Tryd.isAgg9
  z9 := Tryd.sizeOf9
  v9 := Tryd.zeroValue9
  t20 := Tryd.underlying20
  a20 := Tryd.isAgg20
  z20 := Tryd.sizeOf20
  v20 := Tryd.zeroValue20
  t37 := Tryd.underlying22
  a37 := Tryd.isAgg22
  z37 := Tryd.sizeOf22
  v37 := Tryd.zeroValue22
  t46 := Tryd.underlying162
  a46 := Tryd.isAgg162
  z46 := Tryd.sizeOf162
  v46 := Tryd.zeroValue162
  t51 := Tryd.underlying190
  a51 := Tryd.isAgg190
  z51 := Tryd.sizeOf190
  v51 := Tryd.zeroValue190
  t53 := Tryd.underlying120
  a53 := Tryd.isAgg120
  z53 := Tryd.sizeOf120
  v53 := Tryd.zeroValue120
  t171 := Tryd.underlying200
  a171 := Tryd.isAgg200
  z171 := Tryd.sizeOf200
  v171 := Tryd.zeroValue200
  t173 := Tryd.underlying202
  a173 := Tryd.isAgg202
  z173 := Tryd.sizeOf202
  v173 := Tryd.zeroValue202
  t212 := Tryd.underlying217
  a212 := Tryd.isAgg217
  z212 := Tryd.sizeOf217
  v212 := Tryd.zeroValue217
  t213 := Tryd.underlying218
  a213 := Tryd.isAgg218
  z213 := Tryd.sizeOf218
  t232 := Tryd.underlying226
  a232 := Tryd.isAgg226
  z232 := Tryd.sizeOf226
  v232 := Tryd.zeroValue226
  t233 := Tryd.underlying227
  a233 := Tryd.isAgg227
  z233 := Tryd.sizeOf227
  v233 := Tryd.zeroValue227
  g17 := by kernel_rfl
  g18 := by kernel_rfl
  g19 := by kernel_rfl
  i0 := by kernel_rfl
  i2 := by kernel_rfl
  i3 := by kernel_rfl
  i4 := by kernel_rfl
  i5 := by kernel_rfl
  i9 := by kernel_rfl
  i20 := by kernel_rfl
  i37 := by kernel_rfl
  i46 := by kernel_rfl
  i51 := by kernel_rfl
  i53 := by kernel_rfl
  i171 := by kernel_rfl
  i173 := by kernel_rfl
  i212 := by kernel_rfl
  i232 := by kernel_rfl
  i233 := by kernel_rfl
  m17 := by kernel_rfl
  m18 := by kernel_rfl
  m19 := by kernel_rfl }
open Go.RowKit Go.Sort Go.Lib in
/-- internal/strconv.FormatInt: "FormatInt returns the string representation of i in the given base": AT BASE 10: i's decimal numeral, for every int64. The world behind the call: the world before it, new blocks behind the heap, draws. (LAID: no walk: one application.) -/
theorem Tryd.internal_strconv_FormatInt_10 (n : Int) (h0 : -9223372036854775808 ≤ n) (h1 : n ≤ 9223372036854775807) (w : World) (htab : Lib.TabIs Tryd.prog w "internal/strconv.uint64pow10" .u64 Lib.pow10Tab) :
    Calls Tryd.prog 141 #[.int .i64 n, .int .i64 10] w fun e w' => e = .returned (.string ⟨(Lib.itoa n).toArray⟩) ∧ ∃ k os, w' = grow (w.drewN k) os := Any.internal_strconv_FormatInt_10 Tryd.laysM246 n h0 h1 w htab
end Go.Proofs
/- A contract of the library's own words, for the walk by a symbolic frame: it answers, and only new blocks come. -/
namespace Go.Sy
open Go.Sort
theorem pur_calls {P : Program} {f : FuncId} {args : List SV} {vs : List Value} {h : Hp} {Y : Type} {val : Y → SV} {v : Value} (r : Y) (hvs : valsE [] args = some vs) (hv : valE [] (val r) = some v)
    (hc : ∀ w : World, (∀ (b : Nat) (o : Obj), h b = some o → w.heap[b]? = some o) → Calls P f vs.toArray w fun (e : Ending) (w' : World) => e = .returned v ∧ (∀ (b : Nat) (o : Obj), w.heap[b]? = some o → w'.heap[b]? = some o) ∧ Ge w w') : Pur P f args h val r := by
  intro _ _ vs' h0 h1 h2
  rw [hvs] at h1
  obtain rfl := Option.some.inj h1
  have e : h = h0 := by simpa [addsE] using h2
  subst e
  intro k N w hd
  refine (hc w hd.ext).mono fun e w' ⟨he, hk, hg⟩ => ?_
  exact ⟨v, h, he, ⟨r, h, hv, rfl, fun b hb => (by cases hb), rfl, rfl⟩, ⟨fun b o hb => hk b o (hd.ext b o hb), fun b o hb => ⟨hk b o (hd.hid b o hb).1, (hd.hid b o hb).2⟩, hd.size.trans hg⟩⟩
theorem grow_keep {w : World} {k : Nat} {os : Array Obj} : (∀ (b : Nat) (o : Obj), w.heap[b]? = some o → (grow (w.drewN k) os).heap[b]? = some o) ∧ Ge w (grow (w.drewN k) os) := by
  refine ⟨fun b o hb => ?_, ⟨by simp [grow, World.drewN], rfl, rfl, rfl, Nat.le_add_right _ _⟩⟩
  have hlt := (Array.getElem?_eq_some_iff.1 hb).1
  show (w.heap ++ os)[b]? = some o
  rw [Array.getElem?_append_left hlt]; exact hb
end Go.Sy
/- The types and the functions of the translation, for the walk by a symbolic frame (written by wip/tools/sytypes.py). -/
namespace Go.Proofs.YtkamfnmbidnhdaaDoor
open Go.Sy
def TT : List (Nat × TI) := [
  (2, ⟨.int .i64, 1, 8, [.int .i64]⟩),
  (3, ⟨.int .i64, 1, 8, [.int .i64]⟩),
  (4, ⟨.bool, 1, 1, [.bool]⟩),
  (5, ⟨.int .u8, 1, 1, [.int .u8]⟩),
  (9, ⟨.str, 1, 16, [.str]⟩),
  (20, ⟨.ifc, 1, 16, [.ifc]⟩),
  (22, ⟨.slice 5, 1, 24, [.sl]⟩),
  (24, ⟨.slice 25, 1, 24, [.sl]⟩),
  (25, ⟨.slice 3, 1, 24, [.sl]⟩),
  (26, ⟨.slice 76, 1, 24, [.sl]⟩),
  (28, ⟨.struct [(0, 1, false), (1, 1, false), (2, 1, false)], 3, 56, [.int .i64, .sl, .sl]⟩),
  (42, ⟨.struct [(0, 1, false), (1, 1, false), (2, 1, false), (3, 1, false)], 4, 40, [.int .i64, .int .i64, .str, .int .i64]⟩),
  (43, ⟨.slice 135, 1, 24, [.sl]⟩),
  (45, ⟨.struct [(0, 4, true), (4, 1, false)], 5, 64, [.int .i64, .int .i64, .str, .int .i64, .sl]⟩),
  (48, ⟨.struct [(0, 1, false), (1, 1, false), (2, 1, false), (3, 1, false)], 4, 40, [.int .i64, .int .i64, .str, .int .i64]⟩),
  (49, ⟨.slice 59, 1, 24, [.sl]⟩),
  (51, ⟨.struct [(0, 4, true), (4, 1, false)], 5, 64, [.int .i64, .int .i64, .str, .int .i64, .sl]⟩),
  (57, ⟨.slice 61, 1, 24, [.sl]⟩),
  (59, ⟨.struct [(0, 1, false)], 1, 24, [.sl]⟩),
  (61, ⟨.struct [(0, 4, true), (4, 4, true)], 8, 80, [.int .i64, .int .i64, .str, .int .i64, .int .i64, .int .i64, .str, .int .i64]⟩),
  (62, ⟨.slice 48, 1, 24, [.sl]⟩),
  (72, ⟨.ifc, 1, 16, [.ifc]⟩),
  (76, ⟨.struct [(0, 1, false), (1, 1, false)], 2, 16, [.int .i64, .int .i64]⟩),
  (77, ⟨.fn, 1, 8, [.fn]⟩),
  (78, ⟨.ptr, 1, 8, [.ptr]⟩),
  (80, ⟨.struct [(0, 1, false), (1, 1, false), (2, 1, false)], 3, 56, [.sl, .sl, .bool]⟩),
  (89, ⟨.ptr, 1, 8, [.ptr]⟩),
  (90, ⟨.map 3 3, 1, 8, [.mp]⟩),
  (91, ⟨.ptr, 1, 8, [.ptr]⟩),
  (93, ⟨.struct [(0, 1, false), (1, 1, false)], 2, 32, [.ptr, .sl]⟩),
  (95, ⟨.struct [(0, 5, true), (5, 1, false), (6, 1, false), (7, 2, true)], 9, 128, [.int .i64, .int .i64, .str, .int .i64, .sl, .sl, .mp, .ptr, .sl]⟩),
  (103, ⟨.fn, 1, 8, [.fn]⟩),
  (106, ⟨.struct [(0, 1, false), (1, 1, false)], 2, 16, [.int .i64, .int .i64]⟩),
  (108, ⟨.struct [(0, 2, true), (2, 1, false)], 3, 40, [.int .i64, .int .i64, .sl]⟩),
  (109, ⟨.slice 108, 1, 24, [.sl]⟩),
  (110, ⟨.map 106 3, 1, 8, [.mp]⟩),
  (113, ⟨.fn, 1, 8, [.fn]⟩),
  (119, ⟨.ptr, 1, 8, [.ptr]⟩),
  (120, ⟨.int .u64, 1, 8, [.int .u64]⟩),
  (122, ⟨.struct [(0, 1, false), (1, 1, false), (2, 1, false)], 3, 40, [.sl, .int .i64, .int .u64]⟩),
  (126, ⟨.struct [(0, 1, false)], 1, 16, [.ifc]⟩),
  (133, ⟨.slice 196, 1, 24, [.sl]⟩),
  (135, ⟨.struct [(0, 1, false)], 1, 24, [.sl]⟩),
  (138, ⟨.ptr, 1, 8, [.ptr]⟩),
  (140, ⟨.struct [(0, 5, true), (5, 1, false), (6, 1, false), (7, 1, false), (8, 1, false)], 9, 144, [.int .i64, .int .i64, .str, .int .i64, .sl, .sl, .sl, .int .i64, .sl]⟩),
  (143, ⟨.map 48 3, 1, 8, [.mp]⟩),
  (151, ⟨.ptr, 1, 8, [.ptr]⟩),
  (153, ⟨.slice 57, 1, 24, [.sl]⟩),
  (154, ⟨.map 9 3, 1, 8, [.mp]⟩),
  (158, ⟨.fn, 1, 8, [.fn]⟩),
  (162, ⟨.int .u64, 1, 8, [.int .u64]⟩),
  (170, ⟨.ptr, 1, 8, [.ptr]⟩),
  (172, ⟨.struct [(0, 5, true), (5, 1, false), (6, 1, false)], 7, 112, [.int .i64, .int .i64, .str, .int .i64, .sl, .sl, .sl]⟩),
  (183, ⟨.int .i64, 1, 8, [.int .i64]⟩),
  (190, ⟨.int .u32, 1, 4, [.int .u32]⟩),
  (196, ⟨.struct [(0, 4, true), (4, 4, true)], 8, 80, [.int .i64, .int .i64, .str, .int .i64, .int .i64, .int .i64, .str, .int .i64]⟩),
  (200, ⟨.arr 24 5, 24, 24, [.int .u8, .int .u8, .int .u8, .int .u8, .int .u8, .int .u8, .int .u8, .int .u8, .int .u8, .int .u8, .int .u8, .int .u8, .int .u8, .int .u8, .int .u8, .int .u8, .int .u8, .int .u8, .int .u8, .int .u8, .int .u8, .int .u8, .int .u8, .int .u8]⟩),
  (210, ⟨.int .u64, 1, 8, [.int .u64]⟩),
  (214, ⟨.ptr, 1, 8, [.ptr]⟩),
  (217, ⟨.arr 20 120, 20, 160, [.int .u64, .int .u64, .int .u64, .int .u64, .int .u64, .int .u64, .int .u64, .int .u64, .int .u64, .int .u64, .int .u64, .int .u64, .int .u64, .int .u64, .int .u64, .int .u64, .int .u64, .int .u64, .int .u64, .int .u64]⟩),
  (226, ⟨.arr 32 5, 32, 32, [.int .u8, .int .u8, .int .u8, .int .u8, .int .u8, .int .u8, .int .u8, .int .u8, .int .u8, .int .u8, .int .u8, .int .u8, .int .u8, .int .u8, .int .u8, .int .u8, .int .u8, .int .u8, .int .u8, .int .u8, .int .u8, .int .u8, .int .u8, .int .u8, .int .u8, .int .u8, .int .u8, .int .u8, .int .u8, .int .u8, .int .u8, .int .u8]⟩),
  (228, ⟨.ptr, 1, 8, [.ptr]⟩),
  (242, ⟨.struct [(0, 1, false)], 1, 16, [.str]⟩)]
set_option maxRecDepth 100000 in
theorem hT : TOK Tryd.prog TT := TOK.of (by kernel_rfl)
set_option maxRecDepth 100000 in
theorem hC (f : Nat) (h : ([2, 3, 4, 5, 6, 7, 8, 9, 10, 11, 12, 13, 14, 15, 16, 17, 18, 19, 20, 21, 22, 23, 24, 25, 26, 27, 28, 29, 30, 31, 32, 33, 34, 35, 36, 37, 38, 39, 40, 41, 42, 43, 44, 45, 46, 47, 48, 49, 50, 51, 52, 53, 54, 55, 56, 57, 58, 59, 60, 61, 62, 63, 64, 65, 66, 67, 68, 69, 70, 71, 72, 73, 74, 75, 76, 77, 78, 79, 80, 81, 82, 83, 84, 85, 86, 87, 88, 89, 90, 91, 92, 93, 94, 95, 96, 97, 98, 99, 100, 101, 102, 103, 104, 105, 106, 107, 108, 109, 110, 111, 112, 113, 114, 115, 116, 117, 118, 119, 120, 121, 122, 123, 124, 125, 126, 127, 128, 129, 130, 131, 132, 133, 134, 135, 136, 137, 138, 139, 140, 141, 142, 143, 144, 145, 146, 147, 148, 149, 150, 151, 152, 153, 154, 155, 156, 157, 158, 159, 160, 161, 162, 163, 165, 166, 167, 168, 169, 170, 171, 172, 173, 174, 175, 176, 177, 178, 179, 180, 181, 182, 184, 185, 186, 187, 188, 189, 190, 191, 192, 193, 194, 214, 221].contains f) = true) : callable Tryd.prog f = true := by
  have h2 : ([2, 3, 4, 5, 6, 7, 8, 9, 10, 11, 12, 13, 14, 15, 16, 17, 18, 19, 20, 21, 22, 23, 24, 25, 26, 27, 28, 29, 30, 31, 32, 33, 34, 35, 36, 37, 38, 39, 40, 41, 42, 43, 44, 45, 46, 47, 48, 49, 50, 51, 52, 53, 54, 55, 56, 57, 58, 59, 60, 61, 62, 63, 64, 65, 66, 67, 68, 69, 70, 71, 72, 73, 74, 75, 76, 77, 78, 79, 80, 81, 82, 83, 84, 85, 86, 87, 88, 89, 90, 91, 92, 93, 94, 95, 96, 97, 98, 99, 100, 101, 102, 103, 104, 105, 106, 107, 108, 109, 110, 111, 112, 113, 114, 115, 116, 117, 118, 119, 120, 121, 122, 123, 124, 125, 126, 127, 128, 129, 130, 131, 132, 133, 134, 135, 136, 137, 138, 139, 140, 141, 142, 143, 144, 145, 146, 147, 148, 149, 150, 151, 152, 153, 154, 155, 156, 157, 158, 159, 160, 161, 162, 163, 165, 166, 167, 168, 169, 170, 171, 172, 173, 174, 175, 176, 177, 178, 179, 180, 181, 182, 184, 185, 186, 187, 188, 189, 190, 191, 192, 193, 194, 214, 221].all fun f => callable Tryd.prog f) = true := by kernel_rfl
  exact List.all_eq_true.1 h2 f (by simpa using h)
theorem hM : Tryd.prog.follows .mixedOrders = true := by kernel_rfl
end Go.Proofs.YtkamfnmbidnhdaaDoor
/- Rows of rows, of whatever elements. -/
namespace Go.Sy
/-- A slice of slices of pairs. -/
def TabG {α : Type} (c : α → List Value) (sz : Nat) (u : Hp) (A : Option Addr) (n : Nat) (ts : List (List α)) : Prop :=
  ∃ hs : List Hd, hs.length = ts.length ∧ Rd Hd.v 1 u A n hs ∧ ∀ (i : Nat) (h : Hd) (t : List α), hs[i]? = some h → ts[i]? = some t → h.n ≤ h.c ∧ Rd c sz u h.A h.n t
theorem TabG.le {α : Type} {c : α → List Value} {sz : Nat} {u u' : Hp} {A : Option Addr} {n : Nat} {ts : List (List α)} (h : TabG c sz u A n ts) (hl : Le u u') : TabG c sz u' A n ts :=
  let ⟨hs, h1, h2, h3⟩ := h; ⟨hs, h1, h2.le hl, fun i x t hx ht => ⟨(h3 i x t hx ht).1, (h3 i x t hx ht).2.le hl⟩⟩
theorem TabG.len {α : Type} {c : α → List Value} {sz : Nat} {u : Hp} {A : Option Addr} {n : Nat} {ts : List (List α)} (h : TabG c sz u A n ts) : n = ts.length := let ⟨_, h1, h2, _⟩ := h; h2.1.trans h1
theorem TabG.elem {α : Type} {c : α → List Value} {sz : Nat} {u : Hp} {A : Option Addr} {n : Nat} {ts : List (List α)} (h : TabG c sz u A n ts) {i : Nat} (hi : i < ts.length) :
    ∃ b off A' n' c' t, A = some ⟨b, off, none⟩ ∧ ts.drop i = t :: ts.drop (i + 1) ∧ ts[i]? = some t ∧ t ∈ ts ∧ At u b (off + i * 1) [.slice A' n' c'] ∧ n' ≤ c' ∧ Rd c sz u A' n' t := by
  obtain ⟨hs, h1, h2, h3⟩ := h
  obtain ⟨b, off, x, e1, e2, e3, e4, e5⟩ := h2.elem Hd.v_len (i := i) (by omega)
  have ht := List.getElem?_eq_getElem hi
  obtain ⟨g1, g2⟩ := h3 i x ts[i] e3 ht
  exact ⟨b, off, x.A, x.n, x.c, ts[i], e1, List.drop_eq_getElem_cons hi, ht, List.getElem_mem hi, e5, g1, g2⟩
/-- Rows of their own, all apart, none the block X. -/
structure ORowG {α : Type} (cc : α → List Value) (sz : Nat) (u : Hp) (eP : TypeId) (X : Option Nat) (hs : List Hd) (ts : List (List α)) : Prop where
  len : hs.length = ts.length
  rows : ∀ (i : Nat) (x : Hd) (t : List α), hs[i]? = some x → ts[i]? = some t → x.n = t.length ∧ Own u x.A x.n x.c eP sz (t.flatMap cc)
  apart : ∀ (i : Nat) (x : Hd) (b : Nat), hs[i]? = some x → blk x.A = some b → X ≠ some b ∧ ∀ (j : Nat) (y : Hd), hs[j]? = some y → blk y.A = some b → i = j
theorem ORowG.nil {α : Type} {cc : α → List Value} {sz : Nat} {u : Hp} {eP : TypeId} {X : Option Nat} : ORowG cc sz u eP X [] [] := ⟨rfl, fun i x t h => by simp at h, fun i x b h => by simp at h⟩
theorem ORowG.live {α : Type} {cc : α → List Value} {sz : Nat} {u : Hp} {eP : TypeId} {X : Option Nat} {hs : List Hd} {ts : List (List α)} (h : ORowG cc sz u eP X hs ts) {x : Hd} (hx : x ∈ hs) {b : Nat} (hb : blk x.A = some b) : u b ≠ none := by
  obtain ⟨i, hi, e⟩ := List.getElem_of_mem hx
  have h1 : hs[i]? = some x := by rw [List.getElem?_eq_getElem hi, e]
  have h2 : i < ts.length := by have := h.len; omega
  exact (h.rows i x ts[i] h1 (List.getElem?_eq_getElem h2)).2.live hb
theorem ORowG.keep {α : Type} {cc : α → List Value} {sz : Nat} {u u' : Hp} {eP : TypeId} {X : Option Nat} {hs : List Hd} {ts : List (List α)} (h : ORowG cc sz u eP X hs ts) (hl : ∀ b o, (∃ x ∈ hs, blk x.A = some b) → u b = some o → u' b = some o) : ORowG cc sz u' eP X hs ts :=
  ⟨h.len, fun i x t hx ht => ⟨(h.rows i x t hx ht).1, (h.rows i x t hx ht).2.le fun b o hb => hl b o ⟨x, List.mem_of_getElem? hx, hb⟩⟩, h.apart⟩
theorem ORowG.snoc {α : Type} {cc : α → List Value} {sz : Nat} {u u' : Hp} {eP : TypeId} {X : Option Nat} {hs : List Hd} {ts : List (List α)} (h : ORowG cc sz u eP X hs ts) (hl : ∀ b o, (∃ x ∈ hs, blk x.A = some b) → u b = some o → u' b = some o) {y : Hd} {t : List α} (hn : y.n = t.length)
    (hy : Own u' y.A y.n y.c eP sz (t.flatMap cc)) (hX : ∀ b, blk y.A = some b → X ≠ some b ∧ u b = none) : ORowG cc sz u' eP X (hs ++ [y]) (ts ++ [t]) := by
  have hk := h.keep hl
  have hlen := h.len
  have hcase : ∀ {i : Nat} {x : Hd}, (hs ++ [y])[i]? = some x → (i < hs.length ∧ hs[i]? = some x) ∨ (i = hs.length ∧ x = y) := fun {i x} hx => by
    by_cases hi : i < hs.length
    · rw [List.getElem?_append_left hi] at hx; exact .inl ⟨hi, hx⟩
    · have h1 : i < (hs ++ [y]).length := (List.getElem?_eq_some_iff.1 hx).1
      simp at h1
      have : i = hs.length := by omega
      subst this
      simp at hx
      exact .inr ⟨rfl, hx.symm⟩
  refine ⟨by simp [hlen], fun i x t' hx ht => ?_, fun i x b hx hb => ?_⟩
  · rcases hcase hx with ⟨hi, hx⟩ | ⟨hi, rfl⟩
    · rw [List.getElem?_append_left (by omega)] at ht; exact hk.rows i x t' hx ht
    · rw [hi, hlen] at ht; simp at ht; subst ht; exact ⟨hn, hy⟩
  · rcases hcase hx with ⟨hi, hx1⟩ | ⟨hi, rfl⟩
    · refine ⟨(h.apart i x b hx1 hb).1, fun j z hz hzb => ?_⟩
      rcases hcase hz with ⟨hj, hz1⟩ | ⟨hj, rfl⟩
      · exact (h.apart i x b hx1 hb).2 j z hz1 hzb
      · exact absurd (hX b hzb).2 (h.live (List.mem_of_getElem? hx1) hb)
    · refine ⟨(hX b hb).1, fun j z hz hzb => ?_⟩
      rcases hcase hz with ⟨hj, hz1⟩ | ⟨hj, rfl⟩
      · exact absurd (hX b hb).2 (h.live (List.mem_of_getElem? hz1) hzb)
      · rw [hi, hj]
/-- Owned tables: the row of headers, and each table's own row, all apart. -/
structure OTG {α : Type} (cc : α → List Value) (sz : Nat) (u : Hp) (eT eP : TypeId) (A : Option Addr) (n c : Nat) (hs : List Hd) (ts : List (List α)) : Prop where
  num : n = ts.length
  own : Own u A n c eT 1 (hs.flatMap Hd.v)
  rows : ORowG cc sz u eP (blk A) hs ts
theorem OTG.tabs {α : Type} {cc : α → List Value} {sz : Nat} {u : Hp} {eT eP : TypeId} {A : Option Addr} {n c : Nat} {hs : List Hd} {ts : List (List α)} (h : OTG cc sz u eT eP A n c hs ts) : TabG cc sz u A n ts :=
  ⟨hs, h.rows.len, ⟨by rw [h.num, h.rows.len], h.own.sl⟩, fun i x t hx ht => ⟨(h.rows.rows i x t hx ht).2.cap, (h.rows.rows i x t hx ht).1, (h.rows.rows i x t hx ht).2.sl⟩⟩
theorem OTG.keep {α : Type} {cc : α → List Value} {sz : Nat} {u u' : Hp} {eT eP : TypeId} {A : Option Addr} {n c : Nat} {hs : List Hd} {ts : List (List α)} (h : OTG cc sz u eT eP A n c hs ts) (hl : ∀ b o, (blk A = some b ∨ ∃ x ∈ hs, blk x.A = some b) → u b = some o → u' b = some o) : OTG cc sz u' eT eP A n c hs ts :=
  ⟨h.num, h.own.le fun b o hb => hl b o (.inl hb), h.rows.keep fun b o hb => hl b o (.inr hb)⟩
theorem OTG.le {α : Type} {cc : α → List Value} {sz : Nat} {u u' : Hp} {eT eP : TypeId} {A : Option Addr} {n c : Nat} {hs : List Hd} {ts : List (List α)} (h : OTG cc sz u eT eP A n c hs ts) (hl : Le u u') : OTG cc sz u' eT eP A n c hs ts := h.keep fun b o _ => hl b o
theorem OTG.elem {α : Type} {cc : α → List Value} {sz : Nat} {u : Hp} {eT eP : TypeId} {A : Option Addr} {n c : Nat} {hs : List Hd} {ts : List (List α)} (h : OTG cc sz u eT eP A n c hs ts) {i : Nat} (hi : i < ts.length) :
    ∃ b off y t, A = some ⟨b, off, none⟩ ∧ ts.drop i = t :: ts.drop (i + 1) ∧ hs[i]? = some y ∧ ts[i]? = some t ∧ t ∈ ts ∧ At u b (off + i * 1) [.slice y.A y.n y.c] ∧ y.n = t.length ∧ Own u y.A y.n y.c eP sz (t.flatMap cc) := by
  have hR : Rd Hd.v 1 u A n hs := ⟨by rw [h.num, h.rows.len], h.own.sl⟩
  obtain ⟨b, off, y, e1, e2, e3, e4, e5⟩ := hR.elem Hd.v_len (i := i) (by rw [h.rows.len]; exact hi)
  have ht := List.getElem?_eq_getElem hi
  obtain ⟨g1, g2⟩ := h.rows.rows i y ts[i] e3 ht
  exact ⟨b, off, y, ts[i], e1, List.drop_eq_getElem_cons hi, e3, ht, List.getElem_mem hi, e5, g1, g2⟩
/-- One row is another now. -/
theorem OTG.set {α : Type} {cc : α → List Value} {sz : Nat} {u u' : Hp} {eT eP : TypeId} {A : Option Addr} {n c : Nat} {hs : List Hd} {pre post : List (List α)} {t t' : List α} {y : Hd} (h : OTG cc sz u eT eP A n c hs (pre ++ t :: post)) (hy : hs[pre.length]? = some y) (hl : t'.length = t.length)
    (hO : Own u' y.A y.n y.c eP sz (t'.flatMap cc)) (hu : ∀ b, blk y.A ≠ some b → u' b = u b) : OTG cc sz u' eT eP A n c hs (pre ++ t' :: post) := by
  refine ⟨by have := h.num; simp at this ⊢; omega, h.own.le fun b o hb ho => ?_, ⟨by have := h.rows.len; simp at this ⊢; omega, fun i x s hx hs' => ?_, h.rows.apart⟩⟩
  · rw [hu b (fun e => (h.rows.apart _ y b hy e).1 hb)]; exact ho
  · by_cases hi : i = pre.length
    · subst hi
      rw [hy] at hx
      have e := Option.some.inj hx; subst e
      simp at hs'
      subst hs'
      have := (h.rows.rows pre.length y t hy (by simp)).1
      exact ⟨by rw [this, hl], hO⟩
    · have hs2 : (pre ++ t :: post)[i]? = some s := by
        rw [List.getElem?_append] at hs' ⊢
        split
        · rename_i hlt; rw [if_pos hlt] at hs'; exact hs'
        · rename_i hlt; rw [if_neg hlt] at hs'
          rw [List.getElem?_cons] at hs' ⊢
          have : i - pre.length ≠ 0 := by omega
          rw [if_neg this] at hs' ⊢; exact hs'
      obtain ⟨g1, g2⟩ := h.rows.rows i x s hx hs2
      refine ⟨g1, g2.le fun b o hb ho => ?_⟩
      rw [hu b (fun e => hi ((h.rows.apart i x b hx hb).2 pre.length y hy e))]; exact ho
end Go.Sy
/- strconv's decimal texts. No condition. -/
namespace Go.Proofs.YtkamfnmbidnhdaaDoor
open Go.Sy
set_option maxRecDepth 100000
set_option maxHeartbeats 4000000
set_option linter.unusedVariables false
set_option linter.unusedSimpArgs false
/-- The library's table lies in a heap. -/
def Tab10 (h : Hp) : Prop := ∀ w : World, (∀ (b : Nat) (o : Obj), h b = some o → w.heap[b]? = some o) → Lib.TabIs Tryd.prog w "internal/strconv.uint64pow10" .u64 Lib.pow10Tab
theorem Tab10.le {h u : Hp} (hT : Tab10 h) (hl : Le h u) : Tab10 u := fun w hw => hT w fun b o hb => hw b o (hl b o hb)
def dec (n : Int) : ByteArray := ⟨(Lib.itoa n).toArray⟩
theorem fmt141 (n : Int) (h0 : -9223372036854775808 ≤ n) (h1 : n ≤ 9223372036854775807) (h : Hp) (ht : Tab10 h) : Pur Tryd.prog 141 [.v (.int .i64 n), .v (.int .i64 10)] h (fun y : ByteArray => .v (.string y)) (dec n) :=
  pur_calls (vs := [.int .i64 n, .int .i64 10]) (v := .string (dec n)) (dec n) rfl rfl fun w hw => (Tryd.internal_strconv_FormatInt_10 n h0 h1 w (ht w hw)).mono fun e w' ⟨he, k, os, hw'⟩ => by
    subst hw'
    exact ⟨he, grow_keep.1, grow_keep.2⟩
theorem fmt111 (n : Int) (h0 : -9223372036854775808 ≤ n) (h1 : n ≤ 9223372036854775807) (h : Hp) (ht : Tab10 h) : Pur Tryd.prog 111 [.v (.int .i64 n), .v (.int .i64 10)] h (fun y : ByteArray => .v (.string y)) (dec n) := by
  refine enterS Tryd.func111 rfl (n := 8) rfl rfl (fun k N => ?_)
  repeat' (first | (refine r_pure hT rfl rfl rfl rfl ?_) | (refine r_new hT rfl rfl rfl rfl ?_) | (refine r_write hT rfl rfl rfl ?_) | (refine r_nil ?_) | (refine q_nil ?_) | (refine p_call (fmt141 n h0 h1 h ht) rfl rfl rfl rfl rfl (hC _ rfl) rfl rfl rfl ?_) | (refine r_arith rfl rfl rfl rfl rfl rfl rfl (by omega) ?_) | (with_reducible refine r_seq ?_) | (with_reducible refine x_then ?_) | (with_reducible refine r_region ?_) | (refine r_draw hM (by kernel_rfl) ?_) | (with_reducible refine r_skip ?_) | (with_reducible refine r_ret ?_) | (with_reducible refine x_then_ret ?_) | (with_reducible refine r_block ?_) | (with_reducible refine x_block ?_) | (with_reducible refine x_block_ret ?_) | (with_reducible refine r_exit ?_) | (with_reducible refine x_then_exit ?_) | (with_reducible refine x_block_here ?_) | (refine x_block_past rfl ?_) | (refine c_yes rfl (by omega) ?_) | (refine c_no rfl (by omega) ?_) | (refine c_no rfl (fun h => h rfl) ?_) | (refine r_cond_false rfl ?_) | (refine r_cond_true rfl ?_) | (refine r_cond_dec rfl (fun _ => ?_) (fun _ => ?_)) | (refine r_cond_true rfl ?_) | (refine r_cond_false rfl ?_) | (refine c_not rfl (fun _ => ?_) (fun _ => ?_)) | (refine r_off rfl rfl rfl ?_) | (refine q_guard rfl rfl (fun _ => ?_) (fun _ => ?_)) | (refine q_guardn rfl rfl (fun _ => ?_) (fun _ => ?_)))
  exact r_fin hT rfl (dec n) rfl rfl rfl trivial rfl ⟨rfl, rfl⟩
theorem itoa144 (n : Int) (h0 : -9223372036854775808 ≤ n) (h1 : n ≤ 9223372036854775807) (h : Hp) (ht : Tab10 h) : Pur Tryd.prog 144 [.v (.int .i64 n)] h (fun y : ByteArray => .v (.string y)) (dec n) := by
  refine enterS Tryd.func144 rfl (n := 5) rfl rfl (fun k N => ?_)
  repeat' (first | (refine r_pure hT rfl rfl rfl rfl ?_) | (refine r_new hT rfl rfl rfl rfl ?_) | (refine r_write hT rfl rfl rfl ?_) | (refine r_nil ?_) | (refine q_nil ?_) | (refine p_call (fmt141 n h0 h1 h ht) rfl rfl rfl rfl rfl (hC _ rfl) rfl rfl rfl ?_) | (refine r_arith rfl rfl rfl rfl rfl rfl rfl (by omega) ?_) | (with_reducible refine r_seq ?_) | (with_reducible refine x_then ?_) | (with_reducible refine r_region ?_) | (refine r_draw hM (by kernel_rfl) ?_) | (with_reducible refine r_skip ?_) | (with_reducible refine r_ret ?_) | (with_reducible refine x_then_ret ?_) | (with_reducible refine r_block ?_) | (with_reducible refine x_block ?_) | (with_reducible refine x_block_ret ?_) | (with_reducible refine r_exit ?_) | (with_reducible refine x_then_exit ?_) | (with_reducible refine x_block_here ?_) | (refine x_block_past rfl ?_) | (refine c_yes rfl (by omega) ?_) | (refine c_no rfl (by omega) ?_) | (refine c_no rfl (fun h => h rfl) ?_) | (refine r_cond_false rfl ?_) | (refine r_cond_true rfl ?_) | (refine r_cond_dec rfl (fun _ => ?_) (fun _ => ?_)) | (refine r_cond_true rfl ?_) | (refine r_cond_false rfl ?_) | (refine c_not rfl (fun _ => ?_) (fun _ => ?_)) | (refine r_off rfl rfl rfl ?_) | (refine q_guard rfl rfl (fun _ => ?_) (fun _ => ?_)) | (refine q_guardn rfl rfl (fun _ => ?_) (fun _ => ?_)))
  exact r_fin hT rfl (dec n) rfl rfl rfl trivial rfl ⟨rfl, rfl⟩
theorem itoa115 (n : Int) (h0 : -9223372036854775808 ≤ n) (h1 : n ≤ 9223372036854775807) (h : Hp) (ht : Tab10 h) : Pur Tryd.prog 115 [.v (.int .i64 n)] h (fun y : ByteArray => .v (.string y)) (dec n) := by
  refine enterS Tryd.func115 rfl (n := 5) rfl rfl (fun k N => ?_)
  repeat' (first | (refine r_pure hT rfl rfl rfl rfl ?_) | (refine r_new hT rfl rfl rfl rfl ?_) | (refine r_write hT rfl rfl rfl ?_) | (refine r_nil ?_) | (refine q_nil ?_) | (refine p_call (itoa144 n h0 h1 h ht) rfl rfl rfl rfl rfl (hC _ rfl) rfl rfl rfl ?_) | (refine r_arith rfl rfl rfl rfl rfl rfl rfl (by omega) ?_) | (with_reducible refine r_seq ?_) | (with_reducible refine x_then ?_) | (with_reducible refine r_region ?_) | (refine r_draw hM (by kernel_rfl) ?_) | (with_reducible refine r_skip ?_) | (with_reducible refine r_ret ?_) | (with_reducible refine x_then_ret ?_) | (with_reducible refine r_block ?_) | (with_reducible refine x_block ?_) | (with_reducible refine x_block_ret ?_) | (with_reducible refine r_exit ?_) | (with_reducible refine x_then_exit ?_) | (with_reducible refine x_block_here ?_) | (refine x_block_past rfl ?_) | (refine c_yes rfl (by omega) ?_) | (refine c_no rfl (by omega) ?_) | (refine c_no rfl (fun h => h rfl) ?_) | (refine r_cond_false rfl ?_) | (refine r_cond_true rfl ?_) | (refine r_cond_dec rfl (fun _ => ?_) (fun _ => ?_)) | (refine r_cond_true rfl ?_) | (refine r_cond_false rfl ?_) | (refine c_not rfl (fun _ => ?_) (fun _ => ?_)) | (refine r_off rfl rfl rfl ?_) | (refine q_guard rfl rfl (fun _ => ?_) (fun _ => ?_)) | (refine q_guardn rfl rfl (fun _ => ?_) (fun _ => ?_)))
  exact r_fin hT rfl (dec n) rfl rfl rfl trivial rfl ⟨rfl, rfl⟩
def boolT (b : Bool) : ByteArray := if b then ⟨#[116, 114, 117, 101]⟩ else ⟨#[102, 97, 108, 115, 101]⟩
theorem fmtB140 (b : Bool) (h : Hp) : Pur Tryd.prog 140 [.v (.bool b)] h (fun y : ByteArray => .v (.string y)) (boolT b) := by
  refine enterS Tryd.func140 rfl (n := 4) rfl rfl (fun k N => ?_)
  cases b
  · repeat' (first | (refine r_pure hT rfl rfl rfl rfl ?_) | (refine r_new hT rfl rfl rfl rfl ?_) | (refine r_write hT rfl rfl rfl ?_) | (refine r_nil ?_) | (refine q_nil ?_) | (refine r_arith rfl rfl rfl rfl rfl rfl rfl (by omega) ?_) | (with_reducible refine r_seq ?_) | (with_reducible refine x_then ?_) | (with_reducible refine r_region ?_) | (refine r_draw hM (by kernel_rfl) ?_) | (with_reducible refine r_skip ?_) | (with_reducible refine r_ret ?_) | (with_reducible refine x_then_ret ?_) | (with_reducible refine r_block ?_) | (with_reducible refine x_block ?_) | (with_reducible refine x_block_ret ?_) | (with_reducible refine r_exit ?_) | (with_reducible refine x_then_exit ?_) | (with_reducible refine x_block_here ?_) | (refine x_block_past rfl ?_) | (refine c_yes rfl (by omega) ?_) | (refine c_no rfl (by omega) ?_) | (refine c_no rfl (fun h => h rfl) ?_) | (refine r_cond_false rfl ?_) | (refine r_cond_true rfl ?_) | (refine r_cond_dec rfl (fun _ => ?_) (fun _ => ?_)) | (refine r_cond_true rfl ?_) | (refine r_cond_false rfl ?_) | (refine c_not rfl (fun _ => ?_) (fun _ => ?_)) | (refine r_off rfl rfl rfl ?_) | (refine q_guard rfl rfl (fun _ => ?_) (fun _ => ?_)) | (refine q_guardn rfl rfl (fun _ => ?_) (fun _ => ?_)))
    exact r_fin hT rfl _ rfl rfl rfl trivial rfl ⟨rfl, rfl⟩
  · repeat' (first | (refine r_pure hT rfl rfl rfl rfl ?_) | (refine r_new hT rfl rfl rfl rfl ?_) | (refine r_write hT rfl rfl rfl ?_) | (refine r_nil ?_) | (refine q_nil ?_) | (refine r_arith rfl rfl rfl rfl rfl rfl rfl (by omega) ?_) | (with_reducible refine r_seq ?_) | (with_reducible refine x_then ?_) | (with_reducible refine r_region ?_) | (refine r_draw hM (by kernel_rfl) ?_) | (with_reducible refine r_skip ?_) | (with_reducible refine r_ret ?_) | (with_reducible refine x_then_ret ?_) | (with_reducible refine r_block ?_) | (with_reducible refine x_block ?_) | (with_reducible refine x_block_ret ?_) | (with_reducible refine r_exit ?_) | (with_reducible refine x_then_exit ?_) | (with_reducible refine x_block_here ?_) | (refine x_block_past rfl ?_) | (refine c_yes rfl (by omega) ?_) | (refine c_no rfl (by omega) ?_) | (refine c_no rfl (fun h => h rfl) ?_) | (refine r_cond_false rfl ?_) | (refine r_cond_true rfl ?_) | (refine r_cond_dec rfl (fun _ => ?_) (fun _ => ?_)) | (refine r_cond_true rfl ?_) | (refine r_cond_false rfl ?_) | (refine c_not rfl (fun _ => ?_) (fun _ => ?_)) | (refine r_off rfl rfl rfl ?_) | (refine q_guard rfl rfl (fun _ => ?_) (fun _ => ?_)) | (refine q_guardn rfl rfl (fun _ => ?_) (fun _ => ?_)))
    exact r_fin hT rfl _ rfl rfl rfl trivial rfl ⟨rfl, rfl⟩
theorem fmtB110 (b : Bool) (h : Hp) : Pur Tryd.prog 110 [.v (.bool b)] h (fun y : ByteArray => .v (.string y)) (boolT b) := by
  refine enterS Tryd.func110 rfl (n := 5) rfl rfl (fun k N => ?_)
  repeat' (first | (refine r_pure hT rfl rfl rfl rfl ?_) | (refine r_new hT rfl rfl rfl rfl ?_) | (refine r_write hT rfl rfl rfl ?_) | (refine r_nil ?_) | (refine q_nil ?_) | (refine p_call (fmtB140 b h) rfl rfl rfl rfl rfl (hC _ rfl) rfl rfl rfl ?_) | (refine r_arith rfl rfl rfl rfl rfl rfl rfl (by omega) ?_) | (with_reducible refine r_seq ?_) | (with_reducible refine x_then ?_) | (with_reducible refine r_region ?_) | (refine r_draw hM (by kernel_rfl) ?_) | (with_reducible refine r_skip ?_) | (with_reducible refine r_ret ?_) | (with_reducible refine x_then_ret ?_) | (with_reducible refine r_block ?_) | (with_reducible refine x_block ?_) | (with_reducible refine x_block_ret ?_) | (with_reducible refine r_exit ?_) | (with_reducible refine x_then_exit ?_) | (with_reducible refine x_block_here ?_) | (refine x_block_past rfl ?_) | (refine c_yes rfl (by omega) ?_) | (refine c_no rfl (by omega) ?_) | (refine c_no rfl (fun h => h rfl) ?_) | (refine r_cond_false rfl ?_) | (refine r_cond_true rfl ?_) | (refine r_cond_dec rfl (fun _ => ?_) (fun _ => ?_)) | (refine r_cond_true rfl ?_) | (refine r_cond_false rfl ?_) | (refine c_not rfl (fun _ => ?_) (fun _ => ?_)) | (refine r_off rfl rfl rfl ?_) | (refine q_guard rfl rfl (fun _ => ?_) (fun _ => ?_)) | (refine q_guardn rfl rfl (fun _ => ?_) (fun _ => ?_)))
  exact r_fin hT rfl (boolT b) rfl rfl rfl trivial rfl ⟨rfl, rfl⟩
end Go.Proofs.YtkamfnmbidnhdaaDoor
namespace Go.Proofs.YtkamfnmbidnhdaaDoor
open Go.Sy
set_option maxRecDepth 100000
set_option maxHeartbeats 4000000
set_option linter.unusedVariables false
end Go.Proofs.YtkamfnmbidnhdaaDoor
/- The specification's decimal text. No condition. -/
namespace Go.Proofs.YtkamfnmbidnhdaaDoor
open Go.Sy
set_option maxRecDepth 100000
set_option maxHeartbeats 4000000
set_option linter.unusedVariables false
set_option linter.unusedSimpArgs false
end Go.Proofs.YtkamfnmbidnhdaaDoor
/- A quoted text: the plain function. -/
namespace Go.Sy
def hexT : ByteArray := ⟨#[48, 49, 50, 51, 52, 53, 54, 55, 56, 57, 97, 98, 99, 100, 101, 102]⟩
def hx (k : Nat) : UInt8 := hexT.data.toList.getD k 0
def q1 (b : UInt8) : List UInt8 := if (b.toNat : Int) = 34 ∨ (b.toNat : Int) = 92 then [92, b] else if (b.toNat : Int) < 32 ∨ 126 < (b.toNat : Int) then [92, hx (b.toNat / 16), hx (b.toNat % 16)] else [b]
def qt (l : List UInt8) : List UInt8 := 34 :: l.flatMap q1 ++ [34]
theorem q1_esc {b : UInt8} (h : (b.toNat : Int) = 34 ∨ (b.toNat : Int) = 92) : q1 b = [92, b] := if_pos h
theorem q1_hex {b : UInt8} (h : ¬ ((b.toNat : Int) = 34 ∨ (b.toNat : Int) = 92)) (g : (b.toNat : Int) < 32 ∨ 126 < (b.toNat : Int)) : q1 b = [92, hx (b.toNat / 16), hx (b.toNat % 16)] := by unfold q1; rw [if_neg h, if_pos g]
theorem q1_one {b : UInt8} (h : ¬ ((b.toNat : Int) = 34 ∨ (b.toNat : Int) = 92)) (g : ¬ ((b.toNat : Int) < 32 ∨ 126 < (b.toNat : Int))) : q1 b = [b] := by unfold q1; rw [if_neg h, if_neg g]
theorem q1_len (b : UInt8) : (q1 b).length ≤ 3 := by
  unfold q1
  split
  · simp
  · split <;> simp
theorem qs_len : ∀ l : List UInt8, (l.flatMap q1).length ≤ 3 * l.length
  | [] => by simp
  | b :: r => by
    have := qs_len r
    have := q1_len b
    rw [List.flatMap_cons, List.length_append, List.length_cons]; omega
theorem qt_len (l : List UInt8) : (qt l).length ≤ 3 * l.length + 2 := by
  have := qs_len l
  unfold qt
  rw [List.length_append, List.length_cons, List.length_singleton]; omega
theorem qs_next {l : List UInt8} {i : Nat} {b : UInt8} (h : l[i]? = some b) : (l.take (i + 1)).flatMap q1 = (l.take i).flatMap q1 ++ q1 b := by
  rw [take_snoc h, List.flatMap_append]; simp
theorem byt_at {s : ByteArray} {i : Nat} {b : UInt8} (h : s.data.toList[i]? = some b) : byt s i = b.toNat := by
  unfold byt
  rw [List.getD_eq_getElem?_getD, h]; rfl
theorem byt_hex (k : Nat) : byt hexT k = (hx k).toNat := rfl
end Go.Sy
/- An operation whose guard did not come up does not come up. -/
namespace Go.Sy
section
variable {P : Program} {F : Fr} {tm : Tm} {L : Lm} {u : Hp} {Q : Exit → Act → World → Prop}
theorem r_offu {q : Md} {l : List Oper} {o oj : Oper} {r : List Oper} {d j e : Nat} {want : Bool} (hg : o.guard = some (j, want)) (hj : nth l j = some oj) (he : oj.dst = some e) (hv : kget tm e = some (.v undef)) (ho : o.dst = some d) (hn : Nat.blt d F.n.z = true)
    (next : Run P Q F ((d, .v undef) :: tm) L u q l r) : Run P Q F tm L u q l (o :: r) := by
  cases q <;>
  · intro β a w hf ht hd
    show (if _ then _ else _)
    have hw : Region.wanted o (yielded l.toArray a.tmps) = false := by
      unfold Region.wanted
      rw [hg]
      rw [nth_eq] at hj
      have := (ht.get e _ hv).1
      simp [yielded, hj, he, this, SV.den, undef]
    rw [if_neg (by rw [hw]; simp), ho]
    exact next β _ w hf (put_rel (s := .v undef) hn ht rfl) hd
end
end Go.Sy
/- The specification's quoted text. No condition. -/
namespace Go.Proofs.YtkamfnmbidnhdaaDoor
open Go.Sy
set_option maxRecDepth 100000
set_option maxHeartbeats 4000000
set_option linter.unusedVariables false
set_option linter.unusedSimpArgs false
/-- A heap without a row. -/
def ptw (u : Hp) (A : Option Addr) : Hp := fun b => if blk A = some b then none else u b
theorem ptw_le (u : Hp) (A : Option Addr) : Le (ptw u A) u := fun b o h => by
  unfold ptw at h
  split at h
  · cases h
  · exact h
theorem ptw_off (u : Hp) (A : Option Addr) : Off (ptw u A) A := fun b hb => by unfold ptw; rw [if_pos hb]
theorem ptw_grown {w v u : Hp} {A A' : Option Addr} (hG : Grown v u A A') (h : Le w v) : Le (ptw w A) u ∧ Off (ptw w A) A' := hG _ ((ptw_le w A).trans h) (ptw_off w A)
end Go.Proofs.YtkamfnmbidnhdaaDoor
/- strings.Builder, wherever it lies in a block. No condition. -/
namespace Go.Proofs.YtkamfnmbidnhdaaDoor
open Go.Sy
set_option maxRecDepth 100000
set_option maxHeartbeats 4000000
set_option linter.unusedVariables false
set_option linter.unusedSimpArgs false
def bdC (pre post : List Value) (ad : Value) (A : Option Addr) (n c : Nat) : List Value := pre ++ ad :: .slice A n c :: post
structure BSt (h0 u : Hp) (pb : Nat) (e : TypeId) (pre post : List Value) (ad : Value) (A : Option Addr) (c : Nat) (o : List UInt8) : Prop where
  cell : u pb = some (.cells (bdC pre post ad A o.length c).toArray e (0, 0))
  own : Own u A o.length c 5 1 (o.flatMap bc1)
  hd : HdA A
  adr : ad = .pointer none ∨ ad = .pointer (some ⟨pb, pre.length, none⟩)
  base : Le h0 u
  hp : h0 pb = none
  ho : Off h0 A
  ap : blk A ≠ some pb
/-- That a Builder lies there in a block of that type. -/
def LiesB (e : TypeId) (pre post : List Value) : Prop := liesAt Tryd.prog Tryd.prog.depth e ((pre.length + 2 + post.length) / Tryd.prog.cellsOf e) pre.length 93 1 = true
section
variable {h0 u : Hp} {pb : Nat} {e : TypeId} {pre post : List Value} {ad : Value} {A : Option Addr} {c : Nat} {o : List UInt8}
theorem bdC_len (pre post : List Value) (ad : Value) (A : Option Addr) (n c : Nat) : (bdC pre post ad A n c).length = pre.length + 2 + post.length := by simp [bdC]; omega
theorem BSt.at_ (h : BSt h0 u pb e pre post ad A c o) : At u pb pre.length [ad, .slice A o.length c] := ⟨_, _, _, h.cell, fun j v hj => by
  simp only [bdC, List.getElem?_toArray]
  rw [List.getElem?_append_right (by omega), show pre.length + j - pre.length = j by omega]
  match j, hj with
  | 0, hj => exact hj
  | 1, hj => exact hj⟩
theorem bdC_ad (v : Value) (n : Nat) : setL (bdC pre post ad A n c) pre.length [v] = bdC pre post v A n c := by
  unfold bdC
  rw [show pre.length = pre.length + 0 from rfl, setL_pre]; rfl
theorem bdC_sl (n : Nat) (A' : Option Addr) (m c' : Nat) : setL (bdC pre post ad A n c) (pre.length + 1) [.slice A' m c'] = bdC pre post ad A' m c' := by
  unfold bdC
  rw [setL_pre]; rfl
theorem BSt.ad_ (h : BSt h0 u pb e pre post ad A c o) : BSt h0 (upd u pb (.cells (bdC pre post (.pointer (some ⟨pb, pre.length, none⟩)) A o.length c).toArray e (0, 0))) pb e pre post (.pointer (some ⟨pb, pre.length, none⟩)) A c o :=
  ⟨upd_here .., h.own.le fun b o hb ho => by rw [upd_ne (fun e => h.ap (by rw [← e]; exact hb))]; exact ho, h.hd, .inr rfl, fun x o hx => by rw [upd_ne (fun e => by rw [e, h.hp] at hx; cases hx)]; exact h.base x o hx, h.hp, h.ho, h.ap⟩
end
/-- Blocks that are not the builder's stay, and are not its afterwards. -/
def KeepB (u : Hp) (pb : Nat) (A : Option Addr) (u' : Hp) (A' : Option Addr) : Prop := ∀ z ox, z ≠ pb → blk A ≠ some z → u z = some ox → u' z = some ox ∧ blk A' ≠ some z
theorem BSt.push {h0 u w u3 : Hp} {pb : Nat} {e : TypeId} {pre post : List Value} {ad : Value} {A A' : Option Addr} {c c' : Nat} {o x : List UInt8} (h : BSt h0 u pb e pre post ad A c o) (hw : Le u w) (hO : Own u3 A' (o.length + x.length) c' 5 1 (o.flatMap bc1 ++ x.flatMap bc1)) (hG : Grown w u3 A A') (hH : HdA A → HdA A') :
    u3 pb = some (.cells (bdC pre post ad A o.length c).toArray e (0, 0)) ∧ BSt h0 (upd u3 pb (.cells (bdC pre post ad A' (o.length + x.length) c').toArray e (0, 0))) pb e pre post ad A' c' (o ++ x) ∧ KeepB u pb A (upd u3 pb (.cells (bdC pre post ad A' (o.length + x.length) c').toArray e (0, 0))) A' := by
  obtain ⟨g1, g2⟩ := ptw_grown hG hw
  have kk : ∀ z ox, u z = some ox → blk A ≠ some z → u3 z = some ox ∧ blk A' ≠ some z := fun z ox hx hne => by
    have h1 : ptw u A z = some ox := by unfold ptw; rw [if_neg hne]; exact hx
    exact ⟨g1 z ox h1, fun e => by rw [g2 z e] at h1; cases h1⟩
  obtain ⟨c1, c2⟩ := kk _ _ h.cell h.ap
  have hl : (o ++ x).length = o.length + x.length := List.length_append
  refine ⟨c1, ⟨by rw [upd_here, hl], ?_, hH h.hd, h.adr, fun z ox hz => ?_, h.hp, fun b hb => ?_, c2⟩, fun z ox hz hA hu => ?_⟩
  · rw [hl, List.flatMap_append]
    exact hO.le fun b o hb ho => by rw [upd_ne (fun e => c2 (by rw [← e]; exact hb))]; exact ho
  · rw [upd_ne (fun e => by rw [e, h.hp] at hz; cases hz)]
    exact (kk z ox (h.base z ox hz) (fun e => by rw [h.ho z e] at hz; cases hz)).1
  · cases hh : h0 b with
    | none => rfl
    | some ox => exact absurd hb (kk b ox (h.base b ox hh) (fun e => by rw [h.ho b e] at hh; cases hh)).2
  · obtain ⟨k1, k2⟩ := kk z ox hu hA
    exact ⟨by rw [upd_ne hz]; exact k1, k2⟩
theorem info93 : (Tryd.prog.info? 93).map (·.size) = some 2 := by kernel_rfl
theorem copyCheck (h0 u : Hp) (pb : Nat) (e : TypeId) (pre post : List Value) (ad : Value) (A : Option Addr) (c : Nat) (o : List UInt8) (hB : BSt h0 u pb e pre post ad A c o) (hl : LiesB e pre post) :
    TriS Tryd.prog 139 [.v (.pointer (some ⟨pb, pre.length, none⟩))] [] u (fun _ : Unit => .tu []) (fun _ => [])
      (fun _ u' => BSt h0 u' pb e pre post (.pointer (some ⟨pb, pre.length, none⟩)) A c o ∧ ∀ z, z ≠ pb → u' z = u z) := by
  obtain ⟨j, hj, hjs⟩ := Option.map_eq_some_iff.1 info93
  have hat := hB.at_
  refine enterS Tryd.func139 rfl (n := 20) rfl rfl (fun k N => ?_)
  rcases hB.adr with rfl | rfl
  · have hsz : (bdC pre post (.pointer none) A o.length c).toArray.size = pre.length + 2 + post.length := by simpa using bdC_len pre post (.pointer none) A o.length c
    repeat' (first | (refine r_pure hT rfl rfl rfl rfl ?_) | (refine r_new hT rfl rfl rfl rfl ?_) | (refine r_write hT rfl rfl rfl ?_) | (refine r_nil ?_) | (refine q_nil ?_) | (refine r_load hT hat rfl rfl rfl rfl rfl rfl rfl rfl rfl rfl rfl ?_) | (refine r_ptrnil Tryd.underlying91 rfl rfl rfl rfl rfl rfl ?_) | (refine r_tounsafe Tryd.underlying91 Tryd.underlying198 hj (by rw [hjs]; decide) hB.cell (by rw [hsz]; show pre.length < _; omega) rfl rfl rfl rfl rfl ?_) | (refine r_noescape Tryd.func164 (by kernel_rfl) (by kernel_rfl) (by kernel_rfl) (by kernel_rfl) rfl rfl rfl rfl rfl ?_) | (refine r_fromunsafe Tryd.underlying198 Tryd.underlying91 hj hB.cell (by rw [hsz]; exact hl) rfl rfl rfl rfl rfl ?_) | (refine r_store hT rfl rfl rfl rfl rfl rfl rfl rfl rfl rfl hB.cell (by rw [hsz]; show pre.length + 1 ≤ _; omega) ?_) | (refine r_arith rfl rfl rfl rfl rfl rfl rfl (by omega) ?_) | (with_reducible refine r_seq ?_) | (with_reducible refine x_then ?_) | (with_reducible refine r_region ?_) | (refine r_draw hM (by kernel_rfl) ?_) | (with_reducible refine r_skip ?_) | (with_reducible refine r_ret ?_) | (with_reducible refine x_then_ret ?_) | (with_reducible refine r_block ?_) | (with_reducible refine x_block ?_) | (with_reducible refine x_block_ret ?_) | (with_reducible refine r_exit ?_) | (with_reducible refine x_then_exit ?_) | (with_reducible refine x_block_here ?_) | (refine x_block_past rfl ?_) | (refine c_yes rfl (by omega) ?_) | (refine c_no rfl (by omega) ?_) | (refine c_no rfl (fun h => h rfl) ?_) | (refine r_cond_false rfl ?_) | (refine r_cond_true rfl ?_) | (refine r_cond_dec rfl (fun _ => ?_) (fun _ => ?_)) | (refine r_cond_true rfl ?_) | (refine r_cond_false rfl ?_) | (refine c_not rfl (fun _ => ?_) (fun _ => ?_)) | (refine r_off rfl rfl rfl ?_) | (refine q_guard rfl rfl (fun _ => ?_) (fun _ => ?_)) | (refine q_guardn rfl rfl (fun _ => ?_) (fun _ => ?_)))
    have e1 : setL (bdC pre post (.pointer none) A o.length c).toArray.toList (pre.length + 0) [.pointer (some ⟨pb, pre.length, none⟩)] = bdC pre post (.pointer (some ⟨pb, pre.length, none⟩)) A o.length c := bdC_ad _ _
    rw [e1]
    exact r_fin hT rfl () rfl rfl rfl trivial rfl ⟨hB.ad_, fun z hz => upd_ne hz⟩
  · repeat' (first | (refine r_pure hT rfl rfl rfl rfl ?_) | (refine r_new hT rfl rfl rfl rfl ?_) | (refine r_write hT rfl rfl rfl ?_) | (refine r_nil ?_) | (refine q_nil ?_) | (refine r_load hT hat rfl rfl rfl rfl rfl rfl rfl rfl rfl rfl rfl ?_) | (refine r_ptrnil Tryd.underlying91 rfl rfl rfl rfl rfl rfl ?_) | (refine r_ptrsame Tryd.underlying91 hj rfl rfl rfl rfl rfl rfl ?_) | (refine r_arith rfl rfl rfl rfl rfl rfl rfl (by omega) ?_) | (with_reducible refine r_seq ?_) | (with_reducible refine x_then ?_) | (with_reducible refine r_region ?_) | (refine r_draw hM (by kernel_rfl) ?_) | (with_reducible refine r_skip ?_) | (with_reducible refine r_ret ?_) | (with_reducible refine x_then_ret ?_) | (with_reducible refine r_block ?_) | (with_reducible refine x_block ?_) | (with_reducible refine x_block_ret ?_) | (with_reducible refine r_exit ?_) | (with_reducible refine x_then_exit ?_) | (with_reducible refine x_block_here ?_) | (refine x_block_past rfl ?_) | (refine c_yes rfl (by omega) ?_) | (refine c_no rfl (by omega) ?_) | (refine c_no rfl (fun h => h rfl) ?_) | (refine r_cond_false rfl ?_) | (refine r_cond_true rfl ?_) | (refine r_cond_dec rfl (fun _ => ?_) (fun _ => ?_)) | (refine r_cond_true rfl ?_) | (refine r_cond_false rfl ?_) | (refine c_not rfl (fun _ => ?_) (fun _ => ?_)) | (refine r_off rfl rfl rfl ?_) | (refine q_guard rfl rfl (fun _ => ?_) (fun _ => ?_)) | (refine q_guardn rfl rfl (fun _ => ?_) (fun _ => ?_)))
    exact r_fin hT rfl () rfl rfl rfl trivial rfl ⟨hB, fun z hz => rfl⟩
theorem writeS (h0 u : Hp) (pb : Nat) (e : TypeId) (pre post : List Value) (ad : Value) (A : Option Addr) (c : Nat) (o : List UInt8) (s : ByteArray) (hB : BSt h0 u pb e pre post ad A c o) (hl : LiesB e pre post) (hs : o.length + s.size ≤ 1000000000) :
    TriS Tryd.prog 109 [.v (.pointer (some ⟨pb, pre.length, none⟩)), .v (.string s)] [] u (fun _ : Option Addr × Nat => .tu [.v (.int .i64 (s.size : Int)), .v .nilIface]) (fun _ => [])
      (fun y u' => BSt h0 u' pb e pre post (.pointer (some ⟨pb, pre.length, none⟩)) y.1 y.2 (o ++ s.data.toList) ∧ KeepB u pb A u' y.1) := by
  refine enterS Tryd.func109 rfl (n := 19) rfl rfl (fun k N => ?_)
  repeat' (first | (refine r_pure hT rfl rfl rfl rfl ?_) | (refine r_new hT rfl rfl rfl rfl ?_) | (refine r_write hT rfl rfl rfl ?_) | (refine r_nil ?_) | (refine q_nil ?_) | (refine r_call (copyCheck h0 u pb e pre post ad A c o hB hl) rfl rfl rfl rfl rfl (hC _ rfl) rfl rfl (fun _ u1 hy => ?_)) | (refine r_arith rfl rfl rfl rfl rfl rfl rfl (by omega) ?_) | (with_reducible refine r_seq ?_) | (with_reducible refine x_then ?_) | (with_reducible refine r_region ?_) | (refine r_draw hM (by kernel_rfl) ?_) | (with_reducible refine r_skip ?_) | (with_reducible refine r_ret ?_) | (with_reducible refine x_then_ret ?_) | (with_reducible refine r_block ?_) | (with_reducible refine x_block ?_) | (with_reducible refine x_block_ret ?_) | (with_reducible refine r_exit ?_) | (with_reducible refine x_then_exit ?_) | (with_reducible refine x_block_here ?_) | (refine x_block_past rfl ?_) | (refine c_yes rfl (by omega) ?_) | (refine c_no rfl (by omega) ?_) | (refine c_no rfl (fun h => h rfl) ?_) | (refine r_cond_false rfl ?_) | (refine r_cond_true rfl ?_) | (refine r_cond_dec rfl (fun _ => ?_) (fun _ => ?_)) | (refine r_cond_true rfl ?_) | (refine r_cond_false rfl ?_) | (refine c_not rfl (fun _ => ?_) (fun _ => ?_)) | (refine r_off rfl rfl rfl ?_) | (refine q_guard rfl rfl (fun _ => ?_) (fun _ => ?_)) | (refine q_guardn rfl rfl (fun _ => ?_) (fun _ => ?_)))
  obtain ⟨hB1, hz1⟩ := hy
  have hat := hB1.at_
  have hsz : ∀ n : Nat, (bdC pre post (.pointer (some ⟨pb, pre.length, none⟩)) A n c).toArray.size = pre.length + 2 + post.length := fun n => by simpa using bdC_len pre post (.pointer (some ⟨pb, pre.length, none⟩)) A n c
  repeat' (first | (refine r_pure hT rfl rfl rfl rfl ?_) | (refine r_new hT rfl rfl rfl rfl ?_) | (refine r_write hT rfl rfl rfl ?_) | (refine r_nil ?_) | (refine q_nil ?_) | (refine r_load hT hat rfl rfl rfl rfl rfl rfl rfl rfl rfl rfl rfl ?_) | ((refine r_append_str0 hT rfl rfl rfl rfl rfl rfl rfl rfl rfl rfl rfl rfl rfl hB1.own (by omega) (fun A' c' u3 hO3 hG3 hH3 => ?_) ; rw [← bc1_bytes] at hO3 ; obtain ⟨hc3, hB3, hK3⟩ := hB1.push (x := s.data.toList) (Le.refl u1) hO3 hG3 hH3)) | (refine r_store hT rfl rfl rfl rfl rfl rfl rfl rfl rfl rfl hc3 (by rw [hsz]; show pre.length + 1 + 1 ≤ _; omega) ?_) | (refine r_arith rfl rfl rfl rfl rfl rfl rfl (by omega) ?_) | (with_reducible refine r_seq ?_) | (with_reducible refine x_then ?_) | (with_reducible refine r_region ?_) | (refine r_draw hM (by kernel_rfl) ?_) | (with_reducible refine r_skip ?_) | (with_reducible refine r_ret ?_) | (with_reducible refine x_then_ret ?_) | (with_reducible refine r_block ?_) | (with_reducible refine x_block ?_) | (with_reducible refine x_block_ret ?_) | (with_reducible refine r_exit ?_) | (with_reducible refine x_then_exit ?_) | (with_reducible refine x_block_here ?_) | (refine x_block_past rfl ?_) | (refine c_yes rfl (by omega) ?_) | (refine c_no rfl (by omega) ?_) | (refine c_no rfl (fun h => h rfl) ?_) | (refine r_cond_false rfl ?_) | (refine r_cond_true rfl ?_) | (refine r_cond_dec rfl (fun _ => ?_) (fun _ => ?_)) | (refine r_cond_true rfl ?_) | (refine r_cond_false rfl ?_) | (refine c_not rfl (fun _ => ?_) (fun _ => ?_)) | (refine r_off rfl rfl rfl ?_) | (refine q_guard rfl rfl (fun _ => ?_) (fun _ => ?_)) | (refine q_guardn rfl rfl (fun _ => ?_) (fun _ => ?_)))
  have e1 : setL (bdC pre post (.pointer (some ⟨pb, pre.length, none⟩)) A o.length c).toArray.toList (pre.length + 1) [.slice A' (o.length + s.size) c'] = bdC pre post (.pointer (some ⟨pb, pre.length, none⟩)) A' (o.length + s.size) c' := bdC_sl _ _ _ _
  rw [e1]
  exact r_fin hT rfl ((A', c') : Option Addr × Nat) rfl rfl rfl trivial rfl ⟨hB3, fun z ox hz hA hu => hK3 z ox hz hA (by rw [hz1 z hz]; exact hu)⟩
theorem writeB (h0 u : Hp) (pb : Nat) (e : TypeId) (pre post : List Value) (ad : Value) (A : Option Addr) (c : Nat) (o : List UInt8) (b : UInt8) (hB : BSt h0 u pb e pre post ad A c o) (hl : LiesB e pre post) (hs : o.length + 1 ≤ 1000000000) :
    TriS Tryd.prog 142 [.v (.pointer (some ⟨pb, pre.length, none⟩)), .v (.int .u8 (b.toNat : Int))] [] u (fun _ : Option Addr × Nat => .v .nilIface) (fun _ => [])
      (fun y u' => BSt h0 u' pb e pre post (.pointer (some ⟨pb, pre.length, none⟩)) y.1 y.2 (o ++ [b]) ∧ KeepB u pb A u' y.1) := by
  refine enterS Tryd.func142 rfl (n := 17) rfl rfl (fun k N => ?_)
  repeat' (first | (refine r_pure hT rfl rfl rfl rfl ?_) | (refine r_new hT rfl rfl rfl rfl ?_) | (refine r_write hT rfl rfl rfl ?_) | (refine r_nil ?_) | (refine q_nil ?_) | (refine r_call (copyCheck h0 u pb e pre post ad A c o hB hl) rfl rfl rfl rfl rfl (hC _ rfl) rfl rfl (fun _ u1 hy => ?_)) | (refine r_arith rfl rfl rfl rfl rfl rfl rfl (by omega) ?_) | (with_reducible refine r_seq ?_) | (with_reducible refine x_then ?_) | (with_reducible refine r_region ?_) | (refine r_draw hM (by kernel_rfl) ?_) | (with_reducible refine r_skip ?_) | (with_reducible refine r_ret ?_) | (with_reducible refine x_then_ret ?_) | (with_reducible refine r_block ?_) | (with_reducible refine x_block ?_) | (with_reducible refine x_block_ret ?_) | (with_reducible refine r_exit ?_) | (with_reducible refine x_then_exit ?_) | (with_reducible refine x_block_here ?_) | (refine x_block_past rfl ?_) | (refine c_yes rfl (by omega) ?_) | (refine c_no rfl (by omega) ?_) | (refine c_no rfl (fun h => h rfl) ?_) | (refine r_cond_false rfl ?_) | (refine r_cond_true rfl ?_) | (refine r_cond_dec rfl (fun _ => ?_) (fun _ => ?_)) | (refine r_cond_true rfl ?_) | (refine r_cond_false rfl ?_) | (refine c_not rfl (fun _ => ?_) (fun _ => ?_)) | (refine r_off rfl rfl rfl ?_) | (refine q_guard rfl rfl (fun _ => ?_) (fun _ => ?_)) | (refine q_guardn rfl rfl (fun _ => ?_) (fun _ => ?_)))
  obtain ⟨hB1, hz1⟩ := hy
  have hat := hB1.at_
  have hsz : ∀ n : Nat, (bdC pre post (.pointer (some ⟨pb, pre.length, none⟩)) A n c).toArray.size = pre.length + 2 + post.length := fun n => by simpa using bdC_len pre post (.pointer (some ⟨pb, pre.length, none⟩)) A n c
  repeat' (first | (refine r_pure hT rfl rfl rfl rfl ?_) | (refine r_new hT rfl rfl rfl rfl ?_) | (refine r_write hT rfl rfl rfl ?_) | (refine r_nil ?_) | (refine q_nil ?_) | (refine r_load hT hat rfl rfl rfl rfl rfl rfl rfl rfl rfl rfl rfl ?_) | (refine r_bslice hT (ps := [(0, .tmp 12)]) rfl rfl rfl rfl rfl rfl rfl (by simp) rfl rfl (by decide) (fun b2 hb2 => ?_)) | ((refine r_append0 hT (cs := o.flatMap bc1) (news := ([b] : List UInt8).flatMap bc1) rfl rfl rfl rfl rfl rfl rfl rfl rfl rfl rfl (own_fr hB1.own hb2) (sl_blk (upd_here ..) rfl) bc1_one (by dsimp only; omega) (by omega) (fun A' c' u3 hO3 hG3 hH3 => ?_) ; obtain ⟨hc3, hB3, hK3⟩ := hB1.push (x := [b]) (le_frsh (Le.refl u1) hb2) hO3 hG3 hH3)) | (refine r_store hT rfl rfl rfl rfl rfl rfl rfl rfl rfl rfl hc3 (by rw [hsz]; show pre.length + 1 + 1 ≤ _; omega) ?_) | (refine r_arith rfl rfl rfl rfl rfl rfl rfl (by omega) ?_) | (with_reducible refine r_seq ?_) | (with_reducible refine x_then ?_) | (with_reducible refine r_region ?_) | (refine r_draw hM (by kernel_rfl) ?_) | (with_reducible refine r_skip ?_) | (with_reducible refine r_ret ?_) | (with_reducible refine x_then_ret ?_) | (with_reducible refine r_block ?_) | (with_reducible refine x_block ?_) | (with_reducible refine x_block_ret ?_) | (with_reducible refine r_exit ?_) | (with_reducible refine x_then_exit ?_) | (with_reducible refine x_block_here ?_) | (refine x_block_past rfl ?_) | (refine c_yes rfl (by omega) ?_) | (refine c_no rfl (by omega) ?_) | (refine c_no rfl (fun h => h rfl) ?_) | (refine r_cond_false rfl ?_) | (refine r_cond_true rfl ?_) | (refine r_cond_dec rfl (fun _ => ?_) (fun _ => ?_)) | (refine r_cond_true rfl ?_) | (refine r_cond_false rfl ?_) | (refine c_not rfl (fun _ => ?_) (fun _ => ?_)) | (refine r_off rfl rfl rfl ?_) | (refine q_guard rfl rfl (fun _ => ?_) (fun _ => ?_)) | (refine q_guardn rfl rfl (fun _ => ?_) (fun _ => ?_)))
  have e1 : setL (bdC pre post (.pointer (some ⟨pb, pre.length, none⟩)) A o.length c).toArray.toList (pre.length + 1) [.slice A' (o.length + 1) c'] = bdC pre post (.pointer (some ⟨pb, pre.length, none⟩)) A' (o.length + 1) c' := bdC_sl _ _ _ _
  rw [e1]
  exact r_fin hT rfl ((A', c') : Option Addr × Nat) rfl rfl rfl trivial rfl ⟨hB3, fun z ox hz hA hu => hK3 z ox hz hA (by rw [hz1 z hz]; exact hu)⟩
theorem lenB (h0 u : Hp) (pb : Nat) (e : TypeId) (pre post : List Value) (ad : Value) (A : Option Addr) (c : Nat) (o : List UInt8) (hB : BSt h0 u pb e pre post ad A c o) :
    Pur Tryd.prog 71 [.v (.pointer (some ⟨pb, pre.length, none⟩))] u (fun y : Nat => .v (.int .i64 (y : Int))) o.length := by
  have hat := hB.at_
  refine enterS Tryd.func71 rfl (n := 8) rfl rfl (fun k N => ?_)
  repeat' (first | (refine r_pure hT rfl rfl rfl rfl ?_) | (refine r_new hT rfl rfl rfl rfl ?_) | (refine r_write hT rfl rfl rfl ?_) | (refine r_nil ?_) | (refine q_nil ?_) | (refine r_load hT hat rfl rfl rfl rfl rfl rfl rfl rfl rfl rfl rfl ?_) | (refine r_arith rfl rfl rfl rfl rfl rfl rfl (by omega) ?_) | (with_reducible refine r_seq ?_) | (with_reducible refine x_then ?_) | (with_reducible refine r_region ?_) | (refine r_draw hM (by kernel_rfl) ?_) | (with_reducible refine r_skip ?_) | (with_reducible refine r_ret ?_) | (with_reducible refine x_then_ret ?_) | (with_reducible refine r_block ?_) | (with_reducible refine x_block ?_) | (with_reducible refine x_block_ret ?_) | (with_reducible refine r_exit ?_) | (with_reducible refine x_then_exit ?_) | (with_reducible refine x_block_here ?_) | (refine x_block_past rfl ?_) | (refine c_yes rfl (by omega) ?_) | (refine c_no rfl (by omega) ?_) | (refine c_no rfl (fun h => h rfl) ?_) | (refine r_cond_false rfl ?_) | (refine r_cond_true rfl ?_) | (refine r_cond_dec rfl (fun _ => ?_) (fun _ => ?_)) | (refine r_cond_true rfl ?_) | (refine r_cond_false rfl ?_) | (refine c_not rfl (fun _ => ?_) (fun _ => ?_)) | (refine r_off rfl rfl rfl ?_) | (refine q_guard rfl rfl (fun _ => ?_) (fun _ => ?_)) | (refine q_guardn rfl rfl (fun _ => ?_) (fun _ => ?_)))
  exact r_fin hT rfl o.length rfl rfl rfl trivial rfl ⟨rfl, rfl⟩
end Go.Proofs.YtkamfnmbidnhdaaDoor
