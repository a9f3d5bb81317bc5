/- The types and the functions of the translation, for the walk by a symbolic frame (written by wip/tools/sytypes.py). -/
import Derived.Test.YtkamfnmbidnhdaaDoorProg
import Derived.Test.YtkamfnmbidnhdaaDoorSyS
import Derived.KernelRfl
set_option linter.unusedVariables false
set_option linter.unusedSimpArgs false
set_option linter.unusedSectionVars false
namespace Go.Proofs.YtkamfnmbidnhdaaDoor
open Go.Sy
def TT : List (Nat × TI) := [
  (2, ⟨.int .i64, 1, 8, [.int .i64]⟩),
  (3, ⟨.int .i64, 1, 8, [.int .i64]⟩),
  (4, ⟨.bool, 1, 1, [.bool]⟩),
  (5, ⟨.int .u8, 1, 1, [.int .u8]⟩),
  (9, ⟨.str, 1, 16, [.str]⟩),
  (20, ⟨.ifc, 1, 16, [.ifc]⟩),
  (22, ⟨.slice 5, 1, 24, [.sl]⟩),
  (24, ⟨.slice 25, 1, 24, [.sl]⟩),
  (25, ⟨.slice 3, 1, 24, [.sl]⟩),
  (26, ⟨.slice 76, 1, 24, [.sl]⟩),
  (28, ⟨.struct [(0, 1, false), (1, 1, false), (2, 1, false)], 3, 56, [.int .i64, .sl, .sl]⟩),
  (42, ⟨.struct [(0, 1, false), (1, 1, false), (2, 1, false), (3, 1, false)], 4, 40, [.int .i64, .int .i64, .str, .int .i64]⟩),
  (43, ⟨.slice 135, 1, 24, [.sl]⟩),
  (45, ⟨.struct [(0, 4, true), (4, 1, false)], 5, 64, [.int .i64, .int .i64, .str, .int .i64, .sl]⟩),
  (48, ⟨.struct [(0, 1, false), (1, 1, false), (2, 1, false), (3, 1, false)], 4, 40, [.int .i64, .int .i64, .str, .int .i64]⟩),
  (49, ⟨.slice 59, 1, 24, [.sl]⟩),
  (51, ⟨.struct [(0, 4, true), (4, 1, false)], 5, 64, [.int .i64, .int .i64, .str, .int .i64, .sl]⟩),
  (57, ⟨.slice 61, 1, 24, [.sl]⟩),
  (59, ⟨.struct [(0, 1, false)], 1, 24, [.sl]⟩),
  (61, ⟨.struct [(0, 4, true), (4, 4, true)], 8, 80, [.int .i64, .int .i64, .str, .int .i64, .int .i64, .int .i64, .str, .int .i64]⟩),
  (62, ⟨.slice 48, 1, 24, [.sl]⟩),
  (72, ⟨.ifc, 1, 16, [.ifc]⟩),
  (76, ⟨.struct [(0, 1, false), (1, 1, false)], 2, 16, [.int .i64, .int .i64]⟩),
  (77, ⟨.fn, 1, 8, [.fn]⟩),
  (78, ⟨.ptr, 1, 8, [.ptr]⟩),
  (80, ⟨.struct [(0, 1, false), (1, 1, false), (2, 1, false)], 3, 56, [.sl, .sl, .bool]⟩),
  (89, ⟨.ptr, 1, 8, [.ptr]⟩),
  (90, ⟨.map 3 3, 1, 8, [.mp]⟩),
  (91, ⟨.ptr, 1, 8, [.ptr]⟩),
  (93, ⟨.struct [(0, 1, false), (1, 1, false)], 2, 32, [.ptr, .sl]⟩),
  (95, ⟨.struct [(0, 5, true), (5, 1, false), (6, 1, false), (7, 2, true)], 9, 128, [.int .i64, .int .i64, .str, .int .i64, .sl, .sl, .mp, .ptr, .sl]⟩),
  (103, ⟨.fn, 1, 8, [.fn]⟩),
  (106, ⟨.struct [(0, 1, false), (1, 1, false)], 2, 16, [.int .i64, .int .i64]⟩),
  (108, ⟨.struct [(0, 2, true), (2, 1, false)], 3, 40, [.int .i64, .int .i64, .sl]⟩),
  (109, ⟨.slice 108, 1, 24, [.sl]⟩),
  (110, ⟨.map 106 3, 1, 8, [.mp]⟩),
  (113, ⟨.fn, 1, 8, [.fn]⟩),
  (119, ⟨.ptr, 1, 8, [.ptr]⟩),
  (120, ⟨.int .u64, 1, 8, [.int .u64]⟩),
  (122, ⟨.struct [(0, 1, false), (1, 1, false), (2, 1, false)], 3, 40, [.sl, .int .i64, .int .u64]⟩),
  (126, ⟨.struct [(0, 1, false)], 1, 16, [.ifc]⟩),
  (133, ⟨.slice 196, 1, 24, [.sl]⟩),
  (135, ⟨.struct [(0, 1, false)], 1, 24, [.sl]⟩),
  (138, ⟨.ptr, 1, 8, [.ptr]⟩),
  (140, ⟨.struct [(0, 5, true), (5, 1, false), (6, 1, false), (7, 1, false), (8, 1, false)], 9, 144, [.int .i64, .int .i64, .str, .int .i64, .sl, .sl, .sl, .int .i64, .sl]⟩),
  (143, ⟨.map 48 3, 1, 8, [.mp]⟩),
  (151, ⟨.ptr, 1, 8, [.ptr]⟩),
  (153, ⟨.slice 57, 1, 24, [.sl]⟩),
  (154, ⟨.map 9 3, 1, 8, [.mp]⟩),
  (158, ⟨.fn, 1, 8, [.fn]⟩),
  (162, ⟨.int .u64, 1, 8, [.int .u64]⟩),
  (170, ⟨.ptr, 1, 8, [.ptr]⟩),
  (172, ⟨.struct [(0, 5, true), (5, 1, false), (6, 1, false)], 7, 112, [.int .i64, .int .i64, .str, .int .i64, .sl, .sl, .sl]⟩),
  (183, ⟨.int .i64, 1, 8, [.int .i64]⟩),
  (190, ⟨.int .u32, 1, 4, [.int .u32]⟩),
  (196, ⟨.struct [(0, 4, true), (4, 4, true)], 8, 80, [.int .i64, .int .i64, .str, .int .i64, .int .i64, .int .i64, .str, .int .i64]⟩),
  (200, ⟨.arr 24 5, 24, 24, [.int .u8, .int .u8, .int .u8, .int .u8, .int .u8, .int .u8, .int .u8, .int .u8, .int .u8, .int .u8, .int .u8, .int .u8, .int .u8, .int .u8, .int .u8, .int .u8, .int .u8, .int .u8, .int .u8, .int .u8, .int .u8, .int .u8, .int .u8, .int .u8]⟩),
  (210, ⟨.int .u64, 1, 8, [.int .u64]⟩),
  (214, ⟨.ptr, 1, 8, [.ptr]⟩),
  (217, ⟨.arr 20 120, 20, 160, [.int .u64, .int .u64, .int .u64, .int .u64, .int .u64, .int .u64, .int .u64, .int .u64, .int .u64, .int .u64, .int .u64, .int .u64, .int .u64, .int .u64, .int .u64, .int .u64, .int .u64, .int .u64, .int .u64, .int .u64]⟩),
  (226, ⟨.arr 32 5, 32, 32, [.int .u8, .int .u8, .int .u8, .int .u8, .int .u8, .int .u8, .int .u8, .int .u8, .int .u8, .int .u8, .int .u8, .int .u8, .int .u8, .int .u8, .int .u8, .int .u8, .int .u8, .int .u8, .int .u8, .int .u8, .int .u8, .int .u8, .int .u8, .int .u8, .int .u8, .int .u8, .int .u8, .int .u8, .int .u8, .int .u8, .int .u8, .int .u8]⟩),
  (228, ⟨.ptr, 1, 8, [.ptr]⟩),
  (242, ⟨.struct [(0, 1, false)], 1, 16, [.str]⟩)]
set_option maxRecDepth 100000 in
theorem hT : TOK Tryd.prog TT := TOK.of (by kernel_rfl)
set_option maxRecDepth 100000 in
theorem hC (f : Nat) (h : ([2, 3, 4, 5, 6, 7, 8, 9, 10, 11, 12, 13, 14, 15, 16, 17, 18, 19, 20, 21, 22, 23, 24, 25, 26, 27, 28, 29, 30, 31, 32, 33, 34, 35, 36, 37, 38, 39, 40, 41, 42, 43, 44, 45, 46, 47, 48, 49, 50, 51, 52, 53, 54, 55, 56, 57, 58, 59, 60, 61, 62, 63, 64, 65, 66, 67, 68, 69, 70, 71, 72, 73, 74, 75, 76, 77, 78, 79, 80, 81, 82, 83, 84, 85, 86, 87, 88, 89, 90, 91, 92, 93, 94, 95, 96, 97, 98, 99, 100, 101, 102, 103, 104, 105, 106, 107, 108, 109, 110, 111, 112, 113, 114, 115, 116, 117, 118, 119, 120, 121, 122, 123, 124, 125, 126, 127, 128, 129, 130, 131, 132, 133, 134, 135, 136, 137, 138, 139, 140, 141, 142, 143, 144, 145, 146, 147, 148, 149, 150, 151, 152, 153, 154, 155, 156, 157, 158, 159, 160, 161, 162, 163, 165, 166, 167, 168, 169, 170, 171, 172, 173, 174, 175, 176, 177, 178, 179, 180, 181, 182, 184, 185, 186, 187, 188, 189, 190, 191, 192, 193, 194, 214, 221].contains f) = true) : callable Tryd.prog f = true := by
  have h2 : ([2, 3, 4, 5, 6, 7, 8, 9, 10, 11, 12, 13, 14, 15, 16, 17, 18, 19, 20, 21, 22, 23, 24, 25, 26, 27, 28, 29, 30, 31, 32, 33, 34, 35, 36, 37, 38, 39, 40, 41, 42, 43, 44, 45, 46, 47, 48, 49, 50, 51, 52, 53, 54, 55, 56, 57, 58, 59, 60, 61, 62, 63, 64, 65, 66, 67, 68, 69, 70, 71, 72, 73, 74, 75, 76, 77, 78, 79, 80, 81, 82, 83, 84, 85, 86, 87, 88, 89, 90, 91, 92, 93, 94, 95, 96, 97, 98, 99, 100, 101, 102, 103, 104, 105, 106, 107, 108, 109, 110, 111, 112, 113, 114, 115, 116, 117, 118, 119, 120, 121, 122, 123, 124, 125, 126, 127, 128, 129, 130, 131, 132, 133, 134, 135, 136, 137, 138, 139, 140, 141, 142, 143, 144, 145, 146, 147, 148, 149, 150, 151, 152, 153, 154, 155, 156, 157, 158, 159, 160, 161, 162, 163, 165, 166, 167, 168, 169, 170, 171, 172, 173, 174, 175, 176, 177, 178, 179, 180, 181, 182, 184, 185, 186, 187, 188, 189, 190, 191, 192, 193, 194, 214, 221].all fun f => callable Tryd.prog f) = true := by kernel_rfl
  exact List.all_eq_true.1 h2 f (by simpa using h)
theorem hM : Tryd.prog.follows .mixedOrders = true := by kernel_rfl
end Go.Proofs.YtkamfnmbidnhdaaDoor
