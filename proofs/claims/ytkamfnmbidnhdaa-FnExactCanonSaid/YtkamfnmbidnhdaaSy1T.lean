/- The types and the functions of the translation, for the walk by a symbolic frame (written by wip/tools/sytypes.py). -/
import Derived.Test.YtkamfnmbidnhdaaProg
import Derived.Test.YtkamfnmbidnhdaaSyS
import Derived.KernelRfl
namespace Go.Proofs.Ytkamfnmbidnhdaa
open Go.Sy
def TT : List (Nat × TI) := [
  (2, ⟨.int .i64, 1, 8, [.int .i64]⟩),
  (3, ⟨.int .i64, 1, 8, [.int .i64]⟩),
  (4, ⟨.bool, 1, 1, [.bool]⟩),
  (5, ⟨.int .u8, 1, 1, [.int .u8]⟩),
  (9, ⟨.str, 1, 16, [.str]⟩),
  (26, ⟨.struct [(0, 1, false), (1, 1, false), (2, 1, false), (3, 1, false)], 4, 40, [.int .i64, .int .i64, .str, .int .i64]⟩),
  (28, ⟨.fn, 1, 8, [.fn]⟩),
  (29, ⟨.struct [(0, 1, false), (1, 1, false), (2, 1, false), (3, 1, false)], 4, 40, [.int .i64, .int .i64, .str, .int .i64]⟩),
  (32, ⟨.slice 67, 1, 24, [.sl]⟩),
  (37, ⟨.slice 5, 1, 24, [.sl]⟩),
  (41, ⟨.slice 117, 1, 24, [.sl]⟩),
  (43, ⟨.struct [(0, 4, true), (4, 1, false)], 5, 64, [.int .i64, .int .i64, .str, .int .i64, .sl]⟩),
  (46, ⟨.slice 80, 1, 24, [.sl]⟩),
  (48, ⟨.struct [(0, 4, true), (4, 1, false)], 5, 64, [.int .i64, .int .i64, .str, .int .i64, .sl]⟩),
  (52, ⟨.slice 26, 1, 24, [.sl]⟩),
  (55, ⟨.slice 29, 1, 24, [.sl]⟩),
  (67, ⟨.slice 3, 1, 24, [.sl]⟩),
  (70, ⟨.ptr, 1, 8, [.ptr]⟩),
  (71, ⟨.int .u64, 1, 8, [.int .u64]⟩),
  (73, ⟨.struct [(0, 1, false), (1, 1, false), (2, 1, false)], 3, 40, [.sl, .int .i64, .int .u64]⟩),
  (78, ⟨.slice 82, 1, 24, [.sl]⟩),
  (80, ⟨.struct [(0, 1, false)], 1, 24, [.sl]⟩),
  (82, ⟨.struct [(0, 4, true), (4, 4, true)], 8, 80, [.int .i64, .int .i64, .str, .int .i64, .int .i64, .int .i64, .str, .int .i64]⟩),
  (85, ⟨.map 29 3, 1, 8, [.mp]⟩),
  (88, ⟨.map 3 3, 1, 8, [.mp]⟩),
  (89, ⟨.fn, 1, 8, [.fn]⟩),
  (93, ⟨.struct [(0, 4, true), (4, 4, true), (8, 1, false)], 9, 104, [.int .i64, .int .i64, .str, .int .i64, .int .i64, .int .i64, .str, .int .i64, .sl]⟩),
  (94, ⟨.slice 93, 1, 24, [.sl]⟩),
  (99, ⟨.struct [(0, 1, false), (1, 1, false)], 2, 16, [.int .i64, .int .i64]⟩),
  (101, ⟨.struct [(0, 2, true), (2, 1, false)], 3, 40, [.int .i64, .int .i64, .sl]⟩),
  (102, ⟨.slice 101, 1, 24, [.sl]⟩),
  (103, ⟨.map 99 3, 1, 8, [.mp]⟩),
  (115, ⟨.slice 146, 1, 24, [.sl]⟩),
  (117, ⟨.struct [(0, 1, false)], 1, 24, [.sl]⟩),
  (120, ⟨.ptr, 1, 8, [.ptr]⟩),
  (122, ⟨.struct [(0, 5, true), (5, 1, false), (6, 1, false)], 7, 112, [.int .i64, .int .i64, .str, .int .i64, .sl, .sl, .sl]⟩),
  (125, ⟨.slice 78, 1, 24, [.sl]⟩),
  (129, ⟨.int .u64, 1, 8, [.int .u64]⟩),
  (135, ⟨.int .i64, 1, 8, [.int .i64]⟩),
  (142, ⟨.int .u32, 1, 4, [.int .u32]⟩),
  (146, ⟨.struct [(0, 4, true), (4, 4, true)], 8, 80, [.int .i64, .int .i64, .str, .int .i64, .int .i64, .int .i64, .str, .int .i64]⟩),
  (149, ⟨.int .u64, 1, 8, [.int .u64]⟩),
  (153, ⟨.ptr, 1, 8, [.ptr]⟩)]
set_option maxRecDepth 100000 in
theorem hT : TOK Try.prog TT := TOK.of (by kernel_rfl)
set_option maxRecDepth 100000 in
theorem hC (f : Nat) (h : ([2, 3, 4, 5, 6, 7, 8, 9, 10, 11, 12, 13, 14, 15, 16, 17, 18, 19, 20, 21, 22, 23, 24, 25, 26, 27, 28, 29, 30, 31, 32, 33, 34, 35, 36, 37, 38, 39, 40, 41, 42, 43, 44, 45, 46, 47, 48, 49, 50, 51, 52, 53, 54, 55, 56, 57, 58, 59, 60, 61, 62, 63, 64, 65, 66, 67, 68, 69, 70, 71, 72, 73, 74, 75, 76, 77, 78, 79, 80, 81, 82, 83, 84, 85, 86, 87, 88, 89, 90, 91, 92, 93, 94, 95, 96, 97, 98, 99, 100, 101, 102, 103, 104, 106, 107, 108, 109, 110, 111, 112, 113, 114].contains f) = true) : callable Try.prog f = true := by
  have h2 : ([2, 3, 4, 5, 6, 7, 8, 9, 10, 11, 12, 13, 14, 15, 16, 17, 18, 19, 20, 21, 22, 23, 24, 25, 26, 27, 28, 29, 30, 31, 32, 33, 34, 35, 36, 37, 38, 39, 40, 41, 42, 43, 44, 45, 46, 47, 48, 49, 50, 51, 52, 53, 54, 55, 56, 57, 58, 59, 60, 61, 62, 63, 64, 65, 66, 67, 68, 69, 70, 71, 72, 73, 74, 75, 76, 77, 78, 79, 80, 81, 82, 83, 84, 85, 86, 87, 88, 89, 90, 91, 92, 93, 94, 95, 96, 97, 98, 99, 100, 101, 102, 103, 104, 106, 107, 108, 109, 110, 111, 112, 113, 114].all fun f => callable Try.prog f) = true := by kernel_rfl
  exact List.all_eq_true.1 h2 f (by simpa using h)
theorem hM : Try.prog.follows .mixedOrders = true := by kernel_rfl
end Go.Proofs.Ytkamfnmbidnhdaa
