/- The types and the functions of the translation, for the walk by a symbolic frame (written by wip/tools/sytypes.py). -/
import Derived.Test.YtkamfnmbidnhdaaDoorProg
import Derived.Test.YtkamfnmbidnhdaaDoorSqAG
import Derived.KernelRfl
import Derived.Test.YtkamfnmbidnhdaaDoorSqAE
import Derived.Test.YtkamfnmbidnhdaaDoorSqAH
set_option linter.unusedVariables false
set_option linter.unusedSimpArgs false
set_option linter.unusedSectionVars false
namespace Go.Proofs.YtkamfnmbidnhdaaDoor
open Go.Sy
def TT : List (Nat × TI) := [
  (2, ⟨.int .i64, 1, 8, [.int .i64]⟩),
  (3, ⟨.int .i64, 1, 8, [.int .i64]⟩),
  (4, ⟨.bool, 1, 1, [.bool]⟩),
  (5, ⟨.int .u8, 1, 1, [.int .u8]⟩),
  (9, ⟨.str, 1, 16, [.str]⟩),
  (20, ⟨.ifc, 1, 16, [.ifc]⟩),
  (22, ⟨.slice 5, 1, 24, [.sl]⟩),
  (24, ⟨.slice 25, 1, 24, [.sl]⟩),
  (25, ⟨.slice 3, 1, 24, [.sl]⟩),
  (26, ⟨.slice 76, 1, 24, [.sl]⟩),
  (28, ⟨.struct [(0, 1, false), (1, 1, false), (2, 1, false)], 3, 56, [.int .i64, .sl, .sl]⟩),
  (42, ⟨.struct [(0, 1, false), (1, 1, false), (2, 1, false), (3, 1, false)], 4, 40, [.int .i64, .int .i64, .str, .int .i64]⟩),
  (43, ⟨.slice 135, 1, 24, [.sl]⟩),
  (45, ⟨.struct [(0, 4, true), (4, 1, false)], 5, 64, [.int .i64, .int .i64, .str, .int .i64, .sl]⟩),
  (48, ⟨.struct [(0, 1, false), (1, 1, false), (2, 1, false), (3, 1, false)], 4, 40, [.int .i64, .int .i64, .str, .int .i64]⟩),
  (49, ⟨.slice 59, 1, 24, [.sl]⟩),
  (51, ⟨.struct [(0, 4, true), (4, 1, false)], 5, 64, [.int .i64, .int .i64, .str, .int .i64, .sl]⟩),
  (57, ⟨.slice 61, 1, 24, [.sl]⟩),
  (59, ⟨.struct [(0, 1, false)], 1, 24, [.sl]⟩),
  (61, ⟨.struct [(0, 4, true), (4, 4, true)], 8, 80, [.int .i64, .int .i64, .str, .int .i64, .int .i64, .int .i64, .str, .int .i64]⟩),
  (62, ⟨.slice 48, 1, 24, [.sl]⟩),
  (72, ⟨.ifc, 1, 16, [.ifc]⟩),
  (76, ⟨.struct [(0, 1, false), (1, 1, false)], 2, 16, [.int .i64, .int .i64]⟩),
  (77, ⟨.fn, 1, 8, [.fn]⟩),
  (78, ⟨.ptr, 1, 8, [.ptr]⟩),
  (80, ⟨.struct [(0, 1, false), (1, 1, false), (2, 1, false)], 3, 56, [.sl, .sl, .bool]⟩),
  (89, ⟨.ptr, 1, 8, [.ptr]⟩),
  (90, ⟨.map 3 3, 1, 8, [.mp]⟩),
  (91, ⟨.ptr, 1, 8, [.ptr]⟩),
  (93, ⟨.struct [(0, 1, false), (1, 1, false)], 2, 32, [.ptr, .sl]⟩),
  (95, ⟨.struct [(0, 5, true), (5, 1, false), (6, 1, false), (7, 2, true)], 9, 128, [.int .i64, .int .i64, .str, .int .i64, .sl, .sl, .mp, .ptr, .sl]⟩),
  (103, ⟨.fn, 1, 8, [.fn]⟩),
  (106, ⟨.struct [(0, 1, false), (1, 1, false)], 2, 16, [.int .i64, .int .i64]⟩),
  (108, ⟨.struct [(0, 2, true), (2, 1, false)], 3, 40, [.int .i64, .int .i64, .sl]⟩),
  (109, ⟨.slice 108, 1, 24, [.sl]⟩),
  (110, ⟨.map 106 3, 1, 8, [.mp]⟩),
  (113, ⟨.fn, 1, 8, [.fn]⟩),
  (119, ⟨.ptr, 1, 8, [.ptr]⟩),
  (120, ⟨.int .u64, 1, 8, [.int .u64]⟩),
  (122, ⟨.struct [(0, 1, false), (1, 1, false), (2, 1, false)], 3, 40, [.sl, .int .i64, .int .u64]⟩),
  (126, ⟨.struct [(0, 1, false)], 1, 16, [.ifc]⟩),
  (133, ⟨.slice 196, 1, 24, [.sl]⟩),
  (135, ⟨.struct [(0, 1, false)], 1, 24, [.sl]⟩),
  (138, ⟨.ptr, 1, 8, [.ptr]⟩),
  (140, ⟨.struct [(0, 5, true), (5, 1, false), (6, 1, false), (7, 1, false), (8, 1, false)], 9, 144, [.int .i64, .int .i64, .str, .int .i64, .sl, .sl, .sl, .int .i64, .sl]⟩),
  (143, ⟨.map 48 3, 1, 8, [.mp]⟩),
  (151, ⟨.ptr, 1, 8, [.ptr]⟩),
  (153, ⟨.slice 57, 1, 24, [.sl]⟩),
  (154, ⟨.map 9 3, 1, 8, [.mp]⟩),
  (158, ⟨.fn, 1, 8, [.fn]⟩),
  (162, ⟨.int .u64, 1, 8, [.int .u64]⟩),
  (170, ⟨.ptr, 1, 8, [.ptr]⟩),
  (172, ⟨.struct [(0, 5, true), (5, 1, false), (6, 1, false)], 7, 112, [.int .i64, .int .i64, .str, .int .i64, .sl, .sl, .sl]⟩),
  (183, ⟨.int .i64, 1, 8, [.int .i64]⟩),
  (190, ⟨.int .u32, 1, 4, [.int .u32]⟩),
  (196, ⟨.struct [(0, 4, true), (4, 4, true)], 8, 80, [.int .i64, .int .i64, .str, .int .i64, .int .i64, .int .i64, .str, .int .i64]⟩),
  (200, ⟨.arr 24 5, 24, 24, [.int .u8, .int .u8, .int .u8, .int .u8, .int .u8, .int .u8, .int .u8, .int .u8, .int .u8, .int .u8, .int .u8, .int .u8, .int .u8, .int .u8, .int .u8, .int .u8, .int .u8, .int .u8, .int .u8, .int .u8, .int .u8, .int .u8, .int .u8, .int .u8]⟩),
  (210, ⟨.int .u64, 1, 8, [.int .u64]⟩),
  (214, ⟨.ptr, 1, 8, [.ptr]⟩),
  (217, ⟨.arr 20 120, 20, 160, [.int .u64, .int .u64, .int .u64, .int .u64, .int .u64, .int .u64, .int .u64, .int .u64, .int .u64, .int .u64, .int .u64, .int .u64, .int .u64, .int .u64, .int .u64, .int .u64, .int .u64, .int .u64, .int .u64, .int .u64]⟩),
  (226, ⟨.arr 32 5, 32, 32, [.int .u8, .int .u8, .int .u8, .int .u8, .int .u8, .int .u8, .int .u8, .int .u8, .int .u8, .int .u8, .int .u8, .int .u8, .int .u8, .int .u8, .int .u8, .int .u8, .int .u8, .int .u8, .int .u8, .int .u8, .int .u8, .int .u8, .int .u8, .int .u8, .int .u8, .int .u8, .int .u8, .int .u8, .int .u8, .int .u8, .int .u8, .int .u8]⟩),
  (228, ⟨.ptr, 1, 8, [.ptr]⟩),
  (242, ⟨.struct [(0, 1, false)], 1, 16, [.str]⟩)]
set_option maxRecDepth 100000 in
theorem hT : TOK Tryd.prog TT := TOK.of (by kernel_rfl)
set_option maxRecDepth 100000 in
theorem hC (f : Nat) (h : ([2, 3, 4, 5, 6, 7, 8, 9, 10, 11, 12, 13, 14, 15, 16, 17, 18, 19, 20, 21, 22, 23, 24, 25, 26, 27, 28, 29, 30, 31, 32, 33, 34, 35, 36, 37, 38, 39, 40, 41, 42, 43, 44, 45, 46, 47, 48, 49, 50, 51, 52, 53, 54, 55, 56, 57, 58, 59, 60, 61, 62, 63, 64, 65, 66, 67, 68, 69, 70, 71, 72, 73, 74, 75, 76, 77, 78, 79, 80, 81, 82, 83, 84, 85, 86, 87, 88, 89, 90, 91, 92, 93, 94, 95, 96, 97, 98, 99, 100, 101, 102, 103, 104, 105, 106, 107, 108, 109, 110, 111, 112, 113, 114, 115, 116, 117, 118, 119, 120, 121, 122, 123, 124, 125, 126, 127, 128, 129, 130, 131, 132, 133, 134, 135, 136, 137, 138, 139, 140, 141, 142, 143, 144, 145, 146, 147, 148, 149, 150, 151, 152, 153, 154, 155, 156, 157, 158, 159, 160, 161, 162, 163, 165, 166, 167, 168, 169, 170, 171, 172, 173, 174, 175, 176, 177, 178, 179, 180, 181, 182, 184, 185, 186, 187, 188, 189, 190, 191, 192, 193, 194, 214, 221].contains f) = true) : callable Tryd.prog f = true := by
  have h2 : ([2, 3, 4, 5, 6, 7, 8, 9, 10, 11, 12, 13, 14, 15, 16, 17, 18, 19, 20, 21, 22, 23, 24, 25, 26, 27, 28, 29, 30, 31, 32, 33, 34, 35, 36, 37, 38, 39, 40, 41, 42, 43, 44, 45, 46, 47, 48, 49, 50, 51, 52, 53, 54, 55, 56, 57, 58, 59, 60, 61, 62, 63, 64, 65, 66, 67, 68, 69, 70, 71, 72, 73, 74, 75, 76, 77, 78, 79, 80, 81, 82, 83, 84, 85, 86, 87, 88, 89, 90, 91, 92, 93, 94, 95, 96, 97, 98, 99, 100, 101, 102, 103, 104, 105, 106, 107, 108, 109, 110, 111, 112, 113, 114, 115, 116, 117, 118, 119, 120, 121, 122, 123, 124, 125, 126, 127, 128, 129, 130, 131, 132, 133, 134, 135, 136, 137, 138, 139, 140, 141, 142, 143, 144, 145, 146, 147, 148, 149, 150, 151, 152, 153, 154, 155, 156, 157, 158, 159, 160, 161, 162, 163, 165, 166, 167, 168, 169, 170, 171, 172, 173, 174, 175, 176, 177, 178, 179, 180, 181, 182, 184, 185, 186, 187, 188, 189, 190, 191, 192, 193, 194, 214, 221].all fun f => callable Tryd.prog f) = true := by kernel_rfl
  exact List.all_eq_true.1 h2 f (by simpa using h)
theorem hM : Tryd.prog.follows .mixedOrders = true := by kernel_rfl
end Go.Proofs.YtkamfnmbidnhdaaDoor
/- Rows of rows, of whatever elements. -/
namespace Go.Sy
/-- A slice of slices of pairs. -/
def TabG {α : Type} (c : α → List Value) (sz : Nat) (u : Hp) (A : Option Addr) (n : Nat) (ts : List (List α)) : Prop :=
  ∃ hs : List Hd, hs.length = ts.length ∧ Rd Hd.v 1 u A n hs ∧ ∀ (i : Nat) (h : Hd) (t : List α), hs[i]? = some h → ts[i]? = some t → h.n ≤ h.c ∧ Rd c sz u h.A h.n t
theorem TabG.le {α : Type} {c : α → List Value} {sz : Nat} {u u' : Hp} {A : Option Addr} {n : Nat} {ts : List (List α)} (h : TabG c sz u A n ts) (hl : Le u u') : TabG c sz u' A n ts :=
  let ⟨hs, h1, h2, h3⟩ := h; ⟨hs, h1, h2.le hl, fun i x t hx ht => ⟨(h3 i x t hx ht).1, (h3 i x t hx ht).2.le hl⟩⟩
theorem TabG.len {α : Type} {c : α → List Value} {sz : Nat} {u : Hp} {A : Option Addr} {n : Nat} {ts : List (List α)} (h : TabG c sz u A n ts) : n = ts.length := let ⟨_, h1, h2, _⟩ := h; h2.1.trans h1
theorem TabG.elem {α : Type} {c : α → List Value} {sz : Nat} {u : Hp} {A : Option Addr} {n : Nat} {ts : List (List α)} (h : TabG c sz u A n ts) {i : Nat} (hi : i < ts.length) :
    ∃ b off A' n' c' t, A = some ⟨b, off, none⟩ ∧ ts.drop i = t :: ts.drop (i + 1) ∧ ts[i]? = some t ∧ t ∈ ts ∧ At u b (off + i * 1) [.slice A' n' c'] ∧ n' ≤ c' ∧ Rd c sz u A' n' t := by
  obtain ⟨hs, h1, h2, h3⟩ := h
  obtain ⟨b, off, x, e1, e2, e3, e4, e5⟩ := h2.elem Hd.v_len (i := i) (by omega)
  have ht := List.getElem?_eq_getElem hi
  obtain ⟨g1, g2⟩ := h3 i x ts[i] e3 ht
  exact ⟨b, off, x.A, x.n, x.c, ts[i], e1, List.drop_eq_getElem_cons hi, ht, List.getElem_mem hi, e5, g1, g2⟩
/-- Rows of their own, all apart, none the block X. -/
structure ORowG {α : Type} (cc : α → List Value) (sz : Nat) (u : Hp) (eP : TypeId) (X : Option Nat) (hs : List Hd) (ts : List (List α)) : Prop where
  len : hs.length = ts.length
  rows : ∀ (i : Nat) (x : Hd) (t : List α), hs[i]? = some x → ts[i]? = some t → x.n = t.length ∧ Own u x.A x.n x.c eP sz (t.flatMap cc)
  apart : ∀ (i : Nat) (x : Hd) (b : Nat), hs[i]? = some x → blk x.A = some b → X ≠ some b ∧ ∀ (j : Nat) (y : Hd), hs[j]? = some y → blk y.A = some b → i = j
theorem ORowG.nil {α : Type} {cc : α → List Value} {sz : Nat} {u : Hp} {eP : TypeId} {X : Option Nat} : ORowG cc sz u eP X [] [] := ⟨rfl, fun i x t h => by simp at h, fun i x b h => by simp at h⟩
theorem ORowG.live {α : Type} {cc : α → List Value} {sz : Nat} {u : Hp} {eP : TypeId} {X : Option Nat} {hs : List Hd} {ts : List (List α)} (h : ORowG cc sz u eP X hs ts) {x : Hd} (hx : x ∈ hs) {b : Nat} (hb : blk x.A = some b) : u b ≠ none := by
  obtain ⟨i, hi, e⟩ := List.getElem_of_mem hx
  have h1 : hs[i]? = some x := by rw [List.getElem?_eq_getElem hi, e]
  have h2 : i < ts.length := by have := h.len; omega
  exact (h.rows i x ts[i] h1 (List.getElem?_eq_getElem h2)).2.live hb
theorem ORowG.keep {α : Type} {cc : α → List Value} {sz : Nat} {u u' : Hp} {eP : TypeId} {X : Option Nat} {hs : List Hd} {ts : List (List α)} (h : ORowG cc sz u eP X hs ts) (hl : ∀ b o, (∃ x ∈ hs, blk x.A = some b) → u b = some o → u' b = some o) : ORowG cc sz u' eP X hs ts :=
  ⟨h.len, fun i x t hx ht => ⟨(h.rows i x t hx ht).1, (h.rows i x t hx ht).2.le fun b o hb => hl b o ⟨x, List.mem_of_getElem? hx, hb⟩⟩, h.apart⟩
theorem ORowG.snoc {α : Type} {cc : α → List Value} {sz : Nat} {u u' : Hp} {eP : TypeId} {X : Option Nat} {hs : List Hd} {ts : List (List α)} (h : ORowG cc sz u eP X hs ts) (hl : ∀ b o, (∃ x ∈ hs, blk x.A = some b) → u b = some o → u' b = some o) {y : Hd} {t : List α} (hn : y.n = t.length)
    (hy : Own u' y.A y.n y.c eP sz (t.flatMap cc)) (hX : ∀ b, blk y.A = some b → X ≠ some b ∧ u b = none) : ORowG cc sz u' eP X (hs ++ [y]) (ts ++ [t]) := by
  have hk := h.keep hl
  have hlen := h.len
  have hcase : ∀ {i : Nat} {x : Hd}, (hs ++ [y])[i]? = some x → (i < hs.length ∧ hs[i]? = some x) ∨ (i = hs.length ∧ x = y) := fun {i x} hx => by
    by_cases hi : i < hs.length
    · rw [List.getElem?_append_left hi] at hx; exact .inl ⟨hi, hx⟩
    · have h1 : i < (hs ++ [y]).length := (List.getElem?_eq_some_iff.1 hx).1
      simp at h1
      have : i = hs.length := by omega
      subst this
      simp at hx
      exact .inr ⟨rfl, hx.symm⟩
  refine ⟨by simp [hlen], fun i x t' hx ht => ?_, fun i x b hx hb => ?_⟩
  · rcases hcase hx with ⟨hi, hx⟩ | ⟨hi, rfl⟩
    · rw [List.getElem?_append_left (by omega)] at ht; exact hk.rows i x t' hx ht
    · rw [hi, hlen] at ht; simp at ht; subst ht; exact ⟨hn, hy⟩
  · rcases hcase hx with ⟨hi, hx1⟩ | ⟨hi, rfl⟩
    · refine ⟨(h.apart i x b hx1 hb).1, fun j z hz hzb => ?_⟩
      rcases hcase hz with ⟨hj, hz1⟩ | ⟨hj, rfl⟩
      · exact (h.apart i x b hx1 hb).2 j z hz1 hzb
      · exact absurd (hX b hzb).2 (h.live (List.mem_of_getElem? hx1) hb)
    · refine ⟨(hX b hb).1, fun j z hz hzb => ?_⟩
      rcases hcase hz with ⟨hj, hz1⟩ | ⟨hj, rfl⟩
      · exact absurd (hX b hb).2 (h.live (List.mem_of_getElem? hz1) hzb)
      · rw [hi, hj]
/-- Owned tables: the row of headers, and each table's own row, all apart. -/
structure OTG {α : Type} (cc : α → List Value) (sz : Nat) (u : Hp) (eT eP : TypeId) (A : Option Addr) (n c : Nat) (hs : List Hd) (ts : List (List α)) : Prop where
  num : n = ts.length
  own : Own u A n c eT 1 (hs.flatMap Hd.v)
  rows : ORowG cc sz u eP (blk A) hs ts
theorem OTG.tabs {α : Type} {cc : α → List Value} {sz : Nat} {u : Hp} {eT eP : TypeId} {A : Option Addr} {n c : Nat} {hs : List Hd} {ts : List (List α)} (h : OTG cc sz u eT eP A n c hs ts) : TabG cc sz u A n ts :=
  ⟨hs, h.rows.len, ⟨by rw [h.num, h.rows.len], h.own.sl⟩, fun i x t hx ht => ⟨(h.rows.rows i x t hx ht).2.cap, (h.rows.rows i x t hx ht).1, (h.rows.rows i x t hx ht).2.sl⟩⟩
theorem OTG.keep {α : Type} {cc : α → List Value} {sz : Nat} {u u' : Hp} {eT eP : TypeId} {A : Option Addr} {n c : Nat} {hs : List Hd} {ts : List (List α)} (h : OTG cc sz u eT eP A n c hs ts) (hl : ∀ b o, (blk A = some b ∨ ∃ x ∈ hs, blk x.A = some b) → u b = some o → u' b = some o) : OTG cc sz u' eT eP A n c hs ts :=
  ⟨h.num, h.own.le fun b o hb => hl b o (.inl hb), h.rows.keep fun b o hb => hl b o (.inr hb)⟩
theorem OTG.le {α : Type} {cc : α → List Value} {sz : Nat} {u u' : Hp} {eT eP : TypeId} {A : Option Addr} {n c : Nat} {hs : List Hd} {ts : List (List α)} (h : OTG cc sz u eT eP A n c hs ts) (hl : Le u u') : OTG cc sz u' eT eP A n c hs ts := h.keep fun b o _ => hl b o
theorem OTG.elem {α : Type} {cc : α → List Value} {sz : Nat} {u : Hp} {eT eP : TypeId} {A : Option Addr} {n c : Nat} {hs : List Hd} {ts : List (List α)} (h : OTG cc sz u eT eP A n c hs ts) {i : Nat} (hi : i < ts.length) :
    ∃ b off y t, A = some ⟨b, off, none⟩ ∧ ts.drop i = t :: ts.drop (i + 1) ∧ hs[i]? = some y ∧ ts[i]? = some t ∧ t ∈ ts ∧ At u b (off + i * 1) [.slice y.A y.n y.c] ∧ y.n = t.length ∧ Own u y.A y.n y.c eP sz (t.flatMap cc) := by
  have hR : Rd Hd.v 1 u A n hs := ⟨by rw [h.num, h.rows.len], h.own.sl⟩
  obtain ⟨b, off, y, e1, e2, e3, e4, e5⟩ := hR.elem Hd.v_len (i := i) (by rw [h.rows.len]; exact hi)
  have ht := List.getElem?_eq_getElem hi
  obtain ⟨g1, g2⟩ := h.rows.rows i y ts[i] e3 ht
  exact ⟨b, off, y, ts[i], e1, List.drop_eq_getElem_cons hi, e3, ht, List.getElem_mem hi, e5, g1, g2⟩
/-- One row is another now. -/
theorem OTG.set {α : Type} {cc : α → List Value} {sz : Nat} {u u' : Hp} {eT eP : TypeId} {A : Option Addr} {n c : Nat} {hs : List Hd} {pre post : List (List α)} {t t' : List α} {y : Hd} (h : OTG cc sz u eT eP A n c hs (pre ++ t :: post)) (hy : hs[pre.length]? = some y) (hl : t'.length = t.length)
    (hO : Own u' y.A y.n y.c eP sz (t'.flatMap cc)) (hu : ∀ b, blk y.A ≠ some b → u' b = u b) : OTG cc sz u' eT eP A n c hs (pre ++ t' :: post) := by
  refine ⟨by have := h.num; simp at this ⊢; omega, h.own.le fun b o hb ho => ?_, ⟨by have := h.rows.len; simp at this ⊢; omega, fun i x s hx hs' => ?_, h.rows.apart⟩⟩
  · rw [hu b (fun e => (h.rows.apart _ y b hy e).1 hb)]; exact ho
  · by_cases hi : i = pre.length
    · subst hi
      rw [hy] at hx
      have e := Option.some.inj hx; subst e
      simp at hs'
      subst hs'
      have := (h.rows.rows pre.length y t hy (by simp)).1
      exact ⟨by rw [this, hl], hO⟩
    · have hs2 : (pre ++ t :: post)[i]? = some s := by
        rw [List.getElem?_append] at hs' ⊢
        split
        · rename_i hlt; rw [if_pos hlt] at hs'; exact hs'
        · rename_i hlt; rw [if_neg hlt] at hs'
          rw [List.getElem?_cons] at hs' ⊢
          have : i - pre.length ≠ 0 := by omega
          rw [if_neg this] at hs' ⊢; exact hs'
      obtain ⟨g1, g2⟩ := h.rows.rows i x s hx hs2
      refine ⟨g1, g2.le fun b o hb ho => ?_⟩
      rw [hu b (fun e => hi ((h.rows.apart i x b hx hb).2 pre.length y hy e))]; exact ho
end Go.Sy
/- strconv's decimal texts. No condition. -/
namespace Go.Proofs.YtkamfnmbidnhdaaDoor
open Go.Sy
set_option maxRecDepth 100000
set_option maxHeartbeats 4000000
set_option linter.unusedVariables false
set_option linter.unusedSimpArgs false
/-- The library's table lies in a heap. -/
def Tab10 (h : Hp) : Prop := ∀ w : World, (∀ (b : Nat) (o : Obj), h b = some o → w.heap[b]? = some o) → Lib.TabIs Tryd.prog w "internal/strconv.uint64pow10" .u64 Lib.pow10Tab
theorem Tab10.le {h u : Hp} (hT : Tab10 h) (hl : Le h u) : Tab10 u := fun w hw => hT w fun b o hb => hw b o (hl b o hb)
def dec (n : Int) : ByteArray := ⟨(Lib.itoa n).toArray⟩
theorem fmt141 (n : Int) (h0 : -9223372036854775808 ≤ n) (h1 : n ≤ 9223372036854775807) (h : Hp) (ht : Tab10 h) : Pur Tryd.prog 141 [.v (.int .i64 n), .v (.int .i64 10)] h (fun y : ByteArray => .v (.string y)) (dec n) :=
  pur_calls (vs := [.int .i64 n, .int .i64 10]) (v := .string (dec n)) (dec n) rfl rfl fun w hw => (Tryd.internal_strconv_FormatInt_10 n h0 h1 w (ht w hw)).mono fun e w' ⟨he, k, os, hw'⟩ => by
    subst hw'
    exact ⟨he, grow_keep.1, grow_keep.2⟩
theorem fmt111 (n : Int) (h0 : -9223372036854775808 ≤ n) (h1 : n ≤ 9223372036854775807) (h : Hp) (ht : Tab10 h) : Pur Tryd.prog 111 [.v (.int .i64 n), .v (.int .i64 10)] h (fun y : ByteArray => .v (.string y)) (dec n) := by
  refine enterS Tryd.func111 rfl (n := 8) rfl rfl (fun k N => ?_)
  repeat' (first | (refine r_pure hT rfl rfl rfl rfl ?_) | (refine r_new hT rfl rfl rfl rfl ?_) | (refine r_write hT rfl rfl rfl ?_) | (refine r_nil ?_) | (refine q_nil ?_) | (refine p_call (fmt141 n h0 h1 h ht) rfl rfl rfl rfl rfl (hC _ rfl) rfl rfl rfl ?_) | (refine r_arith rfl rfl rfl rfl rfl rfl rfl (by omega) ?_) | (with_reducible refine r_seq ?_) | (with_reducible refine x_then ?_) | (with_reducible refine r_region ?_) | (refine r_draw hM (by kernel_rfl) ?_) | (with_reducible refine r_skip ?_) | (with_reducible refine r_ret ?_) | (with_reducible refine x_then_ret ?_) | (with_reducible refine r_block ?_) | (with_reducible refine x_block ?_) | (with_reducible refine x_block_ret ?_) | (with_reducible refine r_exit ?_) | (with_reducible refine x_then_exit ?_) | (with_reducible refine x_block_here ?_) | (refine x_block_past rfl ?_) | (refine c_yes rfl (by omega) ?_) | (refine c_no rfl (by omega) ?_) | (refine c_no rfl (fun h => h rfl) ?_) | (refine r_cond_false rfl ?_) | (refine r_cond_true rfl ?_) | (refine r_cond_dec rfl (fun _ => ?_) (fun _ => ?_)) | (refine r_cond_true rfl ?_) | (refine r_cond_false rfl ?_) | (refine c_not rfl (fun _ => ?_) (fun _ => ?_)) | (refine r_off rfl rfl rfl ?_) | (refine q_guard rfl rfl (fun _ => ?_) (fun _ => ?_)) | (refine q_guardn rfl rfl (fun _ => ?_) (fun _ => ?_)))
  exact r_fin hT rfl (dec n) rfl rfl rfl trivial rfl ⟨rfl, rfl⟩
theorem itoa144 (n : Int) (h0 : -9223372036854775808 ≤ n) (h1 : n ≤ 9223372036854775807) (h : Hp) (ht : Tab10 h) : Pur Tryd.prog 144 [.v (.int .i64 n)] h (fun y : ByteArray => .v (.string y)) (dec n) := by
  refine enterS Tryd.func144 rfl (n := 5) rfl rfl (fun k N => ?_)
  repeat' (first | (refine r_pure hT rfl rfl rfl rfl ?_) | (refine r_new hT rfl rfl rfl rfl ?_) | (refine r_write hT rfl rfl rfl ?_) | (refine r_nil ?_) | (refine q_nil ?_) | (refine p_call (fmt141 n h0 h1 h ht) rfl rfl rfl rfl rfl (hC _ rfl) rfl rfl rfl ?_) | (refine r_arith rfl rfl rfl rfl rfl rfl rfl (by omega) ?_) | (with_reducible refine r_seq ?_) | (with_reducible refine x_then ?_) | (with_reducible refine r_region ?_) | (refine r_draw hM (by kernel_rfl) ?_) | (with_reducible refine r_skip ?_) | (with_reducible refine r_ret ?_) | (with_reducible refine x_then_ret ?_) | (with_reducible refine r_block ?_) | (with_reducible refine x_block ?_) | (with_reducible refine x_block_ret ?_) | (with_reducible refine r_exit ?_) | (with_reducible refine x_then_exit ?_) | (with_reducible refine x_block_here ?_) | (refine x_block_past rfl ?_) | (refine c_yes rfl (by omega) ?_) | (refine c_no rfl (by omega) ?_) | (refine c_no rfl (fun h => h rfl) ?_) | (refine r_cond_false rfl ?_) | (refine r_cond_true rfl ?_) | (refine r_cond_dec rfl (fun _ => ?_) (fun _ => ?_)) | (refine r_cond_true rfl ?_) | (refine r_cond_false rfl ?_) | (refine c_not rfl (fun _ => ?_) (fun _ => ?_)) | (refine r_off rfl rfl rfl ?_) | (refine q_guard rfl rfl (fun _ => ?_) (fun _ => ?_)) | (refine q_guardn rfl rfl (fun _ => ?_) (fun _ => ?_)))
  exact r_fin hT rfl (dec n) rfl rfl rfl trivial rfl ⟨rfl, rfl⟩
theorem itoa115 (n : Int) (h0 : -9223372036854775808 ≤ n) (h1 : n ≤ 9223372036854775807) (h : Hp) (ht : Tab10 h) : Pur Tryd.prog 115 [.v (.int .i64 n)] h (fun y : ByteArray => .v (.string y)) (dec n) := by
  refine enterS Tryd.func115 rfl (n := 5) rfl rfl (fun k N => ?_)
  repeat' (first | (refine r_pure hT rfl rfl rfl rfl ?_) | (refine r_new hT rfl rfl rfl rfl ?_) | (refine r_write hT rfl rfl rfl ?_) | (refine r_nil ?_) | (refine q_nil ?_) | (refine p_call (itoa144 n h0 h1 h ht) rfl rfl rfl rfl rfl (hC _ rfl) rfl rfl rfl ?_) | (refine r_arith rfl rfl rfl rfl rfl rfl rfl (by omega) ?_) | (with_reducible refine r_seq ?_) | (with_reducible refine x_then ?_) | (with_reducible refine r_region ?_) | (refine r_draw hM (by kernel_rfl) ?_) | (with_reducible refine r_skip ?_) | (with_reducible refine r_ret ?_) | (with_reducible refine x_then_ret ?_) | (with_reducible refine r_block ?_) | (with_reducible refine x_block ?_) | (with_reducible refine x_block_ret ?_) | (with_reducible refine r_exit ?_) | (with_reducible refine x_then_exit ?_) | (with_reducible refine x_block_here ?_) | (refine x_block_past rfl ?_) | (refine c_yes rfl (by omega) ?_) | (refine c_no rfl (by omega) ?_) | (refine c_no rfl (fun h => h rfl) ?_) | (refine r_cond_false rfl ?_) | (refine r_cond_true rfl ?_) | (refine r_cond_dec rfl (fun _ => ?_) (fun _ => ?_)) | (refine r_cond_true rfl ?_) | (refine r_cond_false rfl ?_) | (refine c_not rfl (fun _ => ?_) (fun _ => ?_)) | (refine r_off rfl rfl rfl ?_) | (refine q_guard rfl rfl (fun _ => ?_) (fun _ => ?_)) | (refine q_guardn rfl rfl (fun _ => ?_) (fun _ => ?_)))
  exact r_fin hT rfl (dec n) rfl rfl rfl trivial rfl ⟨rfl, rfl⟩
def boolT (b : Bool) : ByteArray := if b then ⟨#[116, 114, 117, 101]⟩ else ⟨#[102, 97, 108, 115, 101]⟩
theorem fmtB140 (b : Bool) (h : Hp) : Pur Tryd.prog 140 [.v (.bool b)] h (fun y : ByteArray => .v (.string y)) (boolT b) := by
  refine enterS Tryd.func140 rfl (n := 4) rfl rfl (fun k N => ?_)
  cases b
  · repeat' (first | (refine r_pure hT rfl rfl rfl rfl ?_) | (refine r_new hT rfl rfl rfl rfl ?_) | (refine r_write hT rfl rfl rfl ?_) | (refine r_nil ?_) | (refine q_nil ?_) | (refine r_arith rfl rfl rfl rfl rfl rfl rfl (by omega) ?_) | (with_reducible refine r_seq ?_) | (with_reducible refine x_then ?_) | (with_reducible refine r_region ?_) | (refine r_draw hM (by kernel_rfl) ?_) | (with_reducible refine r_skip ?_) | (with_reducible refine r_ret ?_) | (with_reducible refine x_then_ret ?_) | (with_reducible refine r_block ?_) | (with_reducible refine x_block ?_) | (with_reducible refine x_block_ret ?_) | (with_reducible refine r_exit ?_) | (with_reducible refine x_then_exit ?_) | (with_reducible refine x_block_here ?_) | (refine x_block_past rfl ?_) | (refine c_yes rfl (by omega) ?_) | (refine c_no rfl (by omega) ?_) | (refine c_no rfl (fun h => h rfl) ?_) | (refine r_cond_false rfl ?_) | (refine r_cond_true rfl ?_) | (refine r_cond_dec rfl (fun _ => ?_) (fun _ => ?_)) | (refine r_cond_true rfl ?_) | (refine r_cond_false rfl ?_) | (refine c_not rfl (fun _ => ?_) (fun _ => ?_)) | (refine r_off rfl rfl rfl ?_) | (refine q_guard rfl rfl (fun _ => ?_) (fun _ => ?_)) | (refine q_guardn rfl rfl (fun _ => ?_) (fun _ => ?_)))
    exact r_fin hT rfl _ rfl rfl rfl trivial rfl ⟨rfl, rfl⟩
  · repeat' (first | (refine r_pure hT rfl rfl rfl rfl ?_) | (refine r_new hT rfl rfl rfl rfl ?_) | (refine r_write hT rfl rfl rfl ?_) | (refine r_nil ?_) | (refine q_nil ?_) | (refine r_arith rfl rfl rfl rfl rfl rfl rfl (by omega) ?_) | (with_reducible refine r_seq ?_) | (with_reducible refine x_then ?_) | (with_reducible refine r_region ?_) | (refine r_draw hM (by kernel_rfl) ?_) | (with_reducible refine r_skip ?_) | (with_reducible refine r_ret ?_) | (with_reducible refine x_then_ret ?_) | (with_reducible refine r_block ?_) | (with_reducible refine x_block ?_) | (with_reducible refine x_block_ret ?_) | (with_reducible refine r_exit ?_) | (with_reducible refine x_then_exit ?_) | (with_reducible refine x_block_here ?_) | (refine x_block_past rfl ?_) | (refine c_yes rfl (by omega) ?_) | (refine c_no rfl (by omega) ?_) | (refine c_no rfl (fun h => h rfl) ?_) | (refine r_cond_false rfl ?_) | (refine r_cond_true rfl ?_) | (refine r_cond_dec rfl (fun _ => ?_) (fun _ => ?_)) | (refine r_cond_true rfl ?_) | (refine r_cond_false rfl ?_) | (refine c_not rfl (fun _ => ?_) (fun _ => ?_)) | (refine r_off rfl rfl rfl ?_) | (refine q_guard rfl rfl (fun _ => ?_) (fun _ => ?_)) | (refine q_guardn rfl rfl (fun _ => ?_) (fun _ => ?_)))
    exact r_fin hT rfl _ rfl rfl rfl trivial rfl ⟨rfl, rfl⟩
theorem fmtB110 (b : Bool) (h : Hp) : Pur Tryd.prog 110 [.v (.bool b)] h (fun y : ByteArray => .v (.string y)) (boolT b) := by
  refine enterS Tryd.func110 rfl (n := 5) rfl rfl (fun k N => ?_)
  repeat' (first | (refine r_pure hT rfl rfl rfl rfl ?_) | (refine r_new hT rfl rfl rfl rfl ?_) | (refine r_write hT rfl rfl rfl ?_) | (refine r_nil ?_) | (refine q_nil ?_) | (refine p_call (fmtB140 b h) rfl rfl rfl rfl rfl (hC _ rfl) rfl rfl rfl ?_) | (refine r_arith rfl rfl rfl rfl rfl rfl rfl (by omega) ?_) | (with_reducible refine r_seq ?_) | (with_reducible refine x_then ?_) | (with_reducible refine r_region ?_) | (refine r_draw hM (by kernel_rfl) ?_) | (with_reducible refine r_skip ?_) | (with_reducible refine r_ret ?_) | (with_reducible refine x_then_ret ?_) | (with_reducible refine r_block ?_) | (with_reducible refine x_block ?_) | (with_reducible refine x_block_ret ?_) | (with_reducible refine r_exit ?_) | (with_reducible refine x_then_exit ?_) | (with_reducible refine x_block_here ?_) | (refine x_block_past rfl ?_) | (refine c_yes rfl (by omega) ?_) | (refine c_no rfl (by omega) ?_) | (refine c_no rfl (fun h => h rfl) ?_) | (refine r_cond_false rfl ?_) | (refine r_cond_true rfl ?_) | (refine r_cond_dec rfl (fun _ => ?_) (fun _ => ?_)) | (refine r_cond_true rfl ?_) | (refine r_cond_false rfl ?_) | (refine c_not rfl (fun _ => ?_) (fun _ => ?_)) | (refine r_off rfl rfl rfl ?_) | (refine q_guard rfl rfl (fun _ => ?_) (fun _ => ?_)) | (refine q_guardn rfl rfl (fun _ => ?_) (fun _ => ?_)))
  exact r_fin hT rfl (boolT b) rfl rfl rfl trivial rfl ⟨rfl, rfl⟩
end Go.Proofs.YtkamfnmbidnhdaaDoor
