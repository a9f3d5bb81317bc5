/- Rows of rows, of whatever elements. -/
import Derived.Test.YtkamfnmbidnhdaaDoorSyM
set_option linter.unusedVariables false
set_option linter.unusedSimpArgs false
set_option linter.unusedSectionVars false
namespace Go.Sy
/-- A slice of slices of pairs. -/
def TabG {α : Type} (c : α → List Value) (sz : Nat) (u : Hp) (A : Option Addr) (n : Nat) (ts : List (List α)) : Prop :=
  ∃ hs : List Hd, hs.length = ts.length ∧ Rd Hd.v 1 u A n hs ∧ ∀ (i : Nat) (h : Hd) (t : List α), hs[i]? = some h → ts[i]? = some t → h.n ≤ h.c ∧ Rd c sz u h.A h.n t
theorem TabG.le {α : Type} {c : α → List Value} {sz : Nat} {u u' : Hp} {A : Option Addr} {n : Nat} {ts : List (List α)} (h : TabG c sz u A n ts) (hl : Le u u') : TabG c sz u' A n ts :=
  let ⟨hs, h1, h2, h3⟩ := h; ⟨hs, h1, h2.le hl, fun i x t hx ht => ⟨(h3 i x t hx ht).1, (h3 i x t hx ht).2.le hl⟩⟩
theorem TabG.len {α : Type} {c : α → List Value} {sz : Nat} {u : Hp} {A : Option Addr} {n : Nat} {ts : List (List α)} (h : TabG c sz u A n ts) : n = ts.length := let ⟨_, h1, h2, _⟩ := h; h2.1.trans h1
theorem TabG.elem {α : Type} {c : α → List Value} {sz : Nat} {u : Hp} {A : Option Addr} {n : Nat} {ts : List (List α)} (h : TabG c sz u A n ts) {i : Nat} (hi : i < ts.length) :
    ∃ b off A' n' c' t, A = some ⟨b, off, none⟩ ∧ ts.drop i = t :: ts.drop (i + 1) ∧ ts[i]? = some t ∧ t ∈ ts ∧ At u b (off + i * 1) [.slice A' n' c'] ∧ n' ≤ c' ∧ Rd c sz u A' n' t := by
  obtain ⟨hs, h1, h2, h3⟩ := h
  obtain ⟨b, off, x, e1, e2, e3, e4, e5⟩ := h2.elem Hd.v_len (i := i) (by omega)
  have ht := List.getElem?_eq_getElem hi
  obtain ⟨g1, g2⟩ := h3 i x ts[i] e3 ht
  exact ⟨b, off, x.A, x.n, x.c, ts[i], e1, List.drop_eq_getElem_cons hi, ht, List.getElem_mem hi, e5, g1, g2⟩
/-- Rows of their own, all apart, none the block X. -/
structure ORowG {α : Type} (cc : α → List Value) (sz : Nat) (u : Hp) (eP : TypeId) (X : Option Nat) (hs : List Hd) (ts : List (List α)) : Prop where
  len : hs.length = ts.length
  rows : ∀ (i : Nat) (x : Hd) (t : List α), hs[i]? = some x → ts[i]? = some t → x.n = t.length ∧ Own u x.A x.n x.c eP sz (t.flatMap cc)
  apart : ∀ (i : Nat) (x : Hd) (b : Nat), hs[i]? = some x → blk x.A = some b → X ≠ some b ∧ ∀ (j : Nat) (y : Hd), hs[j]? = some y → blk y.A = some b → i = j
theorem ORowG.nil {α : Type} {cc : α → List Value} {sz : Nat} {u : Hp} {eP : TypeId} {X : Option Nat} : ORowG cc sz u eP X [] [] := ⟨rfl, fun i x t h => by simp at h, fun i x b h => by simp at h⟩
theorem ORowG.live {α : Type} {cc : α → List Value} {sz : Nat} {u : Hp} {eP : TypeId} {X : Option Nat} {hs : List Hd} {ts : List (List α)} (h : ORowG cc sz u eP X hs ts) {x : Hd} (hx : x ∈ hs) {b : Nat} (hb : blk x.A = some b) : u b ≠ none := by
  obtain ⟨i, hi, e⟩ := List.getElem_of_mem hx
  have h1 : hs[i]? = some x := by rw [List.getElem?_eq_getElem hi, e]
  have h2 : i < ts.length := by have := h.len; omega
  exact (h.rows i x ts[i] h1 (List.getElem?_eq_getElem h2)).2.live hb
theorem ORowG.keep {α : Type} {cc : α → List Value} {sz : Nat} {u u' : Hp} {eP : TypeId} {X : Option Nat} {hs : List Hd} {ts : List (List α)} (h : ORowG cc sz u eP X hs ts) (hl : ∀ b o, (∃ x ∈ hs, blk x.A = some b) → u b = some o → u' b = some o) : ORowG cc sz u' eP X hs ts :=
  ⟨h.len, fun i x t hx ht => ⟨(h.rows i x t hx ht).1, (h.rows i x t hx ht).2.le fun b o hb => hl b o ⟨x, List.mem_of_getElem? hx, hb⟩⟩, h.apart⟩
theorem ORowG.snoc {α : Type} {cc : α → List Value} {sz : Nat} {u u' : Hp} {eP : TypeId} {X : Option Nat} {hs : List Hd} {ts : List (List α)} (h : ORowG cc sz u eP X hs ts) (hl : ∀ b o, (∃ x ∈ hs, blk x.A = some b) → u b = some o → u' b = some o) {y : Hd} {t : List α} (hn : y.n = t.length)
    (hy : Own u' y.A y.n y.c eP sz (t.flatMap cc)) (hX : ∀ b, blk y.A = some b → X ≠ some b ∧ u b = none) : ORowG cc sz u' eP X (hs ++ [y]) (ts ++ [t]) := by
  have hk := h.keep hl
  have hlen := h.len
  have hcase : ∀ {i : Nat} {x : Hd}, (hs ++ [y])[i]? = some x → (i < hs.length ∧ hs[i]? = some x) ∨ (i = hs.length ∧ x = y) := fun {i x} hx => by
    by_cases hi : i < hs.length
    · rw [List.getElem?_append_left hi] at hx; exact .inl ⟨hi, hx⟩
    · have h1 : i < (hs ++ [y]).length := (List.getElem?_eq_some_iff.1 hx).1
      simp at h1
      have : i = hs.length := by omega
      subst this
      simp at hx
      exact .inr ⟨rfl, hx.symm⟩
  refine ⟨by simp [hlen], fun i x t' hx ht => ?_, fun i x b hx hb => ?_⟩
  · rcases hcase hx with ⟨hi, hx⟩ | ⟨hi, rfl⟩
    · rw [List.getElem?_append_left (by omega)] at ht; exact hk.rows i x t' hx ht
    · rw [hi, hlen] at ht; simp at ht; subst ht; exact ⟨hn, hy⟩
  · rcases hcase hx with ⟨hi, hx1⟩ | ⟨hi, rfl⟩
    · refine ⟨(h.apart i x b hx1 hb).1, fun j z hz hzb => ?_⟩
      rcases hcase hz with ⟨hj, hz1⟩ | ⟨hj, rfl⟩
      · exact (h.apart i x b hx1 hb).2 j z hz1 hzb
      · exact absurd (hX b hzb).2 (h.live (List.mem_of_getElem? hx1) hb)
    · refine ⟨(hX b hb).1, fun j z hz hzb => ?_⟩
      rcases hcase hz with ⟨hj, hz1⟩ | ⟨hj, rfl⟩
      · exact absurd (hX b hb).2 (h.live (List.mem_of_getElem? hz1) hzb)
      · rw [hi, hj]
/-- Owned tables: the row of headers, and each table's own row, all apart. -/
structure OTG {α : Type} (cc : α → List Value) (sz : Nat) (u : Hp) (eT eP : TypeId) (A : Option Addr) (n c : Nat) (hs : List Hd) (ts : List (List α)) : Prop where
  num : n = ts.length
  own : Own u A n c eT 1 (hs.flatMap Hd.v)
  rows : ORowG cc sz u eP (blk A) hs ts
theorem OTG.tabs {α : Type} {cc : α → List Value} {sz : Nat} {u : Hp} {eT eP : TypeId} {A : Option Addr} {n c : Nat} {hs : List Hd} {ts : List (List α)} (h : OTG cc sz u eT eP A n c hs ts) : TabG cc sz u A n ts :=
  ⟨hs, h.rows.len, ⟨by rw [h.num, h.rows.len], h.own.sl⟩, fun i x t hx ht => ⟨(h.rows.rows i x t hx ht).2.cap, (h.rows.rows i x t hx ht).1, (h.rows.rows i x t hx ht).2.sl⟩⟩
theorem OTG.keep {α : Type} {cc : α → List Value} {sz : Nat} {u u' : Hp} {eT eP : TypeId} {A : Option Addr} {n c : Nat} {hs : List Hd} {ts : List (List α)} (h : OTG cc sz u eT eP A n c hs ts) (hl : ∀ b o, (blk A = some b ∨ ∃ x ∈ hs, blk x.A = some b) → u b = some o → u' b = some o) : OTG cc sz u' eT eP A n c hs ts :=
  ⟨h.num, h.own.le fun b o hb => hl b o (.inl hb), h.rows.keep fun b o hb => hl b o (.inr hb)⟩
theorem OTG.le {α : Type} {cc : α → List Value} {sz : Nat} {u u' : Hp} {eT eP : TypeId} {A : Option Addr} {n c : Nat} {hs : List Hd} {ts : List (List α)} (h : OTG cc sz u eT eP A n c hs ts) (hl : Le u u') : OTG cc sz u' eT eP A n c hs ts := h.keep fun b o _ => hl b o
theorem OTG.elem {α : Type} {cc : α → List Value} {sz : Nat} {u : Hp} {eT eP : TypeId} {A : Option Addr} {n c : Nat} {hs : List Hd} {ts : List (List α)} (h : OTG cc sz u eT eP A n c hs ts) {i : Nat} (hi : i < ts.length) :
    ∃ b off y t, A = some ⟨b, off, none⟩ ∧ ts.drop i = t :: ts.drop (i + 1) ∧ hs[i]? = some y ∧ ts[i]? = some t ∧ t ∈ ts ∧ At u b (off + i * 1) [.slice y.A y.n y.c] ∧ y.n = t.length ∧ Own u y.A y.n y.c eP sz (t.flatMap cc) := by
  have hR : Rd Hd.v 1 u A n hs := ⟨by rw [h.num, h.rows.len], h.own.sl⟩
  obtain ⟨b, off, y, e1, e2, e3, e4, e5⟩ := hR.elem Hd.v_len (i := i) (by rw [h.rows.len]; exact hi)
  have ht := List.getElem?_eq_getElem hi
  obtain ⟨g1, g2⟩ := h.rows.rows i y ts[i] e3 ht
  exact ⟨b, off, y, ts[i], e1, List.drop_eq_getElem_cons hi, e3, ht, List.getElem_mem hi, e5, g1, g2⟩
/-- One row is another now. -/
theorem OTG.set {α : Type} {cc : α → List Value} {sz : Nat} {u u' : Hp} {eT eP : TypeId} {A : Option Addr} {n c : Nat} {hs : List Hd} {pre post : List (List α)} {t t' : List α} {y : Hd} (h : OTG cc sz u eT eP A n c hs (pre ++ t :: post)) (hy : hs[pre.length]? = some y) (hl : t'.length = t.length)
    (hO : Own u' y.A y.n y.c eP sz (t'.flatMap cc)) (hu : ∀ b, blk y.A ≠ some b → u' b = u b) : OTG cc sz u' eT eP A n c hs (pre ++ t' :: post) := by
  refine ⟨by have := h.num; simp at this ⊢; omega, h.own.le fun b o hb ho => ?_, ⟨by have := h.rows.len; simp at this ⊢; omega, fun i x s hx hs' => ?_, h.rows.apart⟩⟩
  · rw [hu b (fun e => (h.rows.apart _ y b hy e).1 hb)]; exact ho
  · by_cases hi : i = pre.length
    · subst hi
      rw [hy] at hx
      have e := Option.some.inj hx; subst e
      simp at hs'
      subst hs'
      have := (h.rows.rows pre.length y t hy (by simp)).1
      exact ⟨by rw [this, hl], hO⟩
    · have hs2 : (pre ++ t :: post)[i]? = some s := by
        rw [List.getElem?_append] at hs' ⊢
        split
        · rename_i hlt; rw [if_pos hlt] at hs'; exact hs'
        · rename_i hlt; rw [if_neg hlt] at hs'
          rw [List.getElem?_cons] at hs' ⊢
          have : i - pre.length ≠ 0 := by omega
          rw [if_neg this] at hs' ⊢; exact hs'
      obtain ⟨g1, g2⟩ := h.rows.rows i x s hx hs2
      refine ⟨g1, g2.le fun b o hb ho => ?_⟩
      rw [hu b (fun e => hi ((h.rows.apart i x b hx hb).2 pre.length y hy e))]; exact ho
end Go.Sy
