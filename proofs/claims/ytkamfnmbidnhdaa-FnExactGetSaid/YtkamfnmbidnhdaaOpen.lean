/- What reads as data is a value of a kind: the way from a row's arguments to the walks. No program, no condition. -/
import Derived.Test.YtkamfnmbidnhdaaWm
import Derived.Deep.Slices
import Derived.ChangeArms
namespace Go.Proofs.YtkamfnmbidnhdaaW.PrintWords
open Go.RowKit Go.ChangeShapes Go.WideShapes
/-- Whatever reads as data at type t is of the kind d, and G holds of it. -/
def Opens (P : Program) (t : TypeId) {α : Type} (d : Kd α) (G : α → Prop) : Prop :=
  P.cellsOf t = d.sz ∧ ∀ {H : Type} {enc : TypeId × Value → H} {W : World} {n : Nat} {cs : List Value} {x : DataW H × List MemPlace},
    DataW.trod enc P W 0 (fun _ => true) true n t cs = some x → ∃ y, d.K W y cs ∧ G y
def OpensL (P : Program) (fs : List Field) (off : Nat) {α : Type} (d : Kd α) (G : α → Prop) : Prop :=
  ∀ {H : Type} {enc : TypeId × Value → H} {W : World} {n : Nat} {cs : List Value},
    (∀ f, f ∈ fs → ∃ x, DataW.trod enc P W 0 (fun _ => true) true n f.type ((cs.drop f.offset).take (P.cellsOf f.type)) = some x) → ∃ y, d.K W y ((cs.drop off).take d.sz) ∧ G y
section
variable {P : Program} {t e : TypeId} {α β : Type} {d : Kd α} {d' : Kd β} {G : α → Prop} {G' : β → Prop}
theorem opens_int {k : IntKind} (ht : P.underlying t = some (.int k)) (hc : P.cellsOf t = 1) : Opens P t (Kd.int k) (fun z => (Lit.int k z).wf = true) :=
  ⟨hc, fun h => by
    obtain ⟨n, rfl, _, hw⟩ := DataW.trod_int ht h
    exact ⟨n, rfl, hw⟩⟩
theorem opens_string (ht : P.underlying t = some .string) (hc : P.cellsOf t = 1) : Opens P t Kd.string (fun s => s.size ≤ maxLen) :=
  ⟨hc, fun h => by
    obtain ⟨s, rfl, _, hw⟩ := DataW.trod_string ht h
    exact ⟨s, rfl, hw⟩⟩
theorem opens_slice (ht : P.underlying t = some (.slice e)) (hc : P.cellsOf t = 1) (h : Opens P e d G) : Opens P t (Kd.slice e d) (fun l => l.length ≤ 9223372036854775807 ∧ ∀ y, y ∈ l → G y) := by
  refine ⟨hc, ?_⟩
  intro H enc W n cs x hx
  rcases Go.Deep.open_slice ht hx with ⟨rfl, _⟩ | ⟨a, len, cap, m, n', D, Pl, rfl, _, hl, hm, hmm, _, hel⟩
  · exact ⟨[], ⟨none, 0, rfl, Nat.le_refl _, Kd.C_nil d W⟩, by simp, fun y hy => by cases hy⟩
  · have hone : ∀ i : Fin len, ∃ y : α, (∃ c, c.length = d.sz ∧ d.K W y c ∧ ∀ j u, c[j]? = some u → W.cell? (a.add (i.1 * d.sz + j)) = some u) ∧ G y := by
      intro i
      obtain ⟨cs', h1, h2⟩ := hel i.1 (by have := i.2; rw [hmm]; split <;> omega)
      obtain ⟨_, hlen, hcell⟩ := World.cells?_some h1
      obtain ⟨y, hK, hG⟩ := h.2 h2
      refine ⟨y, ⟨cs', by rw [hlen, h.1], hK, fun j u hu => ?_⟩, hG⟩
      have hj : j < cs'.length := (List.getElem?_eq_some_iff.1 hu).1
      have := hcell j (by omega)
      rw [Go.Deep.add_add, h.1] at this
      rw [this, hu]
    classical
    have hY := fun i => Classical.choose_spec (hone i)
    refine ⟨List.ofFn fun i => Classical.choose (hone i), ⟨some a, cap, by rw [List.length_ofFn], by rw [List.length_ofFn]; exact hl, ?_⟩, by rw [List.length_ofFn]; simp only [maxLen] at hm; omega, ?_⟩
    · refine ⟨rfl, by rw [List.length_ofFn]; simp only [maxLen] at hm; omega, fun _ => ⟨a, rfl, fun j p hj => ?_⟩⟩
      obtain ⟨hj1, hj2⟩ := List.getElem?_eq_some_iff.1 hj
      rw [List.length_ofFn] at hj1
      rw [List.getElem_ofFn] at hj2
      subst hj2
      exact (hY ⟨j, hj1⟩).1
    · intro y hy
      obtain ⟨i, rfl⟩ := (List.mem_ofFn).1 hy
      exact (hY i).2
theorem opens_one {f : Field} {off : Nat} (ho : f.offset = off) (h : Opens P f.type d G) : OpensL P [f] off d G := by
  intro H enc W n cs hf
  obtain ⟨x, hx⟩ := hf f (List.mem_singleton.2 rfl)
  obtain ⟨y, hK, hG⟩ := h.2 hx
  rw [ho, h.1] at hK
  exact ⟨y, hK, hG⟩
theorem opens_cons {f : Field} {fs : List Field} {off off' : Nat} (ho : f.offset = off) (h : Opens P f.type d G) (ho' : off + d.sz = off') (hl : OpensL P fs off' d' G') : OpensL P (f :: fs) off (Kd.pair d d') (fun p => G p.1 ∧ G' p.2) := by
  intro H enc W n cs hf
  obtain ⟨x, hx⟩ := hf f (List.mem_cons_self)
  obtain ⟨y, hK, hG⟩ := h.2 hx
  rw [ho, h.1] at hK
  obtain ⟨z, hK2, hG2⟩ := hl (H := H) (enc := enc) (W := W) (n := n) (cs := cs) (fun g hg => hf g (List.mem_cons_of_mem _ hg))
  refine ⟨(y, z), ⟨_, _, ?_, hK, hK2⟩, hG, hG2⟩
  show (cs.drop off).take (d.sz + d'.sz) = _
  rw [List.take_add, List.drop_drop, ho']
theorem opens_struct {fs : List Field} (ht : P.underlying t = some (.struct fs.toArray)) (hc : P.cellsOf t = d.sz) (h : OpensL P fs 0 d G) : Opens P t d G := by
  refine ⟨hc, ?_⟩
  intro H enc W n cs x hx
  obtain ⟨xs, m, _, _, hlen, hxs, hf⟩ := DataW.trod_struct ht hx
  obtain ⟨y, hK, hG⟩ := h (H := H) (enc := enc) (W := W) (n := m) (cs := cs) (fun f hfm => by
    obtain ⟨i, hi, he⟩ := List.mem_iff_getElem.1 hfm
    have h1 := hf i f (by simp [List.getElem?_eq_getElem hi, he])
    rw [h1]
    have : i < xs.length := by rw [hxs]; simpa using hi
    exact ⟨xs[i], List.getElem?_eq_getElem this⟩)
  rw [List.drop_zero, List.take_of_length_le (by omega)] at hK
  exact ⟨y, hK, hG⟩
theorem opens_iso (f : β → α) (g : α → β) (hfg : ∀ y, f (g y) = y) (h : Opens P t d G) : Opens P t (Kd.iso d f) (fun b => G (f b)) :=
  ⟨h.1, fun hx => by
    obtain ⟨y, hK, hG⟩ := h.2 hx
    refine ⟨g y, ?_, ?_⟩
    · show d.K _ (f (g y)) _
      rw [hfg]; exact hK
    · show G (f (g y))
      rw [hfg]; exact hG⟩
theorem Opens.imp {G2 : α → Prop} (h : Opens P t d G) (hg : ∀ y, G y → G2 y) : Opens P t d G2 := ⟨h.1, fun hx => let ⟨y, hK, hG⟩ := h.2 hx; ⟨y, hK, hg y hG⟩⟩
/-- An argument that is a slice. -/
theorem arg_slice {G : List α → Prop} {H : Type} {enc : TypeId × Value → H} {W : World} {r : Reach} {b : Nat} {v : Value} {x : DataW H} {p : List MemPlace} (h : Opens P t (Kd.slice e d) G) (ht : P.underlying t = some (.slice e)) (hv : Value.okWide P W r b t v) (hx : DataW.Trod enc P W 0 (fun _ => true) true t v x p) :
    ∃ (A : Option Addr) (c : Nat) (l : List α), v = .slice A l.length c ∧ l.length ≤ c ∧ d.C W A l.length l ∧ G l := by
  obtain ⟨a0, len, cap, rfl⟩ := okWide_slice ht hv
  obtain ⟨n, hn⟩ := hx
  obtain ⟨l, ⟨A, c, he, hl, hC⟩, hG⟩ := h.2 hn
  simp [Value.cells] at he
  obtain ⟨rfl, rfl, rfl⟩ := he
  exact ⟨_, _, l, rfl, hl, hC, hG⟩
theorem arg_struct {fs : Array Field} {H : Type} {enc : TypeId × Value → H} {W : World} {r : Reach} {b : Nat} {v : Value} {x : DataW H} {p : List MemPlace} (h : Opens P t d G) (ht : P.underlying t = some (.struct fs)) (hv : Value.okWide P W r b t v) (hx : DataW.Trod enc P W 0 (fun _ => true) true t v x p) :
    ∃ (cs : List Value) (y : α), v = .agg cs.toArray ∧ d.K W y cs ∧ G y := by
  obtain ⟨cs, rfl, hsz⟩ := okWide_struct ht hv
  obtain ⟨n, hn⟩ := hx
  obtain ⟨y, hK, hG⟩ := h.2 hn
  exact ⟨cs.toList, y, by simp, by simpa [Value.cells] using hK, hG⟩
end
end Go.Proofs.YtkamfnmbidnhdaaW.PrintWords
