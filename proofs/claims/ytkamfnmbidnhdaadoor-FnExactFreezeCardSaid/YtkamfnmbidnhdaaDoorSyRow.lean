/- From the arguments of a row to the heap of the walk, and back. Over any program; no condition. -/
import Derived.Test.YtkamfnmbidnhdaaDoorSyS
import Derived.Deep.Slices
import Derived.ChangeArms
import Derived.Carry
import Derived.WideShapes
set_option linter.unusedVariables false
set_option linter.unusedSimpArgs false
set_option linter.unusedSectionVars false
namespace Go.Sy
open Go.ChangeShapes Go.WideShapes Go.RowKit
set_option maxHeartbeats 1000000
def hpOf (W : World) : Hp := fun b => W.heap[b]?
/-- What reads as data at type t is what K says of it. -/
structure Opn (P : Program) (t : TypeId) (sz : Nat) {α : Type} (K : Hp → α → List Value → Prop) : Prop where
  size : P.cellsOf t = sz
  use : ∀ {H : Type} {enc : TypeId × Value → H} {W : World} {n : Nat} {cs : List Value} {x : DataW H × List MemPlace},
    DataW.trod enc P W 0 (fun _ => true) true n t cs = some x → cs.length = sz ∧ ∃ y, K (hpOf W) y cs
structure OpnL (P : Program) (fs : List Field) (off sz : Nat) {α : Type} (K : Hp → α → List Value → Prop) : Prop where
  use : ∀ {H : Type} {enc : TypeId × Value → H} {W : World} {n : Nat} {cs : List Value},
    (∀ f, f ∈ fs → ∃ x, DataW.trod enc P W 0 (fun _ => true) true n f.type ((cs.drop f.offset).take (P.cellsOf f.type)) = some x) → ∃ y, K (hpOf W) y ((cs.drop off).take sz)
def kInt (k : IntKind) : Hp → Int → List Value → Prop := fun _ z cs => cs = [.int k z] ∧ (Lit.int k z).wf = true
def kStr : Hp → ByteArray → List Value → Prop := fun _ s cs => cs = [.string s] ∧ s.size ≤ maxLen
def kPair {α β : Type} (K : Hp → α → List Value → Prop) (K' : Hp → β → List Value → Prop) : Hp → α × β → List Value → Prop := fun u p cs => ∃ c1 c2, cs = c1 ++ c2 ∧ K u p.1 c1 ∧ K' u p.2 c2
def kSl {α : Type} (sz : Nat) (K : Hp → α → List Value → Prop) : Hp → List α → List Value → Prop := fun u l cs =>
  ∃ (A : Option Addr) (c : Nat) (ds : List (List Value)), cs = [.slice A l.length c] ∧ l.length ≤ c ∧ l.length ≤ maxLen ∧ ds.length = l.length ∧ (∀ d ∈ ds, d.length = sz) ∧ (∀ (i : Nat) d y, ds[i]? = some d → l[i]? = some y → K u y d) ∧ Sl u A l.length sz ds.flatten
section
variable {P : Program} {t e : TypeId} {α β : Type} {sz sz' : Nat} {K : Hp → α → List Value → Prop} {K' : Hp → β → List Value → Prop}
theorem opn_int {k : IntKind} (ht : P.underlying t = some (.int k)) (hc : P.cellsOf t = 1) : Opn P t 1 (kInt k) :=
  ⟨hc, fun h => by obtain ⟨n, rfl, _, hw⟩ := DataW.trod_int ht h; exact ⟨rfl, n, rfl, hw⟩⟩
theorem opn_str (ht : P.underlying t = some .string) (hc : P.cellsOf t = 1) : Opn P t 1 kStr :=
  ⟨hc, fun h => by obtain ⟨s, rfl, _, hw⟩ := DataW.trod_string ht h; exact ⟨rfl, s, rfl, hw⟩⟩
theorem opn_one {f : Field} {off : Nat} (ho : f.offset = off) (h : Opn P f.type sz K) : OpnL P [f] off sz K := by
  refine ⟨?_⟩
  intro H enc W n cs hf
  obtain ⟨x, hx⟩ := hf f (List.mem_singleton.2 rfl)
  obtain ⟨_, y, hK⟩ := h.use hx
  rw [ho, h.size] at hK
  exact ⟨y, hK⟩
theorem opn_cons {f : Field} {fs : List Field} {off off' : Nat} (ho : f.offset = off) (h : Opn P f.type sz K) (ho' : off + sz = off') (hl : OpnL P fs off' sz' K') : OpnL P (f :: fs) off (sz + sz') (kPair K K') := by
  refine ⟨?_⟩
  intro H enc W n cs hf
  obtain ⟨x, hx⟩ := hf f (List.mem_cons_self)
  obtain ⟨_, y, hK⟩ := h.use hx
  rw [ho, h.size] at hK
  obtain ⟨z, hK2⟩ := hl.use (H := H) (enc := enc) (W := W) (n := n) (cs := cs) (fun g hg => hf g (List.mem_cons_of_mem _ hg))
  refine ⟨(y, z), _, _, ?_, hK, hK2⟩
  show (cs.drop off).take (sz + sz') = _
  rw [List.take_add, List.drop_drop, ho']
theorem opn_struct {fs : List Field} {s : Nat} (h : OpnL P fs 0 s K) (ht : P.underlying t = some (.struct fs.toArray)) (hs : s = sz) (hc : P.cellsOf t = sz) : Opn P t sz K := by
  subst hs
  refine ⟨hc, ?_⟩
  intro H enc W n cs x hx
  obtain ⟨xs, m, _, _, hlen, hxs, hf⟩ := DataW.trod_struct ht hx
  obtain ⟨y, hK⟩ := h.use (H := H) (enc := enc) (W := W) (n := m) (cs := cs) (fun f hfm => by
    obtain ⟨i, hi, he⟩ := List.mem_iff_getElem.1 hfm
    have h1 := hf i f (by simp [List.getElem?_eq_getElem hi, he])
    rw [h1]
    have : i < xs.length := by rw [hxs]; simpa using hi
    exact ⟨xs[i], List.getElem?_eq_getElem this⟩)
  rw [List.drop_zero, List.take_of_length_le (by omega)] at hK
  exact ⟨by rw [hlen, hc], y, hK⟩
theorem Opn.imp {K2 : Hp → β → List Value → Prop} (f : α → β) (h : Opn P t sz K) (hi : ∀ u y cs, K u y cs → K2 u (f y) cs) : Opn P t sz K2 :=
  ⟨h.size, fun hx => let ⟨h1, y, hK⟩ := h.use hx; ⟨h1, f y, hi _ _ _ hK⟩⟩
theorem cells_hp {W : World} {a : Addr} {v : Value} (h : W.cell? a = some v) : a.spot = none ∧ ∃ arr t fr, hpOf W a.block = some (.cells arr t fr) ∧ arr[a.off]? = some v := by
  unfold World.cell? at h
  split at h
  · rename_i c t fr hb
    split at h
    · cases h
    · rename_i hs
      exact ⟨by simpa using hs, _, _, _, hb, h⟩
  · cases h
theorem add_block (a : Addr) (j : Nat) : (a.add j).block = a.block := by simp only [Addr.add]; split <;> rfl
theorem add_off (a : Addr) (j : Nat) : (a.add j).off = a.off + j := by simp only [Addr.add]; split <;> simp_all
theorem opn_slice (ht : P.underlying t = some (.slice e)) (hc : P.cellsOf t = 1) (hz : sz ≠ 0) (h : Opn P e sz K) : Opn P t 1 (kSl sz K) := by
  refine ⟨hc, ?_⟩
  intro H enc W n cs x hx
  rcases Go.Deep.open_slice ht hx with ⟨rfl, _⟩ | ⟨a, len, cap, m, n', D, Pl, rfl, _, hl, hm, hmm, _, hel⟩
  · exact ⟨rfl, [], none, 0, [], rfl, Nat.le_refl _, by simp [maxLen], rfl, fun d hd => (by cases hd), fun i d y hd => (by simp at hd), ⟨by simp, fun _ => rfl, fun a h => by cases h⟩⟩
  · refine ⟨rfl, ?_⟩
    have hone : ∀ i : _root_.Fin len, ∃ y : α, ∃ c : List Value, c.length = sz ∧ K (hpOf W) y c ∧ ∀ j u, c[j]? = some u → W.cell? (a.add (i.1 * sz + j)) = some u := by
      intro i
      obtain ⟨cs', h1, h2⟩ := hel i.1 (by have := i.2; rw [hmm]; split <;> omega)
      obtain ⟨_, hlen, hcell⟩ := World.cells?_some h1
      obtain ⟨hl', y, hK⟩ := h.use h2
      refine ⟨y, cs', hl', hK, fun j u hu => ?_⟩
      have hj : j < cs'.length := (List.getElem?_eq_some_iff.1 hu).1
      have := hcell j (by omega)
      rw [Go.Deep.add_add, h.size] at this
      rw [this, hu]
    classical
    have hY := fun i => Classical.choose_spec (hone i)
    have hC := fun i => Classical.choose_spec (hY i)
    refine ⟨List.ofFn fun i => Classical.choose (hone i), some a, cap, List.ofFn fun i => Classical.choose (hY i), by rw [List.length_ofFn], by rw [List.length_ofFn]; exact hl, by rw [List.length_ofFn]; omega, by simp, fun d hd => ?_, fun i d y hd hy => ?_, ?_⟩
    · obtain ⟨i, rfl⟩ := List.mem_ofFn.1 hd
      exact (hC i).1
    · obtain ⟨g1, g2⟩ := List.getElem?_eq_some_iff.1 hd
      obtain ⟨g3, g4⟩ := List.getElem?_eq_some_iff.1 hy
      rw [List.getElem_ofFn] at g2 g4
      subst g2; subst g4
      exact (hC _).2.1
    · rw [List.length_ofFn]
      have hlen : (List.ofFn fun i => Classical.choose (hY i)).flatten.length = len * sz := by
        have : ∀ l : List (List Value), (∀ d ∈ l, d.length = sz) → l.flatten.length = l.length * sz := fun l => by
          induction l with
          | nil => simp
          | cons d r ih => intro hd; simp only [List.flatten_cons, List.length_append, List.length_cons, ih (fun x hx => hd x (.tail _ hx)), hd d (.head _), Nat.add_mul]; omega
        rw [this _ (fun d hd => by obtain ⟨i, rfl⟩ := List.mem_ofFn.1 hd; exact (hC i).1), List.length_ofFn]
      have hget : ∀ (j : Nat) v, (List.ofFn fun i => Classical.choose (hY i)).flatten[j]? = some v → W.cell? (a.add j) = some v := fun j v hj => by
        have key : ∀ (l : List (List Value)), (∀ d ∈ l, d.length = sz) → ∀ j v, l.flatten[j]? = some v → ∃ i d, l[i]? = some d ∧ i * sz ≤ j ∧ d[j - i * sz]? = some v := fun l => by
          induction l with
          | nil => intro _ j v hj; simp at hj
          | cons d r ih =>
            intro hd j v hj
            rw [List.flatten_cons] at hj
            have hdl := hd d (.head _)
            by_cases hlt : j < d.length
            · rw [List.getElem?_append_left hlt] at hj
              exact ⟨0, d, rfl, by omega, by simpa using hj⟩
            · rw [List.getElem?_append_right (by omega)] at hj
              obtain ⟨i, d', h1, h2, h3⟩ := ih (fun x hx => hd x (.tail _ hx)) _ v hj
              refine ⟨i + 1, d', by simpa using h1, by rw [Nat.add_mul]; omega, ?_⟩
              rw [show j - (i + 1) * sz = j - d.length - i * sz by rw [Nat.add_mul]; omega]; exact h3
        obtain ⟨i, d, h1, h2, h3⟩ := key _ (fun d hd => by obtain ⟨i, rfl⟩ := List.mem_ofFn.1 hd; exact (hC i).1) j v hj
        obtain ⟨g1, g2⟩ := List.getElem?_eq_some_iff.1 h1
        rw [List.getElem_ofFn] at g2
        subst g2
        rw [List.length_ofFn] at g1
        have := (hC ⟨i, g1⟩).2.2 _ v h3
        rwa [show i * sz + (j - i * sz) = j by omega] at this
      refine ⟨hlen, fun h => (by cases h), fun ad had hne => ?_⟩
      have e1 := Option.some.inj had; subst e1
      have hpos : 0 < len * sz := Nat.mul_pos (by omega) (by omega)
      obtain ⟨v0, hv0⟩ : ∃ v, (List.ofFn fun i => Classical.choose (hY i)).flatten[0]? = some v := ⟨_, List.getElem?_eq_getElem (by omega)⟩
      have h0 := hget 0 v0 hv0
      rw [show a.add 0 = a by simp [Addr.add]] at h0
      obtain ⟨s1, arr, ty, fr, s2, s3⟩ := cells_hp h0
      refine ⟨s1, arr, ty, fr, s2, fun j v hj => ?_⟩
      have hj' := hget j v hj
      obtain ⟨s4, arr', ty', fr', s5, s6⟩ := cells_hp hj'
      rw [add_block, s2] at s5
      have e2 := Option.some.inj s5
      simp only [Obj.cells.injEq] at e2
      rw [add_off, ← e2.1] at s6
      exact s6
end
/-- A call of a law, from any world. -/
theorem row_calls {P : Program} {f : FuncId} {args : List SV} {vs : List Value} {W : World} (hv : valsE [] args = some vs)
    (h : TriS P f args [] (hpOf W) (fun y : Bool => .v (.bool y)) (fun _ => []) (fun y h' => y = true ∧ Le (hpOf W) h')) :
    Calls P f vs.toArray W (fun e W' => e = .returned (.bool true) ∧ Below W.heap.size W W') := by
  refine (h List.nodup_nil (fun b hb => by simp [names] at hb) vs (hpOf W) hv rfl (fun _ => none) W W ⟨fun b o hb => hb, fun b o hb => (by cases hb), Ge.refl W⟩).mono ?_
  rintro e w' ⟨v, h'', rfl, ⟨y, h', h1, h2, h3, rfl, h5⟩, h6⟩
  simp only [addsE, Option.some.injEq] at h2; subst h2
  simp only [valE, Option.some.injEq] at h1; subst h1
  refine ⟨rfl, h6.size.os, h6.size.tape, h6.size.output, h6.size.size, fun k hk => ?_⟩
  have : hpOf W k = some W.heap[k] := by unfold hpOf; simp [hk]
  rw [h6.ext k _ (h5 k _ this)]
  simp [hk]
end Go.Sy
