/- From the arguments of a row to the heap of the walk, and back. Over any program; no condition. -/
import Derived.Test.YtkamfnmbidnhdaaDoorSqAG
import Derived.Deep.Slices
import Derived.ChangeArms
import Derived.Carry
import Derived.WideShapes
import Derived.Test.YtkamfnmbidnhdaaDoorSqAH
import Derived.Test.YtkamfnmbidnhdaaDoorSqAE
import Derived.Lib.Bytealg
import Derived.Shelf.SlSortCmp.Insertion
import Derived.Test.YtkamfnmbidnhdaaDoorSqAI
import Derived.Test.YtkamfnmbidnhdaaDoorSqAQ
import Derived.Test.YtkamfnmbidnhdaaDoorSqAK
set_option linter.unusedVariables false
set_option linter.unusedSimpArgs false
set_option linter.unusedSectionVars false
namespace Go.Sy
open Go.ChangeShapes Go.WideShapes Go.RowKit
set_option maxHeartbeats 1000000
def hpOf (W : World) : Hp := fun b => W.heap[b]?
/-- What reads as data at type t is what K says of it. -/
structure Opn (P : Program) (t : TypeId) (sz : Nat) {α : Type} (K : Hp → α → List Value → Prop) : Prop where
  size : P.cellsOf t = sz
  use : ∀ {H : Type} {enc : TypeId × Value → H} {W : World} {n : Nat} {cs : List Value} {x : DataW H × List MemPlace},
    DataW.trod enc P W 0 (fun _ => true) true n t cs = some x → cs.length = sz ∧ ∃ y, K (hpOf W) y cs
structure OpnL (P : Program) (fs : List Field) (off sz : Nat) {α : Type} (K : Hp → α → List Value → Prop) : Prop where
  use : ∀ {H : Type} {enc : TypeId × Value → H} {W : World} {n : Nat} {cs : List Value},
    (∀ f, f ∈ fs → ∃ x, DataW.trod enc P W 0 (fun _ => true) true n f.type ((cs.drop f.offset).take (P.cellsOf f.type)) = some x) → ∃ y, K (hpOf W) y ((cs.drop off).take sz)
def kInt (k : IntKind) : Hp → Int → List Value → Prop := fun _ z cs => cs = [.int k z] ∧ (Lit.int k z).wf = true
def kStr : Hp → ByteArray → List Value → Prop := fun _ s cs => cs = [.string s] ∧ s.size ≤ maxLen
def kPair {α β : Type} (K : Hp → α → List Value → Prop) (K' : Hp → β → List Value → Prop) : Hp → α × β → List Value → Prop := fun u p cs => ∃ c1 c2, cs = c1 ++ c2 ∧ K u p.1 c1 ∧ K' u p.2 c2
def kSl {α : Type} (sz : Nat) (K : Hp → α → List Value → Prop) : Hp → List α → List Value → Prop := fun u l cs =>
  ∃ (A : Option Addr) (c : Nat) (ds : List (List Value)), cs = [.slice A l.length c] ∧ l.length ≤ c ∧ l.length ≤ maxLen ∧ ds.length = l.length ∧ (∀ d ∈ ds, d.length = sz) ∧ (∀ (i : Nat) d y, ds[i]? = some d → l[i]? = some y → K u y d) ∧ Sl u A l.length sz ds.flatten
section
variable {P : Program} {t e : TypeId} {α β : Type} {sz sz' : Nat} {K : Hp → α → List Value → Prop} {K' : Hp → β → List Value → Prop}
theorem opn_int {k : IntKind} (ht : P.underlying t = some (.int k)) (hc : P.cellsOf t = 1) : Opn P t 1 (kInt k) :=
  ⟨hc, fun h => by obtain ⟨n, rfl, _, hw⟩ := DataW.trod_int ht h; exact ⟨rfl, n, rfl, hw⟩⟩
theorem opn_str (ht : P.underlying t = some .string) (hc : P.cellsOf t = 1) : Opn P t 1 kStr :=
  ⟨hc, fun h => by obtain ⟨s, rfl, _, hw⟩ := DataW.trod_string ht h; exact ⟨rfl, s, rfl, hw⟩⟩
theorem opn_one {f : Field} {off : Nat} (ho : f.offset = off) (h : Opn P f.type sz K) : OpnL P [f] off sz K := by
  refine ⟨?_⟩
  intro H enc W n cs hf
  obtain ⟨x, hx⟩ := hf f (List.mem_singleton.2 rfl)
  obtain ⟨_, y, hK⟩ := h.use hx
  rw [ho, h.size] at hK
  exact ⟨y, hK⟩
theorem opn_cons {f : Field} {fs : List Field} {off off' : Nat} (ho : f.offset = off) (h : Opn P f.type sz K) (ho' : off + sz = off') (hl : OpnL P fs off' sz' K') : OpnL P (f :: fs) off (sz + sz') (kPair K K') := by
  refine ⟨?_⟩
  intro H enc W n cs hf
  obtain ⟨x, hx⟩ := hf f (List.mem_cons_self)
  obtain ⟨_, y, hK⟩ := h.use hx
  rw [ho, h.size] at hK
  obtain ⟨z, hK2⟩ := hl.use (H := H) (enc := enc) (W := W) (n := n) (cs := cs) (fun g hg => hf g (List.mem_cons_of_mem _ hg))
  refine ⟨(y, z), _, _, ?_, hK, hK2⟩
  show (cs.drop off).take (sz + sz') = _
  rw [List.take_add, List.drop_drop, ho']
theorem opn_struct {fs : List Field} {s : Nat} (h : OpnL P fs 0 s K) (ht : P.underlying t = some (.struct fs.toArray)) (hs : s = sz) (hc : P.cellsOf t = sz) : Opn P t sz K := by
  subst hs
  refine ⟨hc, ?_⟩
  intro H enc W n cs x hx
  obtain ⟨xs, m, _, _, hlen, hxs, hf⟩ := DataW.trod_struct ht hx
  obtain ⟨y, hK⟩ := h.use (H := H) (enc := enc) (W := W) (n := m) (cs := cs) (fun f hfm => by
    obtain ⟨i, hi, he⟩ := List.mem_iff_getElem.1 hfm
    have h1 := hf i f (by simp [List.getElem?_eq_getElem hi, he])
    rw [h1]
    have : i < xs.length := by rw [hxs]; simpa using hi
    exact ⟨xs[i], List.getElem?_eq_getElem this⟩)
  rw [List.drop_zero, List.take_of_length_le (by omega)] at hK
  exact ⟨by rw [hlen, hc], y, hK⟩
theorem Opn.imp {K2 : Hp → β → List Value → Prop} (f : α → β) (h : Opn P t sz K) (hi : ∀ u y cs, K u y cs → K2 u (f y) cs) : Opn P t sz K2 :=
  ⟨h.size, fun hx => let ⟨h1, y, hK⟩ := h.use hx; ⟨h1, f y, hi _ _ _ hK⟩⟩
theorem cells_hp {W : World} {a : Addr} {v : Value} (h : W.cell? a = some v) : a.spot = none ∧ ∃ arr t fr, hpOf W a.block = some (.cells arr t fr) ∧ arr[a.off]? = some v := by
  unfold World.cell? at h
  split at h
  · rename_i c t fr hb
    split at h
    · cases h
    · rename_i hs
      exact ⟨by simpa using hs, _, _, _, hb, h⟩
  · cases h
theorem add_block (a : Addr) (j : Nat) : (a.add j).block = a.block := by simp only [Addr.add]; split <;> rfl
theorem add_off (a : Addr) (j : Nat) : (a.add j).off = a.off + j := by simp only [Addr.add]; split <;> simp_all
theorem opn_slice (ht : P.underlying t = some (.slice e)) (hc : P.cellsOf t = 1) (hz : sz ≠ 0) (h : Opn P e sz K) : Opn P t 1 (kSl sz K) := by
  refine ⟨hc, ?_⟩
  intro H enc W n cs x hx
  rcases Go.Deep.open_slice ht hx with ⟨rfl, _⟩ | ⟨a, len, cap, m, n', D, Pl, rfl, _, hl, hm, hmm, _, hel⟩
  · exact ⟨rfl, [], none, 0, [], rfl, Nat.le_refl _, by simp [maxLen], rfl, fun d hd => (by cases hd), fun i d y hd => (by simp at hd), ⟨by simp, fun _ => rfl, fun a h => by cases h⟩⟩
  · refine ⟨rfl, ?_⟩
    have hone : ∀ i : _root_.Fin len, ∃ y : α, ∃ c : List Value, c.length = sz ∧ K (hpOf W) y c ∧ ∀ j u, c[j]? = some u → W.cell? (a.add (i.1 * sz + j)) = some u := by
      intro i
      obtain ⟨cs', h1, h2⟩ := hel i.1 (by have := i.2; rw [hmm]; split <;> omega)
      obtain ⟨_, hlen, hcell⟩ := World.cells?_some h1
      obtain ⟨hl', y, hK⟩ := h.use h2
      refine ⟨y, cs', hl', hK, fun j u hu => ?_⟩
      have hj : j < cs'.length := (List.getElem?_eq_some_iff.1 hu).1
      have := hcell j (by omega)
      rw [Go.Deep.add_add, h.size] at this
      rw [this, hu]
    classical
    have hY := fun i => Classical.choose_spec (hone i)
    have hC := fun i => Classical.choose_spec (hY i)
    refine ⟨List.ofFn fun i => Classical.choose (hone i), some a, cap, List.ofFn fun i => Classical.choose (hY i), by rw [List.length_ofFn], by rw [List.length_ofFn]; exact hl, by rw [List.length_ofFn]; omega, by simp, fun d hd => ?_, fun i d y hd hy => ?_, ?_⟩
    · obtain ⟨i, rfl⟩ := List.mem_ofFn.1 hd
      exact (hC i).1
    · obtain ⟨g1, g2⟩ := List.getElem?_eq_some_iff.1 hd
      obtain ⟨g3, g4⟩ := List.getElem?_eq_some_iff.1 hy
      rw [List.getElem_ofFn] at g2 g4
      subst g2; subst g4
      exact (hC _).2.1
    · rw [List.length_ofFn]
      have hlen : (List.ofFn fun i => Classical.choose (hY i)).flatten.length = len * sz := by
        have : ∀ l : List (List Value), (∀ d ∈ l, d.length = sz) → l.flatten.length = l.length * sz := fun l => by
          induction l with
          | nil => simp
          | cons d r ih => intro hd; simp only [List.flatten_cons, List.length_append, List.length_cons, ih (fun x hx => hd x (.tail _ hx)), hd d (.head _), Nat.add_mul]; omega
        rw [this _ (fun d hd => by obtain ⟨i, rfl⟩ := List.mem_ofFn.1 hd; exact (hC i).1), List.length_ofFn]
      have hget : ∀ (j : Nat) v, (List.ofFn fun i => Classical.choose (hY i)).flatten[j]? = some v → W.cell? (a.add j) = some v := fun j v hj => by
        have key : ∀ (l : List (List Value)), (∀ d ∈ l, d.length = sz) → ∀ j v, l.flatten[j]? = some v → ∃ i d, l[i]? = some d ∧ i * sz ≤ j ∧ d[j - i * sz]? = some v := fun l => by
          induction l with
          | nil => intro _ j v hj; simp at hj
          | cons d r ih =>
            intro hd j v hj
            rw [List.flatten_cons] at hj
            have hdl := hd d (.head _)
            by_cases hlt : j < d.length
            · rw [List.getElem?_append_left hlt] at hj
              exact ⟨0, d, rfl, by omega, by simpa using hj⟩
            · rw [List.getElem?_append_right (by omega)] at hj
              obtain ⟨i, d', h1, h2, h3⟩ := ih (fun x hx => hd x (.tail _ hx)) _ v hj
              refine ⟨i + 1, d', by simpa using h1, by rw [Nat.add_mul]; omega, ?_⟩
              rw [show j - (i + 1) * sz = j - d.length - i * sz by rw [Nat.add_mul]; omega]; exact h3
        obtain ⟨i, d, h1, h2, h3⟩ := key _ (fun d hd => by obtain ⟨i, rfl⟩ := List.mem_ofFn.1 hd; exact (hC i).1) j v hj
        obtain ⟨g1, g2⟩ := List.getElem?_eq_some_iff.1 h1
        rw [List.getElem_ofFn] at g2
        subst g2
        rw [List.length_ofFn] at g1
        have := (hC ⟨i, g1⟩).2.2 _ v h3
        rwa [show i * sz + (j - i * sz) = j by omega] at this
      refine ⟨hlen, fun h => (by cases h), fun ad had hne => ?_⟩
      have e1 := Option.some.inj had; subst e1
      have hpos : 0 < len * sz := Nat.mul_pos (by omega) (by omega)
      obtain ⟨v0, hv0⟩ : ∃ v, (List.ofFn fun i => Classical.choose (hY i)).flatten[0]? = some v := ⟨_, List.getElem?_eq_getElem (by omega)⟩
      have h0 := hget 0 v0 hv0
      rw [show a.add 0 = a by simp [Addr.add]] at h0
      obtain ⟨s1, arr, ty, fr, s2, s3⟩ := cells_hp h0
      refine ⟨s1, arr, ty, fr, s2, fun j v hj => ?_⟩
      have hj' := hget j v hj
      obtain ⟨s4, arr', ty', fr', s5, s6⟩ := cells_hp hj'
      rw [add_block, s2] at s5
      have e2 := Option.some.inj s5
      simp only [Obj.cells.injEq] at e2
      rw [add_off, ← e2.1] at s6
      exact s6
end
/-- A call of a law, from any world. -/
theorem row_calls {P : Program} {f : FuncId} {args : List SV} {vs : List Value} {W : World} (hv : valsE [] args = some vs)
    (h : TriS P f args [] (hpOf W) (fun y : Bool => .v (.bool y)) (fun _ => []) (fun y h' => y = true ∧ Le (hpOf W) h')) :
    Calls P f vs.toArray W (fun e W' => e = .returned (.bool true) ∧ Below W.heap.size W W') := by
  refine (h List.nodup_nil (fun b hb => by simp [names] at hb) vs (hpOf W) hv rfl (fun _ => none) W W ⟨fun b o hb => hb, fun b o hb => (by cases hb), Ge.refl W⟩).mono ?_
  rintro e w' ⟨v, h'', rfl, ⟨y, h', h1, h2, h3, rfl, h5⟩, h6⟩
  simp only [addsE, Option.some.injEq] at h2; subst h2
  simp only [valE, Option.some.injEq] at h1; subst h1
  refine ⟨rfl, h6.size.os, h6.size.tape, h6.size.output, h6.size.size, fun k hk => ?_⟩
  have : hpOf W k = some W.heap[k] := by unfold hpOf; simp [hk]
  rw [h6.ext k _ (h5 k _ this)]
  simp [hk]
end Go.Sy
/- A contract of the walk by a symbolic frame, read as the shelf reads one: it answers, it draws, it lays new blocks; nothing else is turned. -/
namespace Go.Sy
open Go.Sort
set_option linter.unusedVariables false
theorem ge_grow {W w' : World} (hg : Ge W w') (hk : ∀ (b : Nat) (o : Obj), W.heap[b]? = some o → w'.heap[b]? = some o) : ∃ q os, w' = grow (W.drewN q) os := by
  refine ⟨w'.drawn - W.drawn, w'.heap.extract W.heap.size w'.heap.size, ?_⟩
  have hh : w'.heap = W.heap ++ w'.heap.extract W.heap.size w'.heap.size := by
    refine Array.ext_getElem? fun i => ?_
    by_cases hi : i < W.heap.size
    · rw [Array.getElem?_append_left hi, Array.getElem?_eq_getElem hi]
      exact hk i _ (Array.getElem?_eq_getElem hi)
    · have hs := hg.size
      rw [Array.getElem?_append_right (by omega), Array.getElem?_extract]
      by_cases hj : i < w'.heap.size
      · rw [if_pos (by omega)]
        congr 1; omega
      · rw [if_neg (by omega), Array.getElem?_eq_none (by omega)]
  have hd := hg.drawn
  cases w'
  cases W
  simp only [grow, World.drewN, World.mk.injEq]
  exact ⟨hh, hg.tape, by simp only at hd ⊢; omega, hg.os, hg.output⟩
theorem pur_lays {P : Program} {f : FuncId} {args : List SV} {vs : List Value} {Y : Type} {val : Y → SV} {v : Value} {r : Y} (W : World) (hvs : valsE [] args = some vs) (hv : valE [] (val r) = some v) (h : Pur P f args (hpOf W) val r) :
    Calls P f vs.toArray W (fun e w' => e = .returned v ∧ ∃ q os, w' = grow (W.drewN q) os) := by
  refine (h List.nodup_nil (fun b hb => by simp [names] at hb) vs (hpOf W) hvs rfl (fun _ => none) W W ⟨fun b o hb => hb, fun b o hb => (by cases hb), Ge.refl W⟩).mono ?_
  rintro e w' ⟨v', h'', rfl, ⟨y, h', h1, h2, h3, rfl, rfl⟩, h6⟩
  simp only [addsE, Option.some.injEq] at h2; subst h2
  have e1 : v' = v := Option.some.inj (h1.symm.trans hv)
  exact ⟨by rw [e1], ge_grow h6.size h6.ext⟩
theorem le_lays {P : Program} {f : FuncId} {args : List SV} {vs : List Value} {Y : Type} {val : Y → SV} {v : Value} {r : Y} (W : World) (hvs : valsE [] args = some vs) (hv : valE [] (val r) = some v)
    (h : TriS P f args [] (hpOf W) val (fun _ => []) (fun y h' => y = r ∧ Le (hpOf W) h')) : Calls P f vs.toArray W (fun e w' => e = .returned v ∧ ∃ q os, w' = grow (W.drewN q) os) := by
  refine (h List.nodup_nil (fun b hb => by simp [names] at hb) vs (hpOf W) hvs rfl (fun _ => none) W W ⟨fun b o hb => hb, fun b o hb => (by cases hb), Ge.refl W⟩).mono ?_
  rintro e w' ⟨v', h'', rfl, ⟨y, h', h1, h2, h3, rfl, h5⟩, h6⟩
  simp only [addsE, Option.some.injEq] at h2; subst h2
  have e1 : v' = v := Option.some.inj (h1.symm.trans hv)
  exact ⟨by rw [e1], ge_grow h6.size (fun b o hb => h6.ext b o (h5 b o hb))⟩
end Go.Sy
/- The order of keys in plain words; lists of pairs in that order. No program in sight; no condition. -/
namespace Go.Sy
open Go.Sort Go.Proofs
set_option linter.unusedVariables false
/-- The order of texts, byte by byte. -/
def lexB : List UInt8 → List UInt8 → Bool
  | [], [] => false
  | [], _ :: _ => true
  | _ :: _, [] => false
  | a :: l, b :: m => if a = b then lexB l m else decide (a < b)
theorem lexB_irr : ∀ a, lexB a a = false
  | [] => rfl
  | a :: l => by simp [lexB, lexB_irr l]
theorem lexB_tr : ∀ {a b c : List UInt8}, lexB a b = true → lexB b c = true → lexB a c = true
  | [], [], c, h, _ => by simp [lexB] at h
  | [], _ :: _, [], _, h => by simp [lexB] at h
  | [], _ :: _, _ :: _, _, _ => rfl
  | _ :: _, [], _, h, _ => by simp [lexB] at h
  | _ :: _, _ :: _, [], _, h => by simp [lexB] at h
  | a :: l, b :: m, c :: cs, h, g => by
    simp only [lexB] at h g ⊢
    by_cases e1 : a = b
    · subst e1
      rw [if_pos rfl] at h
      by_cases e2 : a = c
      · subst e2
        rw [if_pos rfl] at g ⊢
        exact lexB_tr h g
      · rw [if_neg e2] at g ⊢; exact g
    · rw [if_neg e1] at h
      by_cases e2 : b = c
      · subst e2
        rw [if_neg e1]; exact h
      · rw [if_neg e2] at g
        simp only [decide_eq_true_eq] at h g
        have h3 : a < c := UInt8.lt_trans h g
        rw [if_neg (fun e => by subst e; exact UInt8.lt_irrefl _ h3)]
        simpa using h3
theorem lexB_tot : ∀ {a b : List UInt8}, lexB a b = false → lexB b a = false → a = b
  | [], [], _, _ => rfl
  | [], _ :: _, h, _ => by simp [lexB] at h
  | _ :: _, [], _, h => by simp [lexB] at h
  | a :: l, b :: m, h, g => by
    simp only [lexB] at h g
    by_cases e1 : a = b
    · subst e1
      rw [if_pos rfl] at h g
      rw [lexB_tot h g]
    · rw [if_neg e1] at h
      rw [if_neg (Ne.symm e1)] at g
      simp only [decide_eq_false_iff_not] at h g
      rcases UInt8.lt_or_lt_of_ne e1 with h3 | h3
      · exact absurd h3 h
      · exact absurd h3 g
theorem compare_lex : ∀ (a b : List UInt8), Lib.compareBytes a b = if lexB a b = true then -1 else if lexB b a = true then 1 else 0
  | [], [] => by simp [Lib.compareBytes, lexB]
  | [], b :: m => by simp [Lib.compareBytes, lexB]
  | a :: l, [] => by simp [Lib.compareBytes, lexB]
  | a :: l, b :: m => by
    rw [Lib.compareBytes, compare_lex l m]
    by_cases h : a = b
    · subst h
      simp [lexB, UInt8.lt_irrefl]
    · by_cases h1 : a < b
      · simp [lexB, h, h1]
      · have h2 : b < a := by
          rcases UInt8.lt_or_lt_of_ne h with h3 | h3
          · exact absurd h3 h1
          · exact h3
        have h4 : ¬ b = a := fun e => h e.symm
        simp [lexB, h, h1, h2, h4]
/-- What impl's order says of two values. -/
def kc (x y : V) : Int := if x.k - y.k ≠ 0 then x.k - y.k else if x.n < y.n then -1 else if y.n < x.n then 1 else Lib.compareBytes x.s.data.toList y.s.data.toList
def kl (x y : V) : Bool := decide (kc x y < 0)
theorem kl_iff (x y : V) : kl x y = true ↔ x.k < y.k ∨ (x.k = y.k ∧ (x.n < y.n ∨ (x.n = y.n ∧ lexB x.s.data.toList y.s.data.toList = true))) := by
  unfold kl kc
  rw [decide_eq_true_eq, compare_lex]
  by_cases h1 : x.k - y.k ≠ 0
  · rw [if_pos h1]
    constructor
    · intro h; left; omega
    · rintro (h | ⟨h, _⟩) <;> omega
  · rw [if_neg h1]
    have h1' : x.k = y.k := by omega
    by_cases h2 : x.n < y.n
    · rw [if_pos h2]
      exact ⟨fun _ => .inr ⟨h1', .inl h2⟩, fun _ => by omega⟩
    · rw [if_neg h2]
      by_cases h3 : y.n < x.n
      · rw [if_pos h3]
        constructor
        · intro h; omega
        · rintro (h | ⟨_, h | ⟨h, _⟩⟩) <;> omega
      · rw [if_neg h3]
        by_cases h4 : lexB x.s.data.toList y.s.data.toList = true
        · rw [if_pos h4]
          exact ⟨fun _ => .inr ⟨h1', .inr ⟨by omega, h4⟩⟩, fun _ => by omega⟩
        · rw [if_neg h4]
          constructor
          · intro h; split at h <;> omega
          · rintro (h | ⟨_, h | ⟨_, h⟩⟩)
            · omega
            · omega
            · exact absurd h h4
theorem text_ext {s t : ByteArray} (h : s.data.toList = t.data.toList) : s = t := by
  cases s; cases t
  simp only [ByteArray.mk.injEq]
  exact Array.toList_inj.1 h
theorem kl_irr (x : V) : kl x x = false := by
  cases h : kl x x with
  | false => rfl
  | true =>
    rw [kl_iff, lexB_irr] at h
    rcases h with h | ⟨_, h | ⟨_, h⟩⟩
    · omega
    · omega
    · cases h
theorem kl_tr {x y z : V} (h : kl x y = true) (g : kl y z = true) : kl x z = true := by
  rw [kl_iff] at h g ⊢
  rcases h with h | ⟨e1, h⟩
  · rcases g with g | ⟨e2, g⟩
    · left; omega
    · left; omega
  · rcases g with g | ⟨e2, g⟩
    · left; omega
    · right
      refine ⟨by omega, ?_⟩
      rcases h with h | ⟨e3, h⟩
      · rcases g with g | ⟨e4, g⟩
        · left; omega
        · left; omega
      · rcases g with g | ⟨e4, g⟩
        · left; omega
        · exact .inr ⟨by omega, lexB_tr h g⟩
theorem kl_tot {x y : V} (h : kl x y = false) (g : kl y x = false) : x.k = y.k ∧ x.n = y.n ∧ x.s = y.s := by
  have h' : ¬ kl x y = true := by rw [h]; simp
  have g' : ¬ kl y x = true := by rw [g]; simp
  rw [kl_iff] at h' g'
  have e1 : x.k = y.k := by
    rcases Int.lt_trichotomy x.k y.k with h1 | h1 | h1
    · exact absurd (.inl h1) h'
    · exact h1
    · exact absurd (.inl h1) g'
  have e2 : x.n = y.n := by
    rcases Int.lt_trichotomy x.n y.n with h1 | h1 | h1
    · exact absurd (.inr ⟨e1, .inl h1⟩) h'
    · exact h1
    · exact absurd (.inr ⟨e1.symm, .inl h1⟩) g'
  refine ⟨e1, e2, text_ext (lexB_tot ?_ ?_)⟩
  · cases hl : lexB x.s.data.toList y.s.data.toList with
    | false => rfl
    | true => exact absurd (.inr ⟨e1, .inr ⟨e2, hl⟩⟩) h'
  · cases hl : lexB y.s.data.toList x.s.data.toList with
    | false => rfl
    | true => exact absurd (.inr ⟨e1.symm, .inr ⟨e2.symm, hl⟩⟩) g'
theorem kl_eq {x y z : V} (h : x.k = y.k ∧ x.n = y.n ∧ x.s = y.s) : kl x z = kl y z ∧ kl z x = kl z y := by
  unfold kl kc
  rw [h.1, h.2.1, h.2.2]
  exact ⟨rfl, rfl⟩
theorem kl_ntr {x y z : V} (h : kl x y = false) (g : kl y z = false) : kl x z = false := by
  cases hz : kl x z with
  | false => rfl
  | true =>
    cases hy : kl z y with
    | true => rw [kl_tr hz hy] at h; cases h
    | false =>
      have e := kl_tot g hy
      rw [(kl_eq (z := x) e).2] at h
      rw [hz] at h; cases h
theorem kc_swo {α : Type} (f : α → V) : SWO (ltOf fun x y : α => kc (f x) (f y)) :=
  ⟨fun x => kl_irr (f x), fun x y z h g => kl_tr (x := f x) (y := f y) h g, fun x y z h g => kl_ntr (x := f x) (y := f y) h g⟩
/-- spec's order of two keys. -/
def sl (x y : V) : Bool := if x.k = y.k then (if x.k = 3 then lexB x.s.data.toList y.s.data.toList else decide (x.n < y.n)) else decide (x.k < y.k)
/-- A key in its one form. -/
structure Ky (v : V) : Prop where
  k1 : 1 ≤ v.k
  k3 : v.k ≤ 3
  num : v.k = 3 → v.n = 0
  txt : v.k ≠ 3 → v.s.data.toList = []
  pl : v.a = 0
theorem sl_kl {x y : V} (hx : Ky x) (hy : Ky y) : sl x y = kl x y := by
  have key : sl x y = true ↔ kl x y = true := by
    rw [kl_iff]
    unfold sl
    by_cases h1 : x.k = y.k
    · rw [if_pos h1]
      by_cases h3 : x.k = 3
      · rw [if_pos h3]
        have e1 := hx.num h3
        have e2 := hy.num (h1 ▸ h3)
        exact ⟨fun h => .inr ⟨h1, .inr ⟨by omega, h⟩⟩, fun h => by
          rcases h with h | ⟨_, h | ⟨_, h⟩⟩
          · omega
          · omega
          · exact h⟩
      · rw [if_neg h3, decide_eq_true_eq]
        have e1 := hx.txt h3
        have e2 := hy.txt (h1 ▸ h3)
        rw [e1, e2]
        exact ⟨fun h => .inr ⟨h1, .inl h⟩, fun h => by
          rcases h with h | ⟨_, h | ⟨_, h⟩⟩
          · omega
          · exact h
          · cases h⟩
    · rw [if_neg h1, decide_eq_true_eq]
      exact ⟨fun h => .inl h, fun h => by
        rcases h with h | ⟨h, _⟩
        · exact h
        · exact absurd h h1⟩
  cases h1 : sl x y <;> cases h2 : kl x y <;> simp_all
theorem ky_tot {x y : V} (hx : Ky x) (hy : Ky y) (h : kl x y = false) (g : kl y x = false) : x = y := by
  obtain ⟨e1, e2, e3⟩ := kl_tot h g
  have e4 := hx.pl
  have e5 := hy.pl
  cases x; cases y
  simp only at e1 e2 e3 e4 e5
  rw [e1, e2, e3, e4, e5]
/-! ### lists of pairs in order -/
def Srt (l : List Pr) : Prop := l.Pairwise fun p q => kl q.key p.key = false
theorem srt_ins {A B : List Pr} {p : Pr} (h : Srt (A ++ B)) (hB : ∀ q ∈ B, kl p.key q.key = true) (hA : ∀ q, A.getLast? = some q → kl p.key q.key = false) : Srt (A ++ p :: B) := by
  unfold Srt at h ⊢
  rw [List.pairwise_append] at h ⊢
  refine ⟨h.1, List.pairwise_cons.2 ⟨fun q hq => ?_, h.2.1⟩, fun a ha b hb => ?_⟩
  · cases hz : kl q.key p.key with
    | false => rfl
    | true => have := kl_tr (hB q hq) hz; rw [kl_irr] at this; cases this
  · rcases List.mem_cons.1 hb with rfl | hb
    · rcases List.eq_nil_or_concat A with rfl | ⟨A', z, rfl⟩
      · cases ha
      · rw [List.concat_eq_append] at ha h hA
        have hl := hA z (by simp)
        rcases List.mem_append.1 ha with h1 | h1
        · have h2 := (List.pairwise_append.1 h.1).2.2 a h1 z (by simp)
          exact kl_ntr hl h2
        · simp only [List.mem_singleton] at h1; subst h1; exact hl
    · exact h.2.2 a ha b hb
/-- One order alone, where keys are told apart. -/
theorem srt_uniq {xs ys zs : List Pr} (hk : ∀ p ∈ xs, Ky p.key) (hd : (xs.map Pr.key).Nodup) (h1 : ys.Perm xs) (h2 : zs.Perm xs) (s1 : Srt ys) (s2 : Srt zs) : ys = zs := by
  refine List.Perm.eq_of_pairwise (le := fun p q : Pr => kl q.key p.key = false) (fun a b ha hb h g => ?_) s1 s2 (h1.trans h2.symm)
  have ma := h1.mem_iff.1 ha
  have mb := h2.mem_iff.1 hb
  have e := ky_tot (hk a ma) (hk b mb) g h
  have : ∀ {l : List Pr}, (l.map Pr.key).Nodup → ∀ {a b : Pr}, a ∈ l → b ∈ l → a.key = b.key → a = b := fun {l} => by
    induction l with
    | nil => intro _ a b ha; cases ha
    | cons x r ih =>
      intro hn a b ha hb e
      rw [List.map_cons, List.nodup_cons] at hn
      rcases List.mem_cons.1 ha with rfl | ha
      · rcases List.mem_cons.1 hb with rfl | hb
        · rfl
        · exact absurd (by rw [e]; exact List.mem_map_of_mem hb) hn.1
      · rcases List.mem_cons.1 hb with eb | hb
        · exact absurd (by rw [← eb, ← e]; exact List.mem_map_of_mem ha) hn.1
        · exact ih hn.2 ha hb e
  exact this hd ma mb e
/-- The pairs of a table in the order of their keys. -/
def srt (t : List Pr) : List Pr := t.mergeSort fun p q => !kl q.key p.key
theorem srt_perm (t : List Pr) : (srt t).Perm t := List.mergeSort_perm _ _
theorem srt_srt (t : List Pr) : Srt (srt t) := by
  have h := List.pairwise_mergeSort (le := fun p q : Pr => !kl q.key p.key) (fun a b c h g => by
    simp only [Bool.not_eq_true'] at h g ⊢
    exact kl_ntr g h) (fun a b => by
    cases h1 : kl b.key a.key with
    | false => rfl
    | true =>
      cases h2 : kl a.key b.key with
      | false => rfl
      | true => have := kl_tr h1 h2; rw [kl_irr] at this; cases this) t
  exact h.imp fun {a b} h => by simpa using h
theorem srt_of {xs ys : List Pr} (hk : ∀ p ∈ xs, Ky p.key) (hd : (xs.map Pr.key).Nodup) (h1 : ys.Perm xs) (s1 : Srt ys) : ys = srt xs := srt_uniq hk hd h1 (srt_perm xs) s1 (srt_srt xs)
end Go.Sy
/- The order of two values: cmp.Compare, strings.Compare, cmp.Or, impl.order, sortedPairs$1. No condition. -/
namespace Go.Proofs.YtkamfnmbidnhdaaDoor
open Go.Sy
set_option maxRecDepth 100000
set_option maxHeartbeats 4000000
set_option linter.unusedVariables false
set_option linter.unusedSimpArgs false
theorem isNaN156 (x : Int) (h : Hp) : Pur Tryd.prog 156 [.v (.int .i64 x)] h (fun y : Bool => .v (.bool y)) false := by
  refine enterS Tryd.func156 rfl (n := 6) rfl rfl (fun k N => ?_)
  repeat' (first | (refine r_pure hT rfl rfl rfl rfl ?_) | (refine r_new hT rfl rfl rfl rfl ?_) | (refine r_write hT rfl rfl rfl ?_) | (refine r_nil ?_) | (refine q_nil ?_) | (refine r_arith rfl rfl rfl rfl rfl rfl rfl (by omega) ?_) | (with_reducible refine r_seq ?_) | (with_reducible refine x_then ?_) | (with_reducible refine r_region ?_) | (refine r_draw hM (by kernel_rfl) ?_) | (with_reducible refine r_skip ?_) | (with_reducible refine r_ret ?_) | (with_reducible refine x_then_ret ?_) | (with_reducible refine r_block ?_) | (with_reducible refine x_block ?_) | (with_reducible refine x_block_ret ?_) | (with_reducible refine r_exit ?_) | (with_reducible refine x_then_exit ?_) | (with_reducible refine x_block_here ?_) | (refine x_block_past rfl ?_) | (refine c_yes rfl (by omega) ?_) | (refine c_no rfl (by omega) ?_) | (refine c_no rfl (fun h => h rfl) ?_) | (refine r_cond_false rfl ?_) | (refine r_cond_true rfl ?_) | (refine r_cond_dec rfl (fun _ => ?_) (fun _ => ?_)) | (refine r_cond_true rfl ?_) | (refine r_cond_false rfl ?_) | (refine c_not rfl (fun _ => ?_) (fun _ => ?_)) | (refine r_off rfl rfl rfl ?_) | (refine q_guard rfl rfl (fun _ => ?_) (fun _ => ?_)) | (refine q_guardn rfl rfl (fun _ => ?_) (fun _ => ?_)))
  exact r_fin hT rfl _ rfl rfl rfl trivial rfl ⟨by simp, rfl⟩
def cmpI (x y : Int) : Int := if x < y then -1 else if y < x then 1 else 0
theorem cmp123 (x y : Int) (h : Hp) : Pur Tryd.prog 123 [.v (.int .i64 x), .v (.int .i64 y)] h (fun y : Int => .v (.int .i64 y)) (cmpI x y) := by
  refine enterS Tryd.func123 rfl (n := 20) rfl rfl (fun k N => ?_)
  by_cases h1 : x < y
  · repeat' (first | (refine r_pure hT rfl rfl rfl rfl ?_) | (refine r_new hT rfl rfl rfl rfl ?_) | (refine r_write hT rfl rfl rfl ?_) | (refine r_nil ?_) | (refine q_nil ?_) | (refine p_call (isNaN156 _ h) rfl rfl rfl rfl rfl (hC _ rfl) rfl rfl rfl ?_) | (refine c_yes rfl h1 ?_) | (refine r_arith rfl rfl rfl rfl rfl rfl rfl (by omega) ?_) | (with_reducible refine r_seq ?_) | (with_reducible refine x_then ?_) | (with_reducible refine r_region ?_) | (refine r_draw hM (by kernel_rfl) ?_) | (with_reducible refine r_skip ?_) | (with_reducible refine r_ret ?_) | (with_reducible refine x_then_ret ?_) | (with_reducible refine r_block ?_) | (with_reducible refine x_block ?_) | (with_reducible refine x_block_ret ?_) | (with_reducible refine r_exit ?_) | (with_reducible refine x_then_exit ?_) | (with_reducible refine x_block_here ?_) | (refine x_block_past rfl ?_) | (refine c_yes rfl (by omega) ?_) | (refine c_no rfl (by omega) ?_) | (refine c_no rfl (fun h => h rfl) ?_) | (refine r_cond_false rfl ?_) | (refine r_cond_true rfl ?_) | (refine r_cond_dec rfl (fun _ => ?_) (fun _ => ?_)) | (refine r_cond_true rfl ?_) | (refine r_cond_false rfl ?_) | (refine c_not rfl (fun _ => ?_) (fun _ => ?_)) | (refine r_off rfl rfl rfl ?_) | (refine q_guard rfl rfl (fun _ => ?_) (fun _ => ?_)) | (refine q_guardn rfl rfl (fun _ => ?_) (fun _ => ?_)))
    exact r_fin hT rfl _ rfl rfl rfl trivial rfl ⟨by unfold cmpI; rw [if_pos h1], rfl⟩
  · by_cases h2 : y < x
    · repeat' (first | (refine r_pure hT rfl rfl rfl rfl ?_) | (refine r_new hT rfl rfl rfl rfl ?_) | (refine r_write hT rfl rfl rfl ?_) | (refine r_nil ?_) | (refine q_nil ?_) | (refine p_call (isNaN156 _ h) rfl rfl rfl rfl rfl (hC _ rfl) rfl rfl rfl ?_) | (refine c_no rfl h1 ?_) | (refine c_yes rfl h2 ?_) | (refine r_arith rfl rfl rfl rfl rfl rfl rfl (by omega) ?_) | (with_reducible refine r_seq ?_) | (with_reducible refine x_then ?_) | (with_reducible refine r_region ?_) | (refine r_draw hM (by kernel_rfl) ?_) | (with_reducible refine r_skip ?_) | (with_reducible refine r_ret ?_) | (with_reducible refine x_then_ret ?_) | (with_reducible refine r_block ?_) | (with_reducible refine x_block ?_) | (with_reducible refine x_block_ret ?_) | (with_reducible refine r_exit ?_) | (with_reducible refine x_then_exit ?_) | (with_reducible refine x_block_here ?_) | (refine x_block_past rfl ?_) | (refine c_yes rfl (by omega) ?_) | (refine c_no rfl (by omega) ?_) | (refine c_no rfl (fun h => h rfl) ?_) | (refine r_cond_false rfl ?_) | (refine r_cond_true rfl ?_) | (refine r_cond_dec rfl (fun _ => ?_) (fun _ => ?_)) | (refine r_cond_true rfl ?_) | (refine r_cond_false rfl ?_) | (refine c_not rfl (fun _ => ?_) (fun _ => ?_)) | (refine r_off rfl rfl rfl ?_) | (refine q_guard rfl rfl (fun _ => ?_) (fun _ => ?_)) | (refine q_guardn rfl rfl (fun _ => ?_) (fun _ => ?_)))
      exact r_fin hT rfl _ rfl rfl rfl trivial rfl ⟨by unfold cmpI; rw [if_neg h1, if_pos h2], rfl⟩
    · repeat' (first | (refine r_pure hT rfl rfl rfl rfl ?_) | (refine r_new hT rfl rfl rfl rfl ?_) | (refine r_write hT rfl rfl rfl ?_) | (refine r_nil ?_) | (refine q_nil ?_) | (refine p_call (isNaN156 _ h) rfl rfl rfl rfl rfl (hC _ rfl) rfl rfl rfl ?_) | (refine c_no rfl h1 ?_) | (refine c_no rfl h2 ?_) | (refine r_arith rfl rfl rfl rfl rfl rfl rfl (by omega) ?_) | (with_reducible refine r_seq ?_) | (with_reducible refine x_then ?_) | (with_reducible refine r_region ?_) | (refine r_draw hM (by kernel_rfl) ?_) | (with_reducible refine r_skip ?_) | (with_reducible refine r_ret ?_) | (with_reducible refine x_then_ret ?_) | (with_reducible refine r_block ?_) | (with_reducible refine x_block ?_) | (with_reducible refine x_block_ret ?_) | (with_reducible refine r_exit ?_) | (with_reducible refine x_then_exit ?_) | (with_reducible refine x_block_here ?_) | (refine x_block_past rfl ?_) | (refine c_yes rfl (by omega) ?_) | (refine c_no rfl (by omega) ?_) | (refine c_no rfl (fun h => h rfl) ?_) | (refine r_cond_false rfl ?_) | (refine r_cond_true rfl ?_) | (refine r_cond_dec rfl (fun _ => ?_) (fun _ => ?_)) | (refine r_cond_true rfl ?_) | (refine r_cond_false rfl ?_) | (refine c_not rfl (fun _ => ?_) (fun _ => ?_)) | (refine r_off rfl rfl rfl ?_) | (refine q_guard rfl rfl (fun _ => ?_) (fun _ => ?_)) | (refine q_guardn rfl rfl (fun _ => ?_) (fun _ => ?_)))
      exact r_fin hT rfl _ rfl rfl rfl trivial rfl ⟨by unfold cmpI; rw [if_neg h1, if_neg h2], rfl⟩
theorem str124 (a b : ByteArray) (h : Hp) : Pur Tryd.prog 124 [.v (.string a), .v (.string b)] h (fun y : Int => .v (.int .i64 y)) (Lib.compareBytes a.data.toList b.data.toList) :=
  pur_calls _ rfl rfl (fun w _ => (Tryd.strings_Compare a b w).mono fun e w' ⟨he, hw⟩ => ⟨he, by rw [hw]; exact fun b o h => h, by rw [hw]; exact Ge.refl w⟩)
def orL : List Int → Int
  | [] => 0
  | x :: r => if x = 0 then orL r else x
theorem or122 (xs : List Int) (A : Option Addr) (n c : Nat) (h : Hp) (hP : Ints h A n xs) (hl : xs.length ≤ 1000000) : Pur Tryd.prog 122 [.v (.slice A n c)] h (fun y : Int => .v (.int .i64 y)) (orL xs) := by
  obtain rfl := hP.1
  refine enterS Tryd.func122 rfl (n := 18) rfl rfl (fun k N => ?_)
  repeat' (first | (refine r_pure hT rfl rfl rfl rfl ?_) | (refine r_new hT rfl rfl rfl rfl ?_) | (refine r_write hT rfl rfl rfl ?_) | (refine r_nil ?_) | (refine q_nil ?_) | (refine r_arith rfl rfl rfl rfl rfl rfl rfl (by omega) ?_) | (with_reducible refine r_seq ?_) | (with_reducible refine x_then ?_) | (with_reducible refine r_region ?_) | (refine r_draw hM (by kernel_rfl) ?_) | (with_reducible refine r_skip ?_) | (with_reducible refine r_ret ?_) | (with_reducible refine x_then_ret ?_) | (with_reducible refine r_block ?_) | (with_reducible refine x_block ?_) | (with_reducible refine x_block_ret ?_) | (with_reducible refine r_exit ?_) | (with_reducible refine x_then_exit ?_) | (with_reducible refine x_block_here ?_) | (refine x_block_past rfl ?_) | (refine c_yes rfl (by omega) ?_) | (refine c_no rfl (by omega) ?_) | (refine c_no rfl (fun h => h rfl) ?_) | (refine r_cond_false rfl ?_) | (refine r_cond_true rfl ?_) | (refine r_cond_dec rfl (fun _ => ?_) (fun _ => ?_)) | (refine r_cond_true rfl ?_) | (refine r_cond_false rfl ?_) | (refine c_not rfl (fun _ => ?_) (fun _ => ?_)) | (refine r_off rfl rfl rfl ?_) | (refine q_guard rfl rfl (fun _ => ?_) (fun _ => ?_)) | (refine q_guardn rfl rfl (fun _ => ?_) (fun _ => ?_)))
  refine r_loop (γ := Nat) (fun i => i ≤ xs.length ∧ orL xs = orL (xs.drop i)) (fun i => [(3, .v (.int .i64 0)), (6, .v (.slice A xs.length c)), (7, .v (.int .i64 (xs.length : Int))), (8, .v (.int .i64 (i : Int)))]) (fun _ => []) (fun _ => h) (fun i => xs.length - i)
    0 ⟨Nat.zero_le _, rfl⟩ (into rfl ⟨rfl, rfl, rfl, rfl, trivial⟩ trivial rfl rfl) ?_
  rintro i ⟨hi, ho⟩
  by_cases hlt : i < xs.length
  · obtain ⟨b, off, p, rfl, hd, hix, hm, hat⟩ := hP.elem Ic_len hlt
    rw [hd, orL] at ho
    by_cases hz : p = 0
    · repeat' (first | (refine r_pure hT rfl rfl rfl rfl ?_) | (refine r_new hT rfl rfl rfl rfl ?_) | (refine r_write hT rfl rfl rfl ?_) | (refine r_nil ?_) | (refine q_nil ?_) | (refine r_indexN hT rfl rfl rfl rfl rfl rfl rfl rfl rfl (by omega) ?_) | (refine r_load hT hat rfl rfl rfl rfl rfl (Nat.add_zero _).symm rfl rfl rfl rfl rfl ?_) | (refine c_no rfl (fun h => h hz) ?_) | (refine r_arith rfl rfl rfl rfl rfl rfl rfl (by omega) ?_) | (with_reducible refine r_seq ?_) | (with_reducible refine x_then ?_) | (with_reducible refine r_region ?_) | (refine r_draw hM (by kernel_rfl) ?_) | (with_reducible refine r_skip ?_) | (with_reducible refine r_ret ?_) | (with_reducible refine x_then_ret ?_) | (with_reducible refine r_block ?_) | (with_reducible refine x_block ?_) | (with_reducible refine x_block_ret ?_) | (with_reducible refine r_exit ?_) | (with_reducible refine x_then_exit ?_) | (with_reducible refine x_block_here ?_) | (refine x_block_past rfl ?_) | (refine c_yes rfl (by omega) ?_) | (refine c_no rfl (by omega) ?_) | (refine c_no rfl (fun h => h rfl) ?_) | (refine r_cond_false rfl ?_) | (refine r_cond_true rfl ?_) | (refine r_cond_dec rfl (fun _ => ?_) (fun _ => ?_)) | (refine r_cond_true rfl ?_) | (refine r_cond_false rfl ?_) | (refine c_not rfl (fun _ => ?_) (fun _ => ?_)) | (refine r_off rfl rfl rfl ?_) | (refine q_guard rfl rfl (fun _ => ?_) (fun _ => ?_)) | (refine q_guardn rfl rfl (fun _ => ?_) (fun _ => ?_)))
      exact x_round (i + 1) ⟨hlt, by rw [ho, if_pos hz]⟩ (by omega) (into rfl ⟨rfl, rfl, rfl, rfl, trivial⟩ trivial rfl rfl)
    · repeat' (first | (refine r_pure hT rfl rfl rfl rfl ?_) | (refine r_new hT rfl rfl rfl rfl ?_) | (refine r_write hT rfl rfl rfl ?_) | (refine r_nil ?_) | (refine q_nil ?_) | (refine r_indexN hT rfl rfl rfl rfl rfl rfl rfl rfl rfl (by omega) ?_) | (refine r_load hT hat rfl rfl rfl rfl rfl (Nat.add_zero _).symm rfl rfl rfl rfl rfl ?_) | (refine c_yes rfl hz ?_) | (refine r_arith rfl rfl rfl rfl rfl rfl rfl (by omega) ?_) | (with_reducible refine r_seq ?_) | (with_reducible refine x_then ?_) | (with_reducible refine r_region ?_) | (refine r_draw hM (by kernel_rfl) ?_) | (with_reducible refine r_skip ?_) | (with_reducible refine r_ret ?_) | (with_reducible refine x_then_ret ?_) | (with_reducible refine r_block ?_) | (with_reducible refine x_block ?_) | (with_reducible refine x_block_ret ?_) | (with_reducible refine r_exit ?_) | (with_reducible refine x_then_exit ?_) | (with_reducible refine x_block_here ?_) | (refine x_block_past rfl ?_) | (refine c_yes rfl (by omega) ?_) | (refine c_no rfl (by omega) ?_) | (refine c_no rfl (fun h => h rfl) ?_) | (refine r_cond_false rfl ?_) | (refine r_cond_true rfl ?_) | (refine r_cond_dec rfl (fun _ => ?_) (fun _ => ?_)) | (refine r_cond_true rfl ?_) | (refine r_cond_false rfl ?_) | (refine c_not rfl (fun _ => ?_) (fun _ => ?_)) | (refine r_off rfl rfl rfl ?_) | (refine q_guard rfl rfl (fun _ => ?_) (fun _ => ?_)) | (refine q_guardn rfl rfl (fun _ => ?_) (fun _ => ?_)))
      exact r_fin hT rfl _ rfl rfl rfl trivial rfl ⟨by rw [ho, if_neg hz], rfl⟩
  · obtain rfl : i = xs.length := by omega
    repeat' (first | (refine r_pure hT rfl rfl rfl rfl ?_) | (refine r_new hT rfl rfl rfl rfl ?_) | (refine r_write hT rfl rfl rfl ?_) | (refine r_nil ?_) | (refine q_nil ?_) | (refine r_arith rfl rfl rfl rfl rfl rfl rfl (by omega) ?_) | (with_reducible refine r_seq ?_) | (with_reducible refine x_then ?_) | (with_reducible refine r_region ?_) | (refine r_draw hM (by kernel_rfl) ?_) | (with_reducible refine r_skip ?_) | (with_reducible refine r_ret ?_) | (with_reducible refine x_then_ret ?_) | (with_reducible refine r_block ?_) | (with_reducible refine x_block ?_) | (with_reducible refine x_block_ret ?_) | (with_reducible refine r_exit ?_) | (with_reducible refine x_then_exit ?_) | (with_reducible refine x_block_here ?_) | (refine x_block_past rfl ?_) | (refine c_yes rfl (by omega) ?_) | (refine c_no rfl (by omega) ?_) | (refine c_no rfl (fun h => h rfl) ?_) | (refine r_cond_false rfl ?_) | (refine r_cond_true rfl ?_) | (refine r_cond_dec rfl (fun _ => ?_) (fun _ => ?_)) | (refine r_cond_true rfl ?_) | (refine r_cond_false rfl ?_) | (refine c_not rfl (fun _ => ?_) (fun _ => ?_)) | (refine r_off rfl rfl rfl ?_) | (refine q_guard rfl rfl (fun _ => ?_) (fun _ => ?_)) | (refine q_guardn rfl rfl (fun _ => ?_) (fun _ => ?_)))
    exact r_fin hT rfl _ rfl rfl rfl trivial rfl ⟨by rw [ho, List.drop_length]; rfl, rfl⟩
theorem orL3 (a b c : Int) : orL [a, b, c] = if a = 0 then (if b = 0 then c else b) else a := by
  have hc : (if c = 0 then (0 : Int) else c) = c := by
    by_cases h : c = 0
    · rw [if_pos h, h]
    · rw [if_neg h]
  simp only [orL, hc]
theorem cmpI_cases (x y : Int) : (x < y ∧ cmpI x y = -1) ∨ (¬ x < y ∧ y < x ∧ cmpI x y = 1) ∨ (¬ x < y ∧ ¬ y < x ∧ cmpI x y = 0) := by
  unfold cmpI
  by_cases h1 : x < y
  · exact .inl ⟨h1, if_pos h1⟩
  · by_cases h2 : y < x
    · exact .inr (.inl ⟨h1, h2, by rw [if_neg h1, if_pos h2]⟩)
    · exact .inr (.inr ⟨h1, h2, by rw [if_neg h1, if_neg h2]⟩)
theorem kc_or (x y : V) : orL [x.k - y.k, cmpI x.n y.n, Lib.compareBytes x.s.data.toList y.s.data.toList] = kc x y := by
  rw [orL3]
  unfold kc
  by_cases h1 : x.k - y.k = 0
  · rw [if_pos h1, if_neg (show ¬ (x.k - y.k ≠ 0) from fun h => h h1)]
    rcases cmpI_cases x.n y.n with ⟨a, e⟩ | ⟨a, b, e⟩ | ⟨a, b, e⟩
    · rw [e, if_pos a, if_neg (by omega)]
    · rw [e, if_neg a, if_pos b, if_neg (by omega)]
    · rw [e, if_neg a, if_neg b, if_pos rfl]
  · rw [if_neg h1, if_pos h1]
/-- Its kind is one of the five. -/
def Kd (v : V) : Prop := 0 ≤ v.k ∧ v.k ≤ 4
theorem order81 (x y : V) (h : Hp) (hx : Kd x) (hy : Kd y) : TriS Tryd.prog 81 [.ag x.sv, .ag y.sv] [] h (fun z : Int => .v (.int .i64 z)) (fun _ => []) (fun z h' => z = kc x y ∧ Le h h') := by
  refine enterS Tryd.func81 rfl (n := 22) rfl rfl (fun k N => ?_)
  unfold Kd at hx hy
  repeat' (first | (refine r_pure hT rfl rfl rfl rfl ?_) | (refine r_new hT rfl rfl rfl rfl ?_) | (refine r_write hT rfl rfl rfl ?_) | (refine r_nil ?_) | (refine q_nil ?_) | (refine r_many (id := 1) [0, 1, 2, 3, 4, 5, 6, 7, 8, 10, 11, 12, 13] [] h (Le.refl h) hM (by kernel_rfl) rfl (by kernel_rfl) rfl rfl rfl (fun β0 => ?_)) | (refine p_call (cmp123 x.n y.n h) rfl rfl rfl rfl rfl (hC _ rfl) rfl rfl rfl ?_) | (refine p_call (str124 x.s y.s h) rfl rfl rfl rfl rfl (hC _ rfl) rfl rfl rfl ?_) | (refine m_keep (Le.refl h) ⟨rfl, rfl, trivial⟩ rfl rfl ?_) | (refine r_bslice hT (ps := [(0, .tmp 9), (1, .tmp 14), (2, .tmp 19)]) rfl rfl rfl rfl rfl rfl rfl (by simp) rfl rfl (by decide) (fun b3 hb3 => ?_)) | (refine m_keep (le_frsh (Le.refl h) hb3) ⟨rfl, rfl, trivial⟩ rfl rfl ?_) | (refine p_call (or122 [x.k - y.k, cmpI x.n y.n, Lib.compareBytes x.s.data.toList y.s.data.toList] _ 3 3 _ ⟨rfl, sl_blk (upd_here ..) rfl⟩ (by simp)) rfl rfl rfl rfl rfl (hC _ rfl) rfl rfl rfl ?_) | (refine r_arith rfl rfl rfl rfl rfl rfl rfl (by omega) ?_) | (with_reducible refine r_seq ?_) | (with_reducible refine x_then ?_) | (with_reducible refine r_region ?_) | (with_reducible refine r_skip ?_) | (with_reducible refine r_ret ?_) | (with_reducible refine x_then_ret ?_) | (with_reducible refine r_block ?_) | (with_reducible refine x_block ?_) | (with_reducible refine x_block_ret ?_) | (with_reducible refine r_exit ?_) | (with_reducible refine x_then_exit ?_) | (with_reducible refine x_block_here ?_) | (refine x_block_past rfl ?_) | (refine c_yes rfl (by omega) ?_) | (refine c_no rfl (by omega) ?_) | (refine c_no rfl (fun h => h rfl) ?_) | (refine r_cond_false rfl ?_) | (refine r_cond_true rfl ?_) | (refine r_cond_dec rfl (fun _ => ?_) (fun _ => ?_)) | (refine r_cond_true rfl ?_) | (refine r_cond_false rfl ?_) | (refine c_not rfl (fun _ => ?_) (fun _ => ?_)) | (refine r_off rfl rfl rfl ?_) | (refine q_guard rfl rfl (fun _ => ?_) (fun _ => ?_)) | (refine q_guardn rfl rfl (fun _ => ?_) (fun _ => ?_)) | (refine s_nil ?_) | (with_reducible refine a_full ?_) | (refine m_step rfl rfl (List.cons_ne_nil _ _) ?_) | (refine allR_cons rfl ?_ ?_) | (exact allR_nil) | (refine m_end rfl rfl rfl ?_))
  exact r_fin hT rfl _ rfl rfl rfl trivial rfl ⟨kc_or x y, le_frsh (Le.refl h) hb3⟩
theorem cmp118 (p q : Pr) (h : Hp) (hx : Kd p.key) (hy : Kd q.key) : TriS Tryd.prog 118 [.ag p.sv, .ag q.sv] [] h (fun z : Int => .v (.int .i64 z)) (fun _ => []) (fun z h' => z = kc p.key q.key ∧ Le h h') := by
  refine enterS Tryd.func118 rfl (n := 10) rfl rfl (fun k N => ?_)
  repeat' (first | (refine r_pure hT rfl rfl rfl rfl ?_) | (refine r_new hT rfl rfl rfl rfl ?_) | (refine r_write hT rfl rfl rfl ?_) | (refine r_nil ?_) | (refine q_nil ?_) | (refine r_call (order81 p.key q.key h hx hy) rfl rfl rfl rfl rfl (hC _ rfl) rfl rfl (fun z h' hz => ?_)) | (refine r_arith rfl rfl rfl rfl rfl rfl rfl (by omega) ?_) | (with_reducible refine r_seq ?_) | (with_reducible refine x_then ?_) | (with_reducible refine r_region ?_) | (refine r_draw hM (by kernel_rfl) ?_) | (with_reducible refine r_skip ?_) | (with_reducible refine r_ret ?_) | (with_reducible refine x_then_ret ?_) | (with_reducible refine r_block ?_) | (with_reducible refine x_block ?_) | (with_reducible refine x_block_ret ?_) | (with_reducible refine r_exit ?_) | (with_reducible refine x_then_exit ?_) | (with_reducible refine x_block_here ?_) | (refine x_block_past rfl ?_) | (refine c_yes rfl (by omega) ?_) | (refine c_no rfl (by omega) ?_) | (refine c_no rfl (fun h => h rfl) ?_) | (refine r_cond_false rfl ?_) | (refine r_cond_true rfl ?_) | (refine r_cond_dec rfl (fun _ => ?_) (fun _ => ?_)) | (refine r_cond_true rfl ?_) | (refine r_cond_false rfl ?_) | (refine c_not rfl (fun _ => ?_) (fun _ => ?_)) | (refine r_off rfl rfl rfl ?_) | (refine q_guard rfl rfl (fun _ => ?_) (fun _ => ?_)) | (refine q_guardn rfl rfl (fun _ => ?_) (fun _ => ?_)))
  exact r_fin hT rfl _ rfl rfl rfl trivial rfl hz
end Go.Proofs.YtkamfnmbidnhdaaDoor
