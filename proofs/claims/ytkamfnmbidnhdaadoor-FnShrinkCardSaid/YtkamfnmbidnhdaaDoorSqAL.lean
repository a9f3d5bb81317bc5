/- The length of a map; labels as a map. -/
import Derived.Test.YtkamfnmbidnhdaaDoorSqAD
import Derived.Test.YtkamfnmbidnhdaaDoorSqAJ
import Derived.WideLaws
import Derived.Test.YtkamfnmbidnhdaaDoorSqAI
import Derived.Shelf.Small.Strs
import Derived.Test.YtkamfnmbidnhdaaDoorProg
import Derived.Test.YtkamfnmbidnhdaaDoorSqAE
import Derived.Deep.Slices
import Derived.ChangeArms
import Derived.Carry
import Derived.WideShapes
import Derived.Test.YtkamfnmbidnhdaaDoorSqAG
import Derived.Test.YtkamfnmbidnhdaaDoorSqAF
set_option linter.unusedVariables false
set_option linter.unusedSimpArgs false
set_option linter.unusedSectionVars false
namespace Go.Sy
set_option linter.unusedVariables false
set_option linter.unusedSimpArgs false
section
variable {P : Program} {F : Fr} {tm : Tm} {L : Lm} {u : Hp} {Q : Exit → Act → World → Prop} {κ : Type} [DecidableEq κ] {ke : κ → Value}
theorem r_maplen {q : Md} {l : List Oper} {o : Oper} {r : List Oper} {d : Nat} {t : TypeId} {x : Operand} {g : Nat} {m : List (κ × Int)} (hM : MAt P ke u g m) (ht : P.underlying t = some (.map (P.mapKeyOf t) (P.mapElemOf t))) (hl : (m.length : Int) ≤ 9223372036854775807)
    (hw : wantE l tm o = some true) (ho : o.dst = some d) (hn : Nat.blt d F.n.z = true) (hop : o.op = .call { callee := .builtin .len, args := #[x], argTypes := #[t] }) (hx : ev tm x = some (.v (.map (some g))))
    (next : Run P Q F ((d, .v (.int .i64 (m.length : Int))) :: tm) L u q l r) : Run P Q F tm L u q l (o :: r) := by
  refine op_pure hw ho hn (fun β a w ht' hd => ⟨?_, rfl⟩) next
  have h1 : a.eval x = .map (some g) := by rw [ev_ok ht' hx, SV.den]
  obtain ⟨es, clock, hb, he, _⟩ := (hM.imap hd).here
  have hlen : es.size = m.length := by
    have := congrArg List.length he
    simpa using this
  have hrun := run_len_map (P := P) w t o.type g es clock ht hb
  simp [execOp, hop, h1, resolve, invoke, builtin, hrun, hlen, SV.den, goInt]
end
end Go.Sy
/- The walk by a symbolic frame: in a region that draws its order, operations that only read are taken first at any time. Over any program; no condition. -/
namespace Go.Sy
set_option linter.unusedVariables false
section
variable {P : Program} {T : List (Nat × TI)} {tm : Tm} {L : Lm} {u : Hp}
theorem RelT.moved {n : FN} {β β' : Nat → Nat} {a : Act} (hb : ∀ i, (kget L i).isSome = true → β' i = β i) (ht : RelT n L β tm a) : RelT n L β' tm a :=
  ⟨ht.size, by rw [ht.defers]; exact (dvs_same hb ht.dok).symm, ht.dok, fun t s hs => ⟨by rw [den_same hb s (ht.get t s hs).2]; exact (ht.get t s hs).1, (ht.get t s hs).2⟩⟩
theorem m_stillD {F0 : Fr} {u0 : Hp} {β0 : Nat → Nat} {pres : Nat → Bool} {Z : Act → World → Prop} {l lo : List Oper} {fuel : Nat} {lb lb' : List Bool} (π : List Nat) (hsel : Region.noSelect l.toArray = true) (hlo : selE l π = some lo)
    (hB : preD .any l.toArray pres π lb.toArray = true) (hl : lsB π lb = lb') (hu : Le u0 u) {fuel' : Nat} (hf' : Nat.beq fuel' (fuel + π.length) = true)
    (h : Run P (nf (fun a w => Cls F0 L u β0 w → ExL P l pres (Cls F0 L u0 β0) Z fuel lb' a w)) (fen F0 L β0) tm L u0 .still l lo) : St (fen F0 L β0) tm L u (ExL P l pres (Cls F0 L u0 β0) Z fuel' lb) := by
  obtain rfl := Nat.eq_of_beq_eq_true hf'
  intro β a w hf ht hd
  have hb : ∀ i, (kget L i).isSome = true → β0 i = β i := fun i hi => ((hf i (keysOf_get.2 hi)).1).symm
  have hd0 : Den β0 L u F0.k F0.N w := Den.moved hb hd
  have hfe : Fence (fen F0 L β0) L β0 := fun i hi => ⟨rfl, keysOf_get.1 hi⟩
  have hw : Den β0 L u0 F0.k F0.N w := hd0.weak hu
  have key := h β0 a w hfe (RelT.moved hb ht) hw
  subst hl
  refine wpAnyC_preDW hsel π lo _ a w fuel hlo hB hw (wpStillC_imp (fun a' h' => ?_) key)
  have := h' w hw hd0
  rw [lsB_eq]
  exact this
end
end Go.Sy
/- strings.Compare by the shelf's own theorem: written by the kit's lay-plain. No condition. -/
namespace Go.Proofs
open Go.Shelf
def Tryd.lays106_ren : Go.Shelf.Ren := ⟨fun | 106 => 124 | 213 => 157 | 265 => 183 | n => n, fun | 9 => 9 | 3 => 3 | n => n, fun | n => n⟩
theorem Tryd.lays106 : Go.Proofs.Lays.n106 Tryd.prog Tryd.lays106_ren := {
  mixed := by kernel_rfl
  f106 := Tryd.func124.trans (congrArg some (by kernel_rfl))
  f213 := Tryd.func157.trans (congrArg some (by kernel_rfl))
  f265 := Tryd.func183.trans (congrArg some (by kernel_rfl))
  t3 := Tryd.underlying3
  a3 := Tryd.isAgg3
  z3 := Tryd.sizeOf3
  v3 := Tryd.zeroValue3
  t9 := Tryd.underlying9
  a9 := Tryd.isAgg9
  z9 := Tryd.sizeOf9
  v9 := Tryd.zeroValue9 }
open Go.RowKit in
/-- strings.Compare -/
theorem Tryd.strings_Compare (a b : ByteArray) (w : World) :
    Calls Tryd.prog 124 #[.string a, .string b] w fun e w' => e = .returned (.int .i64 (Lib.compareBytes a.data.toList b.data.toList)) ∧ w' = w := Any.strings_Compare Tryd.lays106 a b w
end Go.Proofs
/- From the arguments of a row to the heap of the walk, and back. Over any program; no condition. -/
namespace Go.Sy
open Go.ChangeShapes Go.WideShapes Go.RowKit
set_option maxHeartbeats 1000000
def hpOf (W : World) : Hp := fun b => W.heap[b]?
/-- What reads as data at type t is what K says of it. -/
structure Opn (P : Program) (t : TypeId) (sz : Nat) {α : Type} (K : Hp → α → List Value → Prop) : Prop where
  size : P.cellsOf t = sz
  use : ∀ {H : Type} {enc : TypeId × Value → H} {W : World} {n : Nat} {cs : List Value} {x : DataW H × List MemPlace},
    DataW.trod enc P W 0 (fun _ => true) true n t cs = some x → cs.length = sz ∧ ∃ y, K (hpOf W) y cs
def kInt (k : IntKind) : Hp → Int → List Value → Prop := fun _ z cs => cs = [.int k z] ∧ (Lit.int k z).wf = true
def kSl {α : Type} (sz : Nat) (K : Hp → α → List Value → Prop) : Hp → List α → List Value → Prop := fun u l cs =>
  ∃ (A : Option Addr) (c : Nat) (ds : List (List Value)), cs = [.slice A l.length c] ∧ l.length ≤ c ∧ l.length ≤ maxLen ∧ ds.length = l.length ∧ (∀ d ∈ ds, d.length = sz) ∧ (∀ (i : Nat) d y, ds[i]? = some d → l[i]? = some y → K u y d) ∧ Sl u A l.length sz ds.flatten
section
variable {P : Program} {t e : TypeId} {α β : Type} {sz sz' : Nat} {K : Hp → α → List Value → Prop} {K' : Hp → β → List Value → Prop}
theorem opn_int {k : IntKind} (ht : P.underlying t = some (.int k)) (hc : P.cellsOf t = 1) : Opn P t 1 (kInt k) :=
  ⟨hc, fun h => by obtain ⟨n, rfl, _, hw⟩ := DataW.trod_int ht h; exact ⟨rfl, n, rfl, hw⟩⟩
theorem Opn.imp {K2 : Hp → β → List Value → Prop} (f : α → β) (h : Opn P t sz K) (hi : ∀ u y cs, K u y cs → K2 u (f y) cs) : Opn P t sz K2 :=
  ⟨h.size, fun hx => let ⟨h1, y, hK⟩ := h.use hx; ⟨h1, f y, hi _ _ _ hK⟩⟩
theorem cells_hp {W : World} {a : Addr} {v : Value} (h : W.cell? a = some v) : a.spot = none ∧ ∃ arr t fr, hpOf W a.block = some (.cells arr t fr) ∧ arr[a.off]? = some v := by
  unfold World.cell? at h
  split at h
  · rename_i c t fr hb
    split at h
    · cases h
    · rename_i hs
      exact ⟨by simpa using hs, _, _, _, hb, h⟩
  · cases h
theorem add_block (a : Addr) (j : Nat) : (a.add j).block = a.block := by simp only [Addr.add]; split <;> rfl
theorem add_off (a : Addr) (j : Nat) : (a.add j).off = a.off + j := by simp only [Addr.add]; split <;> simp_all
theorem opn_slice (ht : P.underlying t = some (.slice e)) (hc : P.cellsOf t = 1) (hz : sz ≠ 0) (h : Opn P e sz K) : Opn P t 1 (kSl sz K) := by
  refine ⟨hc, ?_⟩
  intro H enc W n cs x hx
  rcases Go.Deep.open_slice ht hx with ⟨rfl, _⟩ | ⟨a, len, cap, m, n', D, Pl, rfl, _, hl, hm, hmm, _, hel⟩
  · exact ⟨rfl, [], none, 0, [], rfl, Nat.le_refl _, by simp [maxLen], rfl, fun d hd => (by cases hd), fun i d y hd => (by simp at hd), ⟨by simp, fun _ => rfl, fun a h => by cases h⟩⟩
  · refine ⟨rfl, ?_⟩
    have hone : ∀ i : _root_.Fin len, ∃ y : α, ∃ c : List Value, c.length = sz ∧ K (hpOf W) y c ∧ ∀ j u, c[j]? = some u → W.cell? (a.add (i.1 * sz + j)) = some u := by
      intro i
      obtain ⟨cs', h1, h2⟩ := hel i.1 (by have := i.2; rw [hmm]; split <;> omega)
      obtain ⟨_, hlen, hcell⟩ := World.cells?_some h1
      obtain ⟨hl', y, hK⟩ := h.use h2
      refine ⟨y, cs', hl', hK, fun j u hu => ?_⟩
      have hj : j < cs'.length := (List.getElem?_eq_some_iff.1 hu).1
      have := hcell j (by omega)
      rw [Go.Deep.add_add, h.size] at this
      rw [this, hu]
    classical
    have hY := fun i => Classical.choose_spec (hone i)
    have hC := fun i => Classical.choose_spec (hY i)
    refine ⟨List.ofFn fun i => Classical.choose (hone i), some a, cap, List.ofFn fun i => Classical.choose (hY i), by rw [List.length_ofFn], by rw [List.length_ofFn]; exact hl, by rw [List.length_ofFn]; omega, by simp, fun d hd => ?_, fun i d y hd hy => ?_, ?_⟩
    · obtain ⟨i, rfl⟩ := List.mem_ofFn.1 hd
      exact (hC i).1
    · obtain ⟨g1, g2⟩ := List.getElem?_eq_some_iff.1 hd
      obtain ⟨g3, g4⟩ := List.getElem?_eq_some_iff.1 hy
      rw [List.getElem_ofFn] at g2 g4
      subst g2; subst g4
      exact (hC _).2.1
    · rw [List.length_ofFn]
      have hlen : (List.ofFn fun i => Classical.choose (hY i)).flatten.length = len * sz := by
        have : ∀ l : List (List Value), (∀ d ∈ l, d.length = sz) → l.flatten.length = l.length * sz := fun l => by
          induction l with
          | nil => simp
          | cons d r ih => intro hd; simp only [List.flatten_cons, List.length_append, List.length_cons, ih (fun x hx => hd x (.tail _ hx)), hd d (.head _), Nat.add_mul]; omega
        rw [this _ (fun d hd => by obtain ⟨i, rfl⟩ := List.mem_ofFn.1 hd; exact (hC i).1), List.length_ofFn]
      have hget : ∀ (j : Nat) v, (List.ofFn fun i => Classical.choose (hY i)).flatten[j]? = some v → W.cell? (a.add j) = some v := fun j v hj => by
        have key : ∀ (l : List (List Value)), (∀ d ∈ l, d.length = sz) → ∀ j v, l.flatten[j]? = some v → ∃ i d, l[i]? = some d ∧ i * sz ≤ j ∧ d[j - i * sz]? = some v := fun l => by
          induction l with
          | nil => intro _ j v hj; simp at hj
          | cons d r ih =>
            intro hd j v hj
            rw [List.flatten_cons] at hj
            have hdl := hd d (.head _)
            by_cases hlt : j < d.length
            · rw [List.getElem?_append_left hlt] at hj
              exact ⟨0, d, rfl, by omega, by simpa using hj⟩
            · rw [List.getElem?_append_right (by omega)] at hj
              obtain ⟨i, d', h1, h2, h3⟩ := ih (fun x hx => hd x (.tail _ hx)) _ v hj
              refine ⟨i + 1, d', by simpa using h1, by rw [Nat.add_mul]; omega, ?_⟩
              rw [show j - (i + 1) * sz = j - d.length - i * sz by rw [Nat.add_mul]; omega]; exact h3
        obtain ⟨i, d, h1, h2, h3⟩ := key _ (fun d hd => by obtain ⟨i, rfl⟩ := List.mem_ofFn.1 hd; exact (hC i).1) j v hj
        obtain ⟨g1, g2⟩ := List.getElem?_eq_some_iff.1 h1
        rw [List.getElem_ofFn] at g2
        subst g2
        rw [List.length_ofFn] at g1
        have := (hC ⟨i, g1⟩).2.2 _ v h3
        rwa [show i * sz + (j - i * sz) = j by omega] at this
      refine ⟨hlen, fun h => (by cases h), fun ad had hne => ?_⟩
      have e1 := Option.some.inj had; subst e1
      have hpos : 0 < len * sz := Nat.mul_pos (by omega) (by omega)
      obtain ⟨v0, hv0⟩ : ∃ v, (List.ofFn fun i => Classical.choose (hY i)).flatten[0]? = some v := ⟨_, List.getElem?_eq_getElem (by omega)⟩
      have h0 := hget 0 v0 hv0
      rw [show a.add 0 = a by simp [Addr.add]] at h0
      obtain ⟨s1, arr, ty, fr, s2, s3⟩ := cells_hp h0
      refine ⟨s1, arr, ty, fr, s2, fun j v hj => ?_⟩
      have hj' := hget j v hj
      obtain ⟨s4, arr', ty', fr', s5, s6⟩ := cells_hp hj'
      rw [add_block, s2] at s5
      have e2 := Option.some.inj s5
      simp only [Obj.cells.injEq] at e2
      rw [add_off, ← e2.1] at s6
      exact s6
end
/-- A call of a law, from any world. -/
theorem row_calls {P : Program} {f : FuncId} {args : List SV} {vs : List Value} {W : World} (hv : valsE [] args = some vs)
    (h : TriS P f args [] (hpOf W) (fun y : Bool => .v (.bool y)) (fun _ => []) (fun y h' => y = true ∧ Le (hpOf W) h')) :
    Calls P f vs.toArray W (fun e W' => e = .returned (.bool true) ∧ Below W.heap.size W W') := by
  refine (h List.nodup_nil (fun b hb => by simp [names] at hb) vs (hpOf W) hv rfl (fun _ => none) W W ⟨fun b o hb => hb, fun b o hb => (by cases hb), Ge.refl W⟩).mono ?_
  rintro e w' ⟨v, h'', rfl, ⟨y, h', h1, h2, h3, rfl, h5⟩, h6⟩
  simp only [addsE, Option.some.injEq] at h2; subst h2
  simp only [valE, Option.some.injEq] at h1; subst h1
  refine ⟨rfl, h6.size.os, h6.size.tape, h6.size.output, h6.size.size, fun k hk => ?_⟩
  have : hpOf W k = some W.heap[k] := by unfold hpOf; simp [hk]
  rw [h6.ext k _ (h5 k _ this)]
  simp [hk]
end Go.Sy
/- A contract of the walk by a symbolic frame, read as the shelf reads one: it answers, it draws, it lays new blocks; nothing else is turned. -/
namespace Go.Sy
open Go.Sort
set_option linter.unusedVariables false
theorem ge_grow {W w' : World} (hg : Ge W w') (hk : ∀ (b : Nat) (o : Obj), W.heap[b]? = some o → w'.heap[b]? = some o) : ∃ q os, w' = grow (W.drewN q) os := by
  refine ⟨w'.drawn - W.drawn, w'.heap.extract W.heap.size w'.heap.size, ?_⟩
  have hh : w'.heap = W.heap ++ w'.heap.extract W.heap.size w'.heap.size := by
    refine Array.ext_getElem? fun i => ?_
    by_cases hi : i < W.heap.size
    · rw [Array.getElem?_append_left hi, Array.getElem?_eq_getElem hi]
      exact hk i _ (Array.getElem?_eq_getElem hi)
    · have hs := hg.size
      rw [Array.getElem?_append_right (by omega), Array.getElem?_extract]
      by_cases hj : i < w'.heap.size
      · rw [if_pos (by omega)]
        congr 1; omega
      · rw [if_neg (by omega), Array.getElem?_eq_none (by omega)]
  have hd := hg.drawn
  cases w'
  cases W
  simp only [grow, World.drewN, World.mk.injEq]
  exact ⟨hh, hg.tape, by simp only at hd ⊢; omega, hg.os, hg.output⟩
theorem le_lays {P : Program} {f : FuncId} {args : List SV} {vs : List Value} {Y : Type} {val : Y → SV} {v : Value} {r : Y} (W : World) (hvs : valsE [] args = some vs) (hv : valE [] (val r) = some v)
    (h : TriS P f args [] (hpOf W) val (fun _ => []) (fun y h' => y = r ∧ Le (hpOf W) h')) : Calls P f vs.toArray W (fun e w' => e = .returned v ∧ ∃ q os, w' = grow (W.drewN q) os) := by
  refine (h List.nodup_nil (fun b hb => by simp [names] at hb) vs (hpOf W) hvs rfl (fun _ => none) W W ⟨fun b o hb => hb, fun b o hb => (by cases hb), Ge.refl W⟩).mono ?_
  rintro e w' ⟨v', h'', rfl, ⟨y, h', h1, h2, h3, rfl, h5⟩, h6⟩
  simp only [addsE, Option.some.injEq] at h2; subst h2
  have e1 : v' = v := Option.some.inj (h1.symm.trans hv)
  exact ⟨by rw [e1], ge_grow h6.size (fun b o hb => h6.ext b o (h5 b o hb))⟩
end Go.Sy
/- The order of two values: cmp.Compare, strings.Compare, cmp.Or, impl.order, sortedPairs$1. No condition. -/
namespace Go.Proofs.YtkamfnmbidnhdaaDoor
open Go.Sy
set_option maxRecDepth 100000
set_option maxHeartbeats 4000000
set_option linter.unusedVariables false
set_option linter.unusedSimpArgs false
theorem isNaN156 (x : Int) (h : Hp) : Pur Tryd.prog 156 [.v (.int .i64 x)] h (fun y : Bool => .v (.bool y)) false := by
  refine enterS Tryd.func156 rfl (n := 6) rfl rfl (fun k N => ?_)
  repeat' (first | (refine r_pure hT rfl rfl rfl rfl ?_) | (refine r_new hT rfl rfl rfl rfl ?_) | (refine r_write hT rfl rfl rfl ?_) | (refine r_nil ?_) | (refine q_nil ?_) | (refine r_arith rfl rfl rfl rfl rfl rfl rfl (by omega) ?_) | (with_reducible refine r_seq ?_) | (with_reducible refine x_then ?_) | (with_reducible refine r_region ?_) | (refine r_draw hM (by kernel_rfl) ?_) | (with_reducible refine r_skip ?_) | (with_reducible refine r_ret ?_) | (with_reducible refine x_then_ret ?_) | (with_reducible refine r_block ?_) | (with_reducible refine x_block ?_) | (with_reducible refine x_block_ret ?_) | (with_reducible refine r_exit ?_) | (with_reducible refine x_then_exit ?_) | (with_reducible refine x_block_here ?_) | (refine x_block_past rfl ?_) | (refine c_yes rfl (by omega) ?_) | (refine c_no rfl (by omega) ?_) | (refine c_no rfl (fun h => h rfl) ?_) | (refine r_cond_false rfl ?_) | (refine r_cond_true rfl ?_) | (refine r_cond_dec rfl (fun _ => ?_) (fun _ => ?_)) | (refine r_cond_true rfl ?_) | (refine r_cond_false rfl ?_) | (refine c_not rfl (fun _ => ?_) (fun _ => ?_)) | (refine r_off rfl rfl rfl ?_) | (refine q_guard rfl rfl (fun _ => ?_) (fun _ => ?_)) | (refine q_guardn rfl rfl (fun _ => ?_) (fun _ => ?_)))
  exact r_fin hT rfl _ rfl rfl rfl trivial rfl ⟨by simp, rfl⟩
def cmpI (x y : Int) : Int := if x < y then -1 else if y < x then 1 else 0
theorem cmp123 (x y : Int) (h : Hp) : Pur Tryd.prog 123 [.v (.int .i64 x), .v (.int .i64 y)] h (fun y : Int => .v (.int .i64 y)) (cmpI x y) := by
  refine enterS Tryd.func123 rfl (n := 20) rfl rfl (fun k N => ?_)
  by_cases h1 : x < y
  · repeat' (first | (refine r_pure hT rfl rfl rfl rfl ?_) | (refine r_new hT rfl rfl rfl rfl ?_) | (refine r_write hT rfl rfl rfl ?_) | (refine r_nil ?_) | (refine q_nil ?_) | (refine p_call (isNaN156 _ h) rfl rfl rfl rfl rfl (hC _ rfl) rfl rfl rfl ?_) | (refine c_yes rfl h1 ?_) | (refine r_arith rfl rfl rfl rfl rfl rfl rfl (by omega) ?_) | (with_reducible refine r_seq ?_) | (with_reducible refine x_then ?_) | (with_reducible refine r_region ?_) | (refine r_draw hM (by kernel_rfl) ?_) | (with_reducible refine r_skip ?_) | (with_reducible refine r_ret ?_) | (with_reducible refine x_then_ret ?_) | (with_reducible refine r_block ?_) | (with_reducible refine x_block ?_) | (with_reducible refine x_block_ret ?_) | (with_reducible refine r_exit ?_) | (with_reducible refine x_then_exit ?_) | (with_reducible refine x_block_here ?_) | (refine x_block_past rfl ?_) | (refine c_yes rfl (by omega) ?_) | (refine c_no rfl (by omega) ?_) | (refine c_no rfl (fun h => h rfl) ?_) | (refine r_cond_false rfl ?_) | (refine r_cond_true rfl ?_) | (refine r_cond_dec rfl (fun _ => ?_) (fun _ => ?_)) | (refine r_cond_true rfl ?_) | (refine r_cond_false rfl ?_) | (refine c_not rfl (fun _ => ?_) (fun _ => ?_)) | (refine r_off rfl rfl rfl ?_) | (refine q_guard rfl rfl (fun _ => ?_) (fun _ => ?_)) | (refine q_guardn rfl rfl (fun _ => ?_) (fun _ => ?_)))
    exact r_fin hT rfl _ rfl rfl rfl trivial rfl ⟨by unfold cmpI; rw [if_pos h1], rfl⟩
  · by_cases h2 : y < x
    · repeat' (first | (refine r_pure hT rfl rfl rfl rfl ?_) | (refine r_new hT rfl rfl rfl rfl ?_) | (refine r_write hT rfl rfl rfl ?_) | (refine r_nil ?_) | (refine q_nil ?_) | (refine p_call (isNaN156 _ h) rfl rfl rfl rfl rfl (hC _ rfl) rfl rfl rfl ?_) | (refine c_no rfl h1 ?_) | (refine c_yes rfl h2 ?_) | (refine r_arith rfl rfl rfl rfl rfl rfl rfl (by omega) ?_) | (with_reducible refine r_seq ?_) | (with_reducible refine x_then ?_) | (with_reducible refine r_region ?_) | (refine r_draw hM (by kernel_rfl) ?_) | (with_reducible refine r_skip ?_) | (with_reducible refine r_ret ?_) | (with_reducible refine x_then_ret ?_) | (with_reducible refine r_block ?_) | (with_reducible refine x_block ?_) | (with_reducible refine x_block_ret ?_) | (with_reducible refine r_exit ?_) | (with_reducible refine x_then_exit ?_) | (with_reducible refine x_block_here ?_) | (refine x_block_past rfl ?_) | (refine c_yes rfl (by omega) ?_) | (refine c_no rfl (by omega) ?_) | (refine c_no rfl (fun h => h rfl) ?_) | (refine r_cond_false rfl ?_) | (refine r_cond_true rfl ?_) | (refine r_cond_dec rfl (fun _ => ?_) (fun _ => ?_)) | (refine r_cond_true rfl ?_) | (refine r_cond_false rfl ?_) | (refine c_not rfl (fun _ => ?_) (fun _ => ?_)) | (refine r_off rfl rfl rfl ?_) | (refine q_guard rfl rfl (fun _ => ?_) (fun _ => ?_)) | (refine q_guardn rfl rfl (fun _ => ?_) (fun _ => ?_)))
      exact r_fin hT rfl _ rfl rfl rfl trivial rfl ⟨by unfold cmpI; rw [if_neg h1, if_pos h2], rfl⟩
    · repeat' (first | (refine r_pure hT rfl rfl rfl rfl ?_) | (refine r_new hT rfl rfl rfl rfl ?_) | (refine r_write hT rfl rfl rfl ?_) | (refine r_nil ?_) | (refine q_nil ?_) | (refine p_call (isNaN156 _ h) rfl rfl rfl rfl rfl (hC _ rfl) rfl rfl rfl ?_) | (refine c_no rfl h1 ?_) | (refine c_no rfl h2 ?_) | (refine r_arith rfl rfl rfl rfl rfl rfl rfl (by omega) ?_) | (with_reducible refine r_seq ?_) | (with_reducible refine x_then ?_) | (with_reducible refine r_region ?_) | (refine r_draw hM (by kernel_rfl) ?_) | (with_reducible refine r_skip ?_) | (with_reducible refine r_ret ?_) | (with_reducible refine x_then_ret ?_) | (with_reducible refine r_block ?_) | (with_reducible refine x_block ?_) | (with_reducible refine x_block_ret ?_) | (with_reducible refine r_exit ?_) | (with_reducible refine x_then_exit ?_) | (with_reducible refine x_block_here ?_) | (refine x_block_past rfl ?_) | (refine c_yes rfl (by omega) ?_) | (refine c_no rfl (by omega) ?_) | (refine c_no rfl (fun h => h rfl) ?_) | (refine r_cond_false rfl ?_) | (refine r_cond_true rfl ?_) | (refine r_cond_dec rfl (fun _ => ?_) (fun _ => ?_)) | (refine r_cond_true rfl ?_) | (refine r_cond_false rfl ?_) | (refine c_not rfl (fun _ => ?_) (fun _ => ?_)) | (refine r_off rfl rfl rfl ?_) | (refine q_guard rfl rfl (fun _ => ?_) (fun _ => ?_)) | (refine q_guardn rfl rfl (fun _ => ?_) (fun _ => ?_)))
      exact r_fin hT rfl _ rfl rfl rfl trivial rfl ⟨by unfold cmpI; rw [if_neg h1, if_neg h2], rfl⟩
theorem str124 (a b : ByteArray) (h : Hp) : Pur Tryd.prog 124 [.v (.string a), .v (.string b)] h (fun y : Int => .v (.int .i64 y)) (Lib.compareBytes a.data.toList b.data.toList) :=
  pur_calls _ rfl rfl (fun w _ => (Tryd.strings_Compare a b w).mono fun e w' ⟨he, hw⟩ => ⟨he, by rw [hw]; exact fun b o h => h, by rw [hw]; exact Ge.refl w⟩)
def orL : List Int → Int
  | [] => 0
  | x :: r => if x = 0 then orL r else x
theorem or122 (xs : List Int) (A : Option Addr) (n c : Nat) (h : Hp) (hP : Ints h A n xs) (hl : xs.length ≤ 1000000) : Pur Tryd.prog 122 [.v (.slice A n c)] h (fun y : Int => .v (.int .i64 y)) (orL xs) := by
  obtain rfl := hP.1
  refine enterS Tryd.func122 rfl (n := 18) rfl rfl (fun k N => ?_)
  repeat' (first | (refine r_pure hT rfl rfl rfl rfl ?_) | (refine r_new hT rfl rfl rfl rfl ?_) | (refine r_write hT rfl rfl rfl ?_) | (refine r_nil ?_) | (refine q_nil ?_) | (refine r_arith rfl rfl rfl rfl rfl rfl rfl (by omega) ?_) | (with_reducible refine r_seq ?_) | (with_reducible refine x_then ?_) | (with_reducible refine r_region ?_) | (refine r_draw hM (by kernel_rfl) ?_) | (with_reducible refine r_skip ?_) | (with_reducible refine r_ret ?_) | (with_reducible refine x_then_ret ?_) | (with_reducible refine r_block ?_) | (with_reducible refine x_block ?_) | (with_reducible refine x_block_ret ?_) | (with_reducible refine r_exit ?_) | (with_reducible refine x_then_exit ?_) | (with_reducible refine x_block_here ?_) | (refine x_block_past rfl ?_) | (refine c_yes rfl (by omega) ?_) | (refine c_no rfl (by omega) ?_) | (refine c_no rfl (fun h => h rfl) ?_) | (refine r_cond_false rfl ?_) | (refine r_cond_true rfl ?_) | (refine r_cond_dec rfl (fun _ => ?_) (fun _ => ?_)) | (refine r_cond_true rfl ?_) | (refine r_cond_false rfl ?_) | (refine c_not rfl (fun _ => ?_) (fun _ => ?_)) | (refine r_off rfl rfl rfl ?_) | (refine q_guard rfl rfl (fun _ => ?_) (fun _ => ?_)) | (refine q_guardn rfl rfl (fun _ => ?_) (fun _ => ?_)))
  refine r_loop (γ := Nat) (fun i => i ≤ xs.length ∧ orL xs = orL (xs.drop i)) (fun i => [(3, .v (.int .i64 0)), (6, .v (.slice A xs.length c)), (7, .v (.int .i64 (xs.length : Int))), (8, .v (.int .i64 (i : Int)))]) (fun _ => []) (fun _ => h) (fun i => xs.length - i)
    0 ⟨Nat.zero_le _, rfl⟩ (into rfl ⟨rfl, rfl, rfl, rfl, trivial⟩ trivial rfl rfl) ?_
  rintro i ⟨hi, ho⟩
  by_cases hlt : i < xs.length
  · obtain ⟨b, off, p, rfl, hd, hix, hm, hat⟩ := hP.elem Ic_len hlt
    rw [hd, orL] at ho
    by_cases hz : p = 0
    · repeat' (first | (refine r_pure hT rfl rfl rfl rfl ?_) | (refine r_new hT rfl rfl rfl rfl ?_) | (refine r_write hT rfl rfl rfl ?_) | (refine r_nil ?_) | (refine q_nil ?_) | (refine r_indexN hT rfl rfl rfl rfl rfl rfl rfl rfl rfl (by omega) ?_) | (refine r_load hT hat rfl rfl rfl rfl rfl (Nat.add_zero _).symm rfl rfl rfl rfl rfl ?_) | (refine c_no rfl (fun h => h hz) ?_) | (refine r_arith rfl rfl rfl rfl rfl rfl rfl (by omega) ?_) | (with_reducible refine r_seq ?_) | (with_reducible refine x_then ?_) | (with_reducible refine r_region ?_) | (refine r_draw hM (by kernel_rfl) ?_) | (with_reducible refine r_skip ?_) | (with_reducible refine r_ret ?_) | (with_reducible refine x_then_ret ?_) | (with_reducible refine r_block ?_) | (with_reducible refine x_block ?_) | (with_reducible refine x_block_ret ?_) | (with_reducible refine r_exit ?_) | (with_reducible refine x_then_exit ?_) | (with_reducible refine x_block_here ?_) | (refine x_block_past rfl ?_) | (refine c_yes rfl (by omega) ?_) | (refine c_no rfl (by omega) ?_) | (refine c_no rfl (fun h => h rfl) ?_) | (refine r_cond_false rfl ?_) | (refine r_cond_true rfl ?_) | (refine r_cond_dec rfl (fun _ => ?_) (fun _ => ?_)) | (refine r_cond_true rfl ?_) | (refine r_cond_false rfl ?_) | (refine c_not rfl (fun _ => ?_) (fun _ => ?_)) | (refine r_off rfl rfl rfl ?_) | (refine q_guard rfl rfl (fun _ => ?_) (fun _ => ?_)) | (refine q_guardn rfl rfl (fun _ => ?_) (fun _ => ?_)))
      exact x_round (i + 1) ⟨hlt, by rw [ho, if_pos hz]⟩ (by omega) (into rfl ⟨rfl, rfl, rfl, rfl, trivial⟩ trivial rfl rfl)
    · repeat' (first | (refine r_pure hT rfl rfl rfl rfl ?_) | (refine r_new hT rfl rfl rfl rfl ?_) | (refine r_write hT rfl rfl rfl ?_) | (refine r_nil ?_) | (refine q_nil ?_) | (refine r_indexN hT rfl rfl rfl rfl rfl rfl rfl rfl rfl (by omega) ?_) | (refine r_load hT hat rfl rfl rfl rfl rfl (Nat.add_zero _).symm rfl rfl rfl rfl rfl ?_) | (refine c_yes rfl hz ?_) | (refine r_arith rfl rfl rfl rfl rfl rfl rfl (by omega) ?_) | (with_reducible refine r_seq ?_) | (with_reducible refine x_then ?_) | (with_reducible refine r_region ?_) | (refine r_draw hM (by kernel_rfl) ?_) | (with_reducible refine r_skip ?_) | (with_reducible refine r_ret ?_) | (with_reducible refine x_then_ret ?_) | (with_reducible refine r_block ?_) | (with_reducible refine x_block ?_) | (with_reducible refine x_block_ret ?_) | (with_reducible refine r_exit ?_) | (with_reducible refine x_then_exit ?_) | (with_reducible refine x_block_here ?_) | (refine x_block_past rfl ?_) | (refine c_yes rfl (by omega) ?_) | (refine c_no rfl (by omega) ?_) | (refine c_no rfl (fun h => h rfl) ?_) | (refine r_cond_false rfl ?_) | (refine r_cond_true rfl ?_) | (refine r_cond_dec rfl (fun _ => ?_) (fun _ => ?_)) | (refine r_cond_true rfl ?_) | (refine r_cond_false rfl ?_) | (refine c_not rfl (fun _ => ?_) (fun _ => ?_)) | (refine r_off rfl rfl rfl ?_) | (refine q_guard rfl rfl (fun _ => ?_) (fun _ => ?_)) | (refine q_guardn rfl rfl (fun _ => ?_) (fun _ => ?_)))
      exact r_fin hT rfl _ rfl rfl rfl trivial rfl ⟨by rw [ho, if_neg hz], rfl⟩
  · obtain rfl : i = xs.length := by omega
    repeat' (first | (refine r_pure hT rfl rfl rfl rfl ?_) | (refine r_new hT rfl rfl rfl rfl ?_) | (refine r_write hT rfl rfl rfl ?_) | (refine r_nil ?_) | (refine q_nil ?_) | (refine r_arith rfl rfl rfl rfl rfl rfl rfl (by omega) ?_) | (with_reducible refine r_seq ?_) | (with_reducible refine x_then ?_) | (with_reducible refine r_region ?_) | (refine r_draw hM (by kernel_rfl) ?_) | (with_reducible refine r_skip ?_) | (with_reducible refine r_ret ?_) | (with_reducible refine x_then_ret ?_) | (with_reducible refine r_block ?_) | (with_reducible refine x_block ?_) | (with_reducible refine x_block_ret ?_) | (with_reducible refine r_exit ?_) | (with_reducible refine x_then_exit ?_) | (with_reducible refine x_block_here ?_) | (refine x_block_past rfl ?_) | (refine c_yes rfl (by omega) ?_) | (refine c_no rfl (by omega) ?_) | (refine c_no rfl (fun h => h rfl) ?_) | (refine r_cond_false rfl ?_) | (refine r_cond_true rfl ?_) | (refine r_cond_dec rfl (fun _ => ?_) (fun _ => ?_)) | (refine r_cond_true rfl ?_) | (refine r_cond_false rfl ?_) | (refine c_not rfl (fun _ => ?_) (fun _ => ?_)) | (refine r_off rfl rfl rfl ?_) | (refine q_guard rfl rfl (fun _ => ?_) (fun _ => ?_)) | (refine q_guardn rfl rfl (fun _ => ?_) (fun _ => ?_)))
    exact r_fin hT rfl _ rfl rfl rfl trivial rfl ⟨by rw [ho, List.drop_length]; rfl, rfl⟩
theorem orL3 (a b c : Int) : orL [a, b, c] = if a = 0 then (if b = 0 then c else b) else a := by
  have hc : (if c = 0 then (0 : Int) else c) = c := by
    by_cases h : c = 0
    · rw [if_pos h, h]
    · rw [if_neg h]
  simp only [orL, hc]
theorem cmpI_cases (x y : Int) : (x < y ∧ cmpI x y = -1) ∨ (¬ x < y ∧ y < x ∧ cmpI x y = 1) ∨ (¬ x < y ∧ ¬ y < x ∧ cmpI x y = 0) := by
  unfold cmpI
  by_cases h1 : x < y
  · exact .inl ⟨h1, if_pos h1⟩
  · by_cases h2 : y < x
    · exact .inr (.inl ⟨h1, h2, by rw [if_neg h1, if_pos h2]⟩)
    · exact .inr (.inr ⟨h1, h2, by rw [if_neg h1, if_neg h2]⟩)
theorem kc_or (x y : V) : orL [x.k - y.k, cmpI x.n y.n, Lib.compareBytes x.s.data.toList y.s.data.toList] = kc x y := by
  rw [orL3]
  unfold kc
  by_cases h1 : x.k - y.k = 0
  · rw [if_pos h1, if_neg (show ¬ (x.k - y.k ≠ 0) from fun h => h h1)]
    rcases cmpI_cases x.n y.n with ⟨a, e⟩ | ⟨a, b, e⟩ | ⟨a, b, e⟩
    · rw [e, if_pos a, if_neg (by omega)]
    · rw [e, if_neg a, if_pos b, if_neg (by omega)]
    · rw [e, if_neg a, if_neg b, if_pos rfl]
  · rw [if_neg h1, if_pos h1]
/-- Its kind is one of the five. -/
def Kd (v : V) : Prop := 0 ≤ v.k ∧ v.k ≤ 4
theorem order81 (x y : V) (h : Hp) (hx : Kd x) (hy : Kd y) : TriS Tryd.prog 81 [.ag x.sv, .ag y.sv] [] h (fun z : Int => .v (.int .i64 z)) (fun _ => []) (fun z h' => z = kc x y ∧ Le h h') := by
  refine enterS Tryd.func81 rfl (n := 22) rfl rfl (fun k N => ?_)
  unfold Kd at hx hy
  repeat' (first | (refine r_pure hT rfl rfl rfl rfl ?_) | (refine r_new hT rfl rfl rfl rfl ?_) | (refine r_write hT rfl rfl rfl ?_) | (refine r_nil ?_) | (refine q_nil ?_) | (refine r_many (id := 1) [0, 1, 2, 3, 4, 5, 6, 7, 8, 10, 11, 12, 13] [] h (Le.refl h) hM (by kernel_rfl) rfl (by kernel_rfl) rfl rfl rfl (fun β0 => ?_)) | (refine p_call (cmp123 x.n y.n h) rfl rfl rfl rfl rfl (hC _ rfl) rfl rfl rfl ?_) | (refine p_call (str124 x.s y.s h) rfl rfl rfl rfl rfl (hC _ rfl) rfl rfl rfl ?_) | (refine m_keep (Le.refl h) ⟨rfl, rfl, trivial⟩ rfl rfl ?_) | (refine r_bslice hT (ps := [(0, .tmp 9), (1, .tmp 14), (2, .tmp 19)]) rfl rfl rfl rfl rfl rfl rfl (by simp) rfl rfl (by decide) (fun b3 hb3 => ?_)) | (refine m_keep (le_frsh (Le.refl h) hb3) ⟨rfl, rfl, trivial⟩ rfl rfl ?_) | (refine p_call (or122 [x.k - y.k, cmpI x.n y.n, Lib.compareBytes x.s.data.toList y.s.data.toList] _ 3 3 _ ⟨rfl, sl_blk (upd_here ..) rfl⟩ (by simp)) rfl rfl rfl rfl rfl (hC _ rfl) rfl rfl rfl ?_) | (refine r_arith rfl rfl rfl rfl rfl rfl rfl (by omega) ?_) | (with_reducible refine r_seq ?_) | (with_reducible refine x_then ?_) | (with_reducible refine r_region ?_) | (with_reducible refine r_skip ?_) | (with_reducible refine r_ret ?_) | (with_reducible refine x_then_ret ?_) | (with_reducible refine r_block ?_) | (with_reducible refine x_block ?_) | (with_reducible refine x_block_ret ?_) | (with_reducible refine r_exit ?_) | (with_reducible refine x_then_exit ?_) | (with_reducible refine x_block_here ?_) | (refine x_block_past rfl ?_) | (refine c_yes rfl (by omega) ?_) | (refine c_no rfl (by omega) ?_) | (refine c_no rfl (fun h => h rfl) ?_) | (refine r_cond_false rfl ?_) | (refine r_cond_true rfl ?_) | (refine r_cond_dec rfl (fun _ => ?_) (fun _ => ?_)) | (refine r_cond_true rfl ?_) | (refine r_cond_false rfl ?_) | (refine c_not rfl (fun _ => ?_) (fun _ => ?_)) | (refine r_off rfl rfl rfl ?_) | (refine q_guard rfl rfl (fun _ => ?_) (fun _ => ?_)) | (refine q_guardn rfl rfl (fun _ => ?_) (fun _ => ?_)) | (refine s_nil ?_) | (with_reducible refine a_full ?_) | (refine m_step rfl rfl (List.cons_ne_nil _ _) ?_) | (refine allR_cons rfl ?_ ?_) | (exact allR_nil) | (refine m_end rfl rfl rfl ?_))
  exact r_fin hT rfl _ rfl rfl rfl trivial rfl ⟨kc_or x y, le_frsh (Le.refl h) hb3⟩
theorem cmp118 (p q : Pr) (h : Hp) (hx : Kd p.key) (hy : Kd q.key) : TriS Tryd.prog 118 [.ag p.sv, .ag q.sv] [] h (fun z : Int => .v (.int .i64 z)) (fun _ => []) (fun z h' => z = kc p.key q.key ∧ Le h h') := by
  refine enterS Tryd.func118 rfl (n := 10) rfl rfl (fun k N => ?_)
  repeat' (first | (refine r_pure hT rfl rfl rfl rfl ?_) | (refine r_new hT rfl rfl rfl rfl ?_) | (refine r_write hT rfl rfl rfl ?_) | (refine r_nil ?_) | (refine q_nil ?_) | (refine r_call (order81 p.key q.key h hx hy) rfl rfl rfl rfl rfl (hC _ rfl) rfl rfl (fun z h' hz => ?_)) | (refine r_arith rfl rfl rfl rfl rfl rfl rfl (by omega) ?_) | (with_reducible refine r_seq ?_) | (with_reducible refine x_then ?_) | (with_reducible refine r_region ?_) | (refine r_draw hM (by kernel_rfl) ?_) | (with_reducible refine r_skip ?_) | (with_reducible refine r_ret ?_) | (with_reducible refine x_then_ret ?_) | (with_reducible refine r_block ?_) | (with_reducible refine x_block ?_) | (with_reducible refine x_block_ret ?_) | (with_reducible refine r_exit ?_) | (with_reducible refine x_then_exit ?_) | (with_reducible refine x_block_here ?_) | (refine x_block_past rfl ?_) | (refine c_yes rfl (by omega) ?_) | (refine c_no rfl (by omega) ?_) | (refine c_no rfl (fun h => h rfl) ?_) | (refine r_cond_false rfl ?_) | (refine r_cond_true rfl ?_) | (refine r_cond_dec rfl (fun _ => ?_) (fun _ => ?_)) | (refine r_cond_true rfl ?_) | (refine r_cond_false rfl ?_) | (refine c_not rfl (fun _ => ?_) (fun _ => ?_)) | (refine r_off rfl rfl rfl ?_) | (refine q_guard rfl rfl (fun _ => ?_) (fun _ => ?_)) | (refine q_guardn rfl rfl (fun _ => ?_) (fun _ => ?_)))
  exact r_fin hT rfl _ rfl rfl rfl trivial rfl hz
end Go.Proofs.YtkamfnmbidnhdaaDoor
