/- A contract of the library's own words, for the walk by a symbolic frame: it answers, and only new blocks come. -/
import Derived.Test.YtkamfnmbidnhdaaDoorSyR
import Derived.Sort.Grow
import Derived.Test.YtkamfnmbidnhdaaDoorSyGa
import Derived.Test.YtkamfnmbidnhdaaDoorSyIK
import Derived.Test.YtkamfnmbidnhdaaDoorSyP
set_option linter.unusedVariables false
set_option linter.unusedSimpArgs false
set_option linter.unusedSectionVars false
namespace Go.Sy
open Go.Sort
theorem pur_calls {P : Program} {f : FuncId} {args : List SV} {vs : List Value} {h : Hp} {Y : Type} {val : Y → SV} {v : Value} (r : Y) (hvs : valsE [] args = some vs) (hv : valE [] (val r) = some v)
    (hc : ∀ w : World, (∀ (b : Nat) (o : Obj), h b = some o → w.heap[b]? = some o) → Calls P f vs.toArray w fun (e : Ending) (w' : World) => e = .returned v ∧ (∀ (b : Nat) (o : Obj), w.heap[b]? = some o → w'.heap[b]? = some o) ∧ Ge w w') : Pur P f args h val r := by
  intro _ _ vs' h0 h1 h2
  rw [hvs] at h1
  obtain rfl := Option.some.inj h1
  have e : h = h0 := by simpa [addsE] using h2
  subst e
  intro k N w hd
  refine (hc w hd.ext).mono fun e w' ⟨he, hk, hg⟩ => ?_
  exact ⟨v, h, he, ⟨r, h, hv, rfl, fun b hb => (by cases hb), rfl, rfl⟩, ⟨fun b o hb => hk b o (hd.ext b o hb), fun b o hb => ⟨hk b o (hd.hid b o hb).1, (hd.hid b o hb).2⟩, hd.size.trans hg⟩⟩
theorem grow_keep {w : World} {k : Nat} {os : Array Obj} : (∀ (b : Nat) (o : Obj), w.heap[b]? = some o → (grow (w.drewN k) os).heap[b]? = some o) ∧ Ge w (grow (w.drewN k) os) := by
  refine ⟨fun b o hb => ?_, ⟨by simp [grow, World.drewN], rfl, rfl, rfl⟩⟩
  have hlt := (Array.getElem?_eq_some_iff.1 hb).1
  show (w.heap ++ os)[b]? = some o
  rw [Array.getElem?_append_left hlt]; exact hb
end Go.Sy
/- A quoted text: the plain function. -/
namespace Go.Sy
def hexT : ByteArray := ⟨#[48, 49, 50, 51, 52, 53, 54, 55, 56, 57, 97, 98, 99, 100, 101, 102]⟩
def hx (k : Nat) : UInt8 := hexT.data.toList.getD k 0
def q1 (b : UInt8) : List UInt8 := if (b.toNat : Int) = 34 ∨ (b.toNat : Int) = 92 then [92, b] else if (b.toNat : Int) < 32 ∨ 126 < (b.toNat : Int) then [92, hx (b.toNat / 16), hx (b.toNat % 16)] else [b]
def qt (l : List UInt8) : List UInt8 := 34 :: l.flatMap q1 ++ [34]
theorem q1_esc {b : UInt8} (h : (b.toNat : Int) = 34 ∨ (b.toNat : Int) = 92) : q1 b = [92, b] := if_pos h
theorem q1_hex {b : UInt8} (h : ¬ ((b.toNat : Int) = 34 ∨ (b.toNat : Int) = 92)) (g : (b.toNat : Int) < 32 ∨ 126 < (b.toNat : Int)) : q1 b = [92, hx (b.toNat / 16), hx (b.toNat % 16)] := by unfold q1; rw [if_neg h, if_pos g]
theorem q1_one {b : UInt8} (h : ¬ ((b.toNat : Int) = 34 ∨ (b.toNat : Int) = 92)) (g : ¬ ((b.toNat : Int) < 32 ∨ 126 < (b.toNat : Int))) : q1 b = [b] := by unfold q1; rw [if_neg h, if_neg g]
theorem q1_len (b : UInt8) : (q1 b).length ≤ 3 := by
  unfold q1
  split
  · simp
  · split <;> simp
theorem qs_len : ∀ l : List UInt8, (l.flatMap q1).length ≤ 3 * l.length
  | [] => by simp
  | b :: r => by
    have := qs_len r
    have := q1_len b
    rw [List.flatMap_cons, List.length_append, List.length_cons]; omega
theorem qt_len (l : List UInt8) : (qt l).length ≤ 3 * l.length + 2 := by
  have := qs_len l
  unfold qt
  rw [List.length_append, List.length_cons, List.length_singleton]; omega
theorem qs_next {l : List UInt8} {i : Nat} {b : UInt8} (h : l[i]? = some b) : (l.take (i + 1)).flatMap q1 = (l.take i).flatMap q1 ++ q1 b := by
  rw [take_snoc h, List.flatMap_append]; simp
theorem byt_at {s : ByteArray} {i : Nat} {b : UInt8} (h : s.data.toList[i]? = some b) : byt s i = b.toNat := by
  unfold byt
  rw [List.getD_eq_getElem?_getD, h]; rfl
theorem byt_hex (k : Nat) : byt hexT k = (hx k).toNat := rfl
end Go.Sy
/- An operation whose guard did not come up does not come up. -/
namespace Go.Sy
section
variable {P : Program} {F : Fr} {tm : Tm} {L : Lm} {u : Hp} {Q : Exit → Act → World → Prop}
theorem r_offu {q : Md} {l : List Oper} {o oj : Oper} {r : List Oper} {d j e : Nat} {want : Bool} (hg : o.guard = some (j, want)) (hj : nth l j = some oj) (he : oj.dst = some e) (hv : kget tm e = some (.v undef)) (ho : o.dst = some d) (hn : Nat.blt d F.n.z = true)
    (next : Run P Q F ((d, .v undef) :: tm) L u q l r) : Run P Q F tm L u q l (o :: r) := by
  cases q <;>
  · intro β a w hf ht hd
    show (if _ then _ else _)
    have hw : Region.wanted o (yielded l.toArray a.tmps) = false := by
      unfold Region.wanted
      rw [hg]
      rw [nth_eq] at hj
      have := (ht.get e _ hv).1
      simp [yielded, hj, he, this, SV.den, undef]
    rw [if_neg (by rw [hw]; simp), ho]
    exact next β _ w hf (put_rel (s := .v undef) hn ht rfl) hd
/-- Bools compared. -/
theorem r_eqb {q : Md} {l : List Oper} {o : Oper} {r : List Oper} {d : Nat} {op : BinOp} {t t' : TypeId} {x y : Operand} {a1 b1 : Bool} (hu : P.underlying t = some .bool) (hb : op = .eql ∨ op = .neq) (hw : wantE l tm o = some true) (ho : o.dst = some d) (hn : Nat.blt d F.n.z = true) (hop : o.op = .binOp op t x y t')
    (hx : ev tm x = some (.v (.bool a1))) (hy : ev tm y = some (.v (.bool b1))) (next : Run P Q F ((d, .v (.bool (match op with | .eql => (a1 == b1) | _ => !(a1 == b1)))) :: tm) L u q l r) : Run P Q F tm L u q l (o :: r) := by
  refine op_pure hw ho hn (fun β a w ht' hd => ⟨?_, rfl⟩) next
  have h1 : a.eval x = .bool a1 := by rw [ev_ok ht' hx, SV.den]
  have h2 : a.eval y = .bool b1 := by rw [ev_ok ht' hy, SV.den]
  rcases hb with rfl | rfl <;> simp [execOp, hop, h1, h2, eqGuard, binOp, run_equal_bool w t a1 b1 hu, SV.den]
end
end Go.Sy
/- A simple value's text: the plain function. -/
namespace Go.Sy
def plT (v : V) : List UInt8 := if v.k = 1 then (if v.n = 1 then [116, 114, 117, 101] else [102, 97, 108, 115, 101]) else if v.k = 2 then Lib.itoa v.n else if v.k = 3 then qt v.s.data.toList else [110, 105, 108]
/-- A value whose number is an int64 and whose text is not too long. -/
def V.fit (v : V) : Prop := (-9223372036854775808 ≤ v.n ∧ v.n ≤ 9223372036854775807) ∧ v.s.size ≤ 1000000
end Go.Sy
