/- Rows with an element put anew; owned rows with a row put anew. Plain. -/
import Derived.Test.YtkamfnmbidnhdaaDoorSyW
import Derived.Test.YtkamfnmbidnhdaaDoorSyR
import Derived.Test.YtkamfnmbidnhdaaDoorSyP
set_option linter.unusedVariables false
set_option linter.unusedSimpArgs false
set_option linter.unusedSectionVars false
namespace Go.Sy
theorem set_flat {α : Type} {c : α → List Value} {sz : Nat} (hc : ∀ x, (c x).length = sz) (xs : List α) {i : Nat} (x : α) (hi : i < xs.length) : setL (xs.flatMap c) (i * sz) (c x) = (xs.set i x).flatMap c := by
  have h1 : ((xs.take i).flatMap c).length = i * sz := by rw [flat_length hc, List.length_take, Nat.min_eq_left (by omega)]
  have h2 : xs = xs.take i ++ xs[i] :: xs.drop (i + 1) := by rw [← List.drop_eq_getElem_cons hi, List.take_append_drop]
  rw [List.set_eq_take_append_cons_drop, if_pos hi]
  conv => lhs; rw [h2]
  simp only [setL, List.flatMap_append, List.flatMap_cons]
  rw [List.take_left' h1]
  congr 2
  rw [List.drop_append, List.drop_eq_nil_of_le (by omega), List.nil_append, h1, hc, show i * sz + sz - i * sz = sz by omega, List.drop_left' (hc _)]
/-- A header put anew: rows to be read. -/
theorem OTG.put {α : Type} {cc : α → List Value} {sz : Nat} {u u' : Hp} {eT eP : TypeId} {A : Option Addr} {n c : Nat} {hs : List Hd} {ts : List (List α)} (h : OTG cc sz u eT eP A n c hs ts) {i : Nat} {y : Hd} {t : List α}
    (hO : Own u' A n c eT 1 ((hs.set i y).flatMap Hd.v)) (hy : Own u' y.A y.n y.c eP sz (t.flatMap cc)) (hn : y.n = t.length) (hk : ∀ b o, blk A ≠ some b → u b = some o → u' b = some o) : TabG cc sz u' A n (ts.set i t) := by
  refine ⟨hs.set i y, by simp [h.rows.len], ⟨by rw [List.length_set, h.num, h.rows.len], hO.sl⟩, fun j x s hx hs' => ?_⟩
  rw [List.getElem?_set] at hx hs'
  by_cases hj : i = j
  · subst hj
    rw [if_pos rfl] at hx hs'
    have e : i < hs.length := by
      by_cases e : i < hs.length
      · exact e
      · rw [if_neg e] at hx; cases hx
    have e2 : i < ts.length := by rw [← h.rows.len]; exact e
    rw [if_pos e] at hx
    rw [if_pos e2] at hs'
    obtain rfl := Option.some.inj hx
    obtain rfl := Option.some.inj hs'
    exact ⟨hy.cap, hn, hy.sl⟩
  · rw [if_neg hj] at hx hs'
    obtain ⟨g1, g2⟩ := h.rows.rows j x s hx hs'
    have g3 := g2.le (u' := u') fun b o hb ho => hk b o (fun e => (h.rows.apart j x b hx hb).1 e) ho
    exact ⟨g3.cap, g1, g3.sl⟩
/-- A row put anew. -/
theorem OTG.row {α : Type} {cc : α → List Value} {sz : Nat} {u u' : Hp} {eT eP : TypeId} {A : Option Addr} {n c : Nat} {hs : List Hd} {ts : List (List α)} (h : OTG cc sz u eT eP A n c hs ts) {i : Nat} {t t' : List α} {y : Hd} (ht : ts[i]? = some t) (hy : hs[i]? = some y) (hl : t'.length = t.length)
    (hO : Own u' y.A y.n y.c eP sz (t'.flatMap cc)) (hu : ∀ b, blk y.A ≠ some b → u' b = u b) : OTG cc sz u' eT eP A n c hs (ts.set i t') := by
  have hi : i < ts.length := (List.getElem?_eq_some_iff.1 ht).1
  have e := (List.getElem?_eq_some_iff.1 ht).2
  have h2 : ts = ts.take i ++ t :: ts.drop (i + 1) := by rw [← e, ← List.drop_eq_getElem_cons hi, List.take_append_drop]
  have h3 : (ts.take i).length = i := by rw [List.length_take, Nat.min_eq_left (by omega)]
  rw [List.set_eq_take_append_cons_drop, if_pos hi]
  rw [h2] at h
  exact h.set (by rw [h3]; exact hy) hl hO hu
end Go.Sy
/- An operation whose guard did not come up does not come up. -/
namespace Go.Sy
section
variable {P : Program} {F : Fr} {tm : Tm} {L : Lm} {u : Hp} {Q : Exit → Act → World → Prop}
theorem r_offu {q : Md} {l : List Oper} {o oj : Oper} {r : List Oper} {d j e : Nat} {want : Bool} (hg : o.guard = some (j, want)) (hj : nth l j = some oj) (he : oj.dst = some e) (hv : kget tm e = some (.v undef)) (ho : o.dst = some d) (hn : Nat.blt d F.n.z = true)
    (next : Run P Q F ((d, .v undef) :: tm) L u q l r) : Run P Q F tm L u q l (o :: r) := by
  cases q <;>
  · intro β a w hf ht hd
    show (if _ then _ else _)
    have hw : Region.wanted o (yielded l.toArray a.tmps) = false := by
      unfold Region.wanted
      rw [hg]
      rw [nth_eq] at hj
      have := (ht.get e _ hv).1
      simp [yielded, hj, he, this, SV.den, undef]
    rw [if_neg (by rw [hw]; simp), ho]
    exact next β _ w hf (put_rel (s := .v undef) hn ht rfl) hd
/-- Bools compared. -/
theorem r_eqb {q : Md} {l : List Oper} {o : Oper} {r : List Oper} {d : Nat} {op : BinOp} {t t' : TypeId} {x y : Operand} {a1 b1 : Bool} (hu : P.underlying t = some .bool) (hb : op = .eql ∨ op = .neq) (hw : wantE l tm o = some true) (ho : o.dst = some d) (hn : Nat.blt d F.n.z = true) (hop : o.op = .binOp op t x y t')
    (hx : ev tm x = some (.v (.bool a1))) (hy : ev tm y = some (.v (.bool b1))) (next : Run P Q F ((d, .v (.bool (match op with | .eql => (a1 == b1) | _ => !(a1 == b1)))) :: tm) L u q l r) : Run P Q F tm L u q l (o :: r) := by
  refine op_pure hw ho hn (fun β a w ht' hd => ⟨?_, rfl⟩) next
  have h1 : a.eval x = .bool a1 := by rw [ev_ok ht' hx, SV.den]
  have h2 : a.eval y = .bool b1 := by rw [ev_ok ht' hy, SV.den]
  rcases hb with rfl | rfl <;> simp [execOp, hop, h1, h2, eqGuard, binOp, run_equal_bool w t a1 b1 hu, SV.den]
end
end Go.Sy
