/- The walk by a symbolic frame: rules of the operations. -/
import Derived.Test.YtkamfnmbidnhdaaDoorSqAA
import Derived.Deep.AppendSrc
import Derived.Laws.MakeOwn
set_option linter.unusedVariables false
set_option linter.unusedSimpArgs false
set_option linter.unusedSectionVars false
namespace Go.Sy
/-- Whether an operation comes up: its guard's slot holds a known bool. -/
def wantE (l : List Oper) (tm : Tm) (o : Oper) : Option Bool :=
  match o.guard with
  | none => some true
  | some (j, want) => match nth l j with
    | some oj => match oj.dst with
      | some d => match kget tm d with
        | some (.v (.bool true)) => some want
        | some (.v (.bool false)) => some (!want)
        | _ => none
      | none => none
    | none => none
section
variable {P : Program} {T : List (Nat × TI)} {F : Fr} {tm : Tm} {L : Lm} {u : Hp} {n : FN} {N : World} {β : Nat → Nat} {k : Hp} {a : Act} {w : World} {Q : Exit → Act → World → Prop}
theorem wantE_ok {l : List Oper} {o : Oper} {b : Bool} (h : wantE l tm o = some b) (ht : RelT n L β tm a) : Region.wanted o (yielded l.toArray a.tmps) = b := by
  unfold wantE at h
  unfold Region.wanted
  split at h
  · rename_i hg; rw [hg]; exact Option.some.inj h
  · rename_i j want hg
    rw [hg]
    split at h
    · rename_i oj hoj
      rw [nth_eq] at hoj
      split at h
      · rename_i d hd
        split at h
        · rename_i hv
          have := (ht.get d _ hv).1
          have h' := Option.some.inj h; subst h'
          simp [yielded, hoj, hd, this, SV.den]
        · rename_i hv
          have := (ht.get d _ hv).1
          have h' := Option.some.inj h; subst h'
          simp [yielded, hoj, hd, this, SV.den]
        · cases h
      · cases h
    · cases h
/-- How a region's operations come up: one behind the other; in any order, each in whatever world has this form; likewise, but none calls. -/
inductive Md where
  | seq | quiet | still
/-- Operations that leave the world as it is, and yield one value in all worlds of a class. -/
def wpStillC (P : Program) (ops : Array Oper) (C : World → Prop) (K : Act → Prop) : List Oper → Act → Prop
  | [], a => K a
  | o :: rest, a => if Region.wanted o (yielded ops a.tmps) then ∃ v, (∀ w, C w → (execOp a.eval o).run P w = .ok (.value v) w) ∧ wpStillC P ops C K rest (a.put o.dst v) else wpStillC P ops C K rest (a.put o.dst undef)
/-- A region's operations, from 'rest' on. -/
def Run (P : Program) (Q : Exit → Act → World → Prop) (F : Fr) (tm : Tm) (L : Lm) (u : Hp) (q : Md) (l rest : List Oper) : Prop :=
  match q with
  | .seq => St F tm L u (fun a w => wpList P l.toArray Q rest a w)
  | .quiet => ∀ β a w, Fence F L β → RelT F.n L β tm a → Den β L u F.k F.N w →
      wpQuiet P l.toArray (fun w => Den β L u F.k F.N w) (fun a' => ∀ w', Den β L u F.k F.N w' → Q .normal a' w') rest a
  | .still => ∀ β a w, Fence F L β → RelT F.n L β tm a → Den β L u F.k F.N w →
      wpStillC P l.toArray (fun w => Den β L u F.k F.N w) (fun a' => ∀ w', Den β L u F.k F.N w' → Q .normal a' w') rest a
theorem r_region {id : Nat} {l : List Oper} (h : Run P Q F tm L u .seq l l) : St F tm L u (fun a w => (Code.region id l.toArray false).wp P Q a w) :=
  St.imp h fun _ _ => wp_region_lit
theorem Den.drew (hd : Den β L u k N w) : Den β L u k N { w with drawn := w.drawn + 1 } := ⟨hd.loc, hd.inj, hd.ext, hd.hid, ⟨hd.size.size, hd.size.os, hd.size.tape, hd.size.output, Nat.le_succ_of_le hd.size.drawn⟩⟩
theorem r_draw {id : Nat} {l : List Oper} (hm : P.follows .mixedOrders = true) (hB : Region.lexB .any l.toArray = true) (h : Run P Q F tm L u .quiet l l) : St F tm L u (fun a w => (Code.region id l.toArray true).wp P Q a w) := by
  intro β a w hf ht hd
  exact wp_region_quiet (C := fun w => Den β L u F.k F.N w) hm hB hd.drew (by simpa using h β a w hf ht hd)
theorem r_nil {l : List Oper} (h : St F tm L u (Q .normal)) : Run P Q F tm L u .seq l [] := h
theorem s_nil {l : List Oper} (h : St F tm L u (Q .normal)) : Run P Q F tm L u .still l [] := fun β a _ hf ht _ w' hw' => h β a w' hf ht hw'
theorem q_nil {l : List Oper} (h : St F tm L u (Q .normal)) : Run P Q F tm L u .quiet l [] := fun β a _ hf ht _ => wpQuiet_nil (fun w' hw' => h β a w' hf ht hw')
/-- One operation that leaves the world as it is. -/
theorem op_pure {q : Md} {l : List Oper} {o : Oper} {r : List Oper} {d : Nat} {s : SV} (hw : wantE l tm o = some true) (ho : o.dst = some d) (hn : Nat.blt d F.n.z = true)
    (h : ∀ β a w, RelT F.n L β tm a → Den β L u F.k F.N w → (execOp a.eval o).run P w = .ok (.value (s.den β)) w ∧ s.ok L = true)
    (next : Run P Q F ((d, s) :: tm) L u q l r) : Run P Q F tm L u q l (o :: r) := by
  cases q with
  | seq =>
    intro β a w hf ht hd
    obtain ⟨h1, h5⟩ := h β a w ht hd
    show (if _ then _ else _)
    rw [if_pos (wantE_ok hw ht)]
    refine .inl ?_
    unfold Oper.wp
    rw [h1, Oper.upon_value, ho]
    exact next β _ w hf (put_rel hn ht h5) hd
  | quiet =>
    intro β a w hf ht hd
    have h5 := (h β a w ht hd).2
    show (if _ then _ else _)
    rw [if_pos (wantE_ok hw ht)]
    refine ⟨s.den β, fun w' hw' => ?_, ?_⟩
    · unfold Oper.quietAt
      rw [(h β a w' ht hw').1]
      exact ⟨rfl, rfl⟩
    · rw [ho]; exact next β _ w hf (put_rel hn ht h5) hd
  | still =>
    intro β a w hf ht hd
    have h5 := (h β a w ht hd).2
    show (if _ then _ else _)
    rw [if_pos (wantE_ok hw ht)]
    exact ⟨s.den β, fun w' hw' => (h β a w' ht hw').1, by rw [ho]; exact next β _ w hf (put_rel hn ht h5) hd⟩
/-- One operation that yields s, in a frame that may have grown. -/
theorem op_value {l : List Oper} {o : Oper} {r : List Oper} {d : Nat} {s : SV} {L' : Lm} {u' : Hp} (hw : wantE l tm o = some true) (ho : o.dst = some d) (hn : Nat.blt d F.n.z = true)
    (h : ∀ β a w, Fence F L β → RelT F.n L β tm a → Den β L u F.k F.N w → ∃ β' w', (execOp a.eval o).run P w = .ok (.value (s.den β')) w' ∧ Fence F L' β' ∧ RelT F.n L' β' tm a ∧ Den β' L' u' F.k F.N w' ∧ s.ok L' = true)
    (next : St F ((d, s) :: tm) L' u' (fun a w => wpList P l.toArray Q r a w)) : St F tm L u (fun a w => wpList P l.toArray Q (o :: r) a w) := by
  intro β a w hf ht hd
  obtain ⟨β', w', h1, h2, h3, h4, h5⟩ := h β a w hf ht hd
  show (if _ then _ else _)
  rw [if_pos (wantE_ok hw ht)]
  refine .inl ?_
  unfold Oper.wp
  rw [h1, Oper.upon_value, ho]
  exact next β' _ w' h2 (put_rel hn h3 h5) h4
theorem op_skip {l : List Oper} {o : Oper} {r : List Oper} {L' : Lm} {u' : Hp} (hw : wantE l tm o = some true) (ho : o.dst = none)
    (h : ∀ β a w, Fence F L β → RelT F.n L β tm a → Den β L u F.k F.N w → ∃ β' w', (execOp a.eval o).run P w = .ok .skip w' ∧ Fence F L' β' ∧ RelT F.n L' β' tm a ∧ Den β' L' u' F.k F.N w')
    (next : St F tm L' u' (fun a w => wpList P l.toArray Q r a w)) : St F tm L u (fun a w => wpList P l.toArray Q (o :: r) a w) := by
  intro β a w hf ht hd
  obtain ⟨β', w', h1, h2, h3, h4⟩ := h β a w hf ht hd
  show (if _ then _ else _)
  rw [if_pos (wantE_ok hw ht)]
  refine .inl ?_
  unfold Oper.wp
  rw [h1, Oper.upon_skip, ho]
  exact next β' _ w' h2 h3 h4
theorem r_pure (hT : TOK P T) {q : Md} {l : List Oper} {o : Oper} {r : List Oper} {d : Nat} {s : SV} (hw : wantE l tm o = some true) (ho : o.dst = some d) (hn : Nat.blt d F.n.z = true) (h : pev T tm L o.op = some s)
    (next : Run P Q F ((d, s) :: tm) L u q l r) : Run P Q F tm L u q l (o :: r) :=
  op_pure hw ho hn (fun _ _ _ ht hd => pev_ok hT rfl h ht hd) next
/-- It does not come up. -/
theorem r_off {q : Md} {l : List Oper} {o : Oper} {r : List Oper} {d : Nat} (hw : wantE l tm o = some false) (ho : o.dst = some d) (hn : Nat.blt d F.n.z = true)
    (next : Run P Q F ((d, .v undef) :: tm) L u q l r) : Run P Q F tm L u q l (o :: r) := by
  cases q <;>
  · intro β a w hf ht hd
    show (if _ then _ else _)
    rw [if_neg (by rw [wantE_ok hw ht]; simp), ho]
    exact next β _ w hf (put_rel (s := .v undef) hn ht rfl) hd
/-- A slot's bool is known from here on. -/
theorem r_case {Φ : Act → World → Prop} (d : Nat) {b : Bool} (hd : kget tm d = some (.v (.bool b))) (h1 : b = true → St F ((d, .v (.bool true)) :: tm) L u Φ) (h2 : b = false → St F ((d, .v (.bool false)) :: tm) L u Φ) : St F tm L u Φ := by
  intro β a w hf ht hD
  have key : ∀ c, b = c → RelT F.n L β ((d, .v (.bool c)) :: tm) a := fun c hc => by
    refine ⟨ht.size, ht.defers, ht.dok, fun t s hs => ?_⟩
    rw [kget_cons] at hs
    split at hs
    · rename_i e; subst e
      have h' := Option.some.inj hs; subst h'
      have := ht.get d _ hd
      rw [hc] at this; exact this
    · exact ht.get t s hs
  cases hb : b with
  | true => exact h1 hb β a w hf (key _ hb) hD
  | false => exact h2 hb β a w hf (key _ hb) hD
theorem q_case {q : Md} {l r : List Oper} (d : Nat) {b : Bool} (hd : kget tm d = some (.v (.bool b))) (h1 : b = true → Run P Q F ((d, .v (.bool true)) :: tm) L u q l r) (h2 : b = false → Run P Q F ((d, .v (.bool false)) :: tm) L u q l r) : Run P Q F tm L u q l r := by
  cases q with
  | seq => exact r_case d hd h1 h2
  | _ =>
    intro β a w hf ht hD
    have key : ∀ c, b = c → RelT F.n L β ((d, .v (.bool c)) :: tm) a := fun c hc => by
      refine ⟨ht.size, ht.defers, ht.dok, fun t s hs => ?_⟩
      rw [kget_cons] at hs
      split at hs
      · rename_i e; subst e
        have h' := Option.some.inj hs; subst h'
        have := ht.get d _ hd
        rw [hc] at this; exact this
      · exact ht.get t s hs
    cases hb : b with
    | true => exact h1 hb β a w hf (key _ hb) hD
    | false => exact h2 hb β a w hf (key _ hb) hD
theorem r_new (hT : TOK P T) {l : List Oper} {o : Oper} {r : List Oper} {d : Nat} {s : SV} {L' : Lm} (hw : wantE l tm o = some true) (ho : o.dst = some d) (hn : Nat.blt d F.n.z = true) (h : hev T tm L d o.op = some (s, L'))
    (next : Run P Q F ((d, s) :: tm) L' u .seq l r) : Run P Q F tm L u .seq l (o :: r) := by
  refine op_value hw ho hn (fun β a w hf ht hd => ?_) next
  unfold hev at h
  split at h
  · rename_i t hop
    split at h
    · cases h
    · rename_i hk
      split at h
      · cases h
      · rename_i ti hti
        split at h
        · cases h
        · rename_i cs hcs
          have h' := Option.some.inj h
          simp only [Prod.mk.injEq] at h'
          obtain ⟨rfl, rfl⟩ := h'
          obtain ⟨z, hz, hzc⟩ := run_zero (hT t ti hti) w
          obtain ⟨g1, g2⟩ := zcells_eq β L hcs
          refine ⟨bup β d w.heap.size, _, ?_, fence_new hk hf _, rel_new hk ht _, den_new (B := ⟨none, cs, t⟩) rfl g2 hk hd (o := .cells (SV.dens β cs).toArray t (0, 0)) rfl, ?_⟩
          · simp [execOp, hop, Instr.alloc, hz, newVar, newRow, newObj, Sem.run, hzc, g1, SV.den, bup_here]
          · simp [SV.ok, kget_cons]
  · rename_i t x hop
    split at h
    · cases h
    · rename_i hk
      split at h
      · cases h
      · rename_i ti hti
        split at h
        · cases h
        · rename_i s' hs
          split at h
          · cases h
          · rename_i cs hcs
            have h' := Option.some.inj h
            simp only [Prod.mk.injEq] at h'
            obtain ⟨rfl, rfl⟩ := h'
            obtain ⟨g1, g2⟩ := cellsE_ok (β := β) hcs (ev_oks ht hs)
            refine ⟨bup β d w.heap.size, _, ?_, fence_new hk hf _, rel_new hk ht _, den_new (B := ⟨none, cs, t⟩) rfl g2 hk hd (o := .cells (SV.dens β cs).toArray t (0, 0)) rfl, ?_⟩
            · simp [execOp, hop, Instr.box, newVar, newRow, newObj, Sem.run, ev_ok ht hs, g1, SV.den, bup_here]
            · simp [SV.ok, kget_cons]
  · cases h
theorem r_write (hT : TOK P T) {l : List Oper} {o : Oper} {r : List Oper} {L' : Lm} (hw : wantE l tm o = some true) (ho : o.dst = none) (h : wev T tm L o.op = some L')
    (next : Run P Q F tm L' u .seq l r) : Run P Q F tm L u .seq l (o :: r) := by
  refine op_skip hw ho (fun β a w hf ht hd => ?_) next
  unfold wev at h
  split at h
  · rename_i t x y hop
    split at h
    · cases h
    · rename_i ti hti
      split at h
      · rename_i i off hx
        split at h
        · cases h
        · rename_i nm cells ty hB
          split at h
          · cases h
          · rename_i s hs
            split at h
            · cases h
            · rename_i cs hcs
              split at h
              · cases h
              · rename_i hlen
                split at h
                · cases h
                · rename_i hone
                  split at h
                  · cases h
                  · rename_i rr hr
                    obtain ⟨g1, g2⟩ := cellsE_ok (β := β) hcs (ev_oks ht hs)
                    obtain ⟨e1, rfl⟩ := setE_eq _ _ _ _ hr
                    obtain ⟨b1, b2, b3⟩ := hd.loc i _ hB
                    have hl := lenIs_eq hlen
                    obtain ⟨w', hr', hu⟩ := run_storeVar (P := P) (off := off) (vs := SV.dens β cs) (hT t ti hti) b1 g1 (by rw [dens_map]; simpa using hl) (by rw [dens_map, dens_map]; simpa using e1) (onesE_ok β hone)
                    have hset : SV.dens β (setL cells off cs) = setL (SV.dens β cells) off (SV.dens β cs) := by simp [dens_map, setL]
                    have hok : SV.oks L (setL cells off cs) = true := by
                      rw [oks_all] at *
                      refine List.all_eq_true.2 fun x hx => ?_
                      simp only [setL, List.mem_append] at hx
                      rcases hx with hx | hx | hx
                      · exact List.all_eq_true.1 b3 x (List.mem_of_mem_take hx)
                      · exact List.all_eq_true.1 g2 x hx
                      · exact List.all_eq_true.1 b3 x (List.mem_of_mem_drop hx)
                    have hL := ksetE_get h
                    have hmore : ∀ j, (kget L j).isSome = true → (kget L' j).isSome = true := fun j hj => by rw [hL]; split <;> simp_all
                    refine ⟨β, w', ?_, fun j hj => ⟨(hf j hj).1, hmore j (hf j hj).2⟩, ⟨ht.size, ht.defers, dvs_more hmore ht.dok, fun t s hs => ⟨(ht.get t s hs).1, ok_more hmore s (ht.get t s hs).2⟩⟩, den_set hB hok hd hL (by rw [hset]; simpa using hu)⟩
                    simp [execOp, hop, ev_ok ht hx, ev_ok ht hs, SV.den, Instr.storeAt, Instr.sureAddr, hr']
      · cases h
  · cases h
end
end Go.Sy
/- The walk by a symbolic frame: contracts, entries, returns, calls. -/
namespace Go.Sy
mutual
/-- The value, if the blocks that it names have numbers. -/
def valE (L : Lm) : SV → Option Value
  | .v x => some x
  | .p i off => match kget L i with
    | some ⟨some b, _, _⟩ => some (.pointer (some ⟨b, off, none⟩))
    | _ => none
  | .ag cs => match valsE L cs with
    | some l => some (.agg l.toArray)
    | none => none
  | .tu cs => match valsE L cs with
    | some l => some (.tuple l.toArray)
    | none => none
  | .fn f a b => match valsE L a with
    | some l => match valsE L b with
      | some r => some (.func f l.toArray r.toArray)
      | none => none
    | none => none
def valsE (L : Lm) : List SV → Option (List Value)
  | [] => some []
  | s :: r => match valE L s with
    | some x => match valsE L r with
      | some l => some (x :: l)
      | none => none
    | none => none
end
def upd (h : Hp) (b : Nat) (o : Obj) : Hp := fun x => if x = b then some o else h x
theorem upd_here (h : Hp) (b : Nat) (o : Obj) : upd h b o b = some o := by simp [upd]
theorem upd_ne {h : Hp} {b x : Nat} {o : Obj} (hx : x ≠ b) : upd h b o x = h x := by simp [upd, hx]
def names : Lm → List Nat
  | [] => []
  | (_, ⟨some b, _, _⟩) :: r => b :: names r
  | (_, ⟨none, _, _⟩) :: r => names r
/-- The heap with L's blocks laid. -/
def addsE (L : Lm) : Lm → Hp → Option Hp
  | [], h => some h
  | (_, ⟨some b, cs, t⟩) :: r, h => match valsE L cs with
    | some l => match addsE L r h with
      | some h' => some (upd h' b (.cells l.toArray t (0, 0)))
      | none => none
    | none => none
  | (_, ⟨none, _, _⟩) :: _, _ => none
/-- The contract of a function: its arguments name the blocks of L0, which are lent; h: the rest of what it may see. Its answer is 'val y', the lent blocks are those of 'L1 y', the rest is a heap of which ψ speaks. -/
def TriS (P : Program) (f : FuncId) (args : List SV) (L0 : Lm) (h : Hp) {Y : Type} (val : Y → SV) (L1 : Y → Lm) (ψ : Y → Hp → Prop) : Prop :=
  (names L0).Nodup → (∀ b ∈ names L0, h b = none) → ∀ vs h0, valsE L0 args = some vs → addsE L0 L0 h = some h0 →
    Tri P f vs.toArray h0 fun v h'' => ∃ y h', valE (L1 y) (val y) = some v ∧ addsE (L1 y) (L1 y) h' = some h'' ∧ (∀ b ∈ names (L1 y), h' b = none) ∧ ψ y h'
section
variable {P : Program} {T : List (Nat × TI)} {F : Fr} {tm : Tm} {L : Lm} {u : Hp} {n : FN} {N : World} {β : Nat → Nat} {k : Hp} {a : Act} {w : World} {Q : Exit → Act → World → Prop}
mutual
theorem valE_den (hb : ∀ i B b, kget L i = some B → B.name = some b → β i = b) : ∀ {s : SV} {v : Value}, valE L s = some v → s.den β = v
  | .v x, v, h => by simp only [valE, Option.some.injEq] at h; exact h
  | .p i off, v, h => by
    simp only [valE] at h
    split at h
    · rename_i b cs t hk
      have h' := Option.some.inj h; subst h'
      simp only [SV.den, hb i _ b hk rfl]
    · cases h
  | .ag cs, v, h => by
    simp only [valE] at h
    split at h
    · rename_i l hl; have h' := Option.some.inj h; subst h'; simp only [SV.den, valsE_den hb hl]
    · cases h
  | .tu cs, v, h => by
    simp only [valE] at h
    split at h
    · rename_i l hl; have h' := Option.some.inj h; subst h'; simp only [SV.den, valsE_den hb hl]
    · cases h
  | .fn f p q, v, h => by
    simp only [valE] at h
    split at h
    · rename_i l hl
      split at h
      · rename_i r hr; have h' := Option.some.inj h; subst h'; simp only [SV.den, valsE_den hb hl, valsE_den hb hr]
      · cases h
    · cases h
theorem valsE_den (hb : ∀ i B b, kget L i = some B → B.name = some b → β i = b) : ∀ {l : List SV} {r : List Value}, valsE L l = some r → SV.dens β l = r
  | [], r, h => by simp only [valsE, Option.some.injEq] at h; subst h; rfl
  | s :: l, r, h => by
    simp only [valsE] at h
    split at h
    · rename_i x hx
      split at h
      · rename_i l' hl; have h' := Option.some.inj h; subst h'; simp only [SV.dens, valE_den hb hx, valsE_den hb hl]
      · cases h
    · cases h
end
mutual
theorem valE_ok : ∀ {s : SV} {v : Value}, valE L s = some v → s.ok L = true
  | .v x, v, h => rfl
  | .p i off, v, h => by
    simp only [valE] at h
    split at h
    · rename_i b cs t hk; simp [SV.ok, hk]
    · cases h
  | .ag cs, v, h => by
    simp only [valE] at h
    split at h
    · rename_i l hl; exact valsE_ok hl
    · cases h
  | .tu cs, v, h => by
    simp only [valE] at h
    split at h
    · rename_i l hl; exact valsE_ok hl
    · cases h
  | .fn f p q, v, h => by
    simp only [valE] at h
    split at h
    · rename_i l hl
      split at h
      · rename_i r hr; simp only [SV.ok, valsE_ok hl, valsE_ok hr]; rfl
      · cases h
    · cases h
theorem valsE_ok : ∀ {l : List SV} {r : List Value}, valsE L l = some r → SV.oks L l = true
  | [], r, h => rfl
  | s :: l, r, h => by
    simp only [valsE] at h
    split at h
    · rename_i x hx
      split at h
      · rename_i l' hl; simp only [SV.oks, valE_ok hx, valsE_ok hl]; rfl
      · cases h
    · cases h
end
theorem names_mem : ∀ {L : Lm} {i b : Nat} {cs : List SV} {t : TypeId}, (i, (⟨some b, cs, t⟩ : Blk)) ∈ L → b ∈ names L
  | (j, ⟨some b', _, _⟩) :: r, i, b, cs, t, h => by
    simp only [names, List.mem_cons] at h ⊢
    rcases h with h | h
    · simp only [Prod.mk.injEq, Blk.mk.injEq, Option.some.injEq] at h; exact .inl h.2.1
    · exact .inr (names_mem h)
  | (j, ⟨none, _, _⟩) :: r, i, b, cs, t, h => by
    simp only [names, List.mem_cons] at h ⊢
    rcases h with h | h
    · simp at h
    · exact names_mem h
theorem addsE_named {X : Lm} : ∀ {L : Lm} {h h' : Hp}, addsE X L h = some h' → ∀ i B, kget L i = some B → ∃ b, B.name = some b
  | [], h, h', hh, i, B, hB => by simp [kget] at hB
  | (j, ⟨some b, cs, t⟩) :: r, h, h', hh, i, B, hB => by
    rw [kget_cons] at hB
    split at hB
    · have e := Option.some.inj hB; subst e; exact ⟨b, rfl⟩
    · simp only [addsE] at hh
      split at hh
      · split at hh
        · rename_i h1 hh1; exact addsE_named hh1 i B hB
        · cases hh
      · cases hh
  | (j, ⟨none, cs, t⟩) :: r, h, h', hh, i, B, hB => by simp [addsE] at hh
theorem addsE_old {X : Lm} : ∀ {L : Lm} {h h' : Hp}, addsE X L h = some h' → ∀ b, b ∉ names L → h' b = h b
  | [], h, h', hh, b, hb => by simp only [addsE, Option.some.injEq] at hh; rw [hh]
  | (j, ⟨some b', cs, t⟩) :: r, h, h', hh, b, hb => by
    simp only [addsE] at hh
    simp only [names, List.mem_cons, not_or] at hb
    split at hh
    · split at hh
      · rename_i h1 hh1
        have e := Option.some.inj hh; subst e
        rw [upd_ne hb.1]; exact addsE_old hh1 b hb.2
      · cases hh
    · cases hh
  | (j, ⟨none, cs, t⟩) :: r, h, h', hh, b, hb => by simp [addsE] at hh
theorem addsE_here {X : Lm} : ∀ {L : Lm} {h h' : Hp}, addsE X L h = some h' → (names L).Nodup → ∀ i b cs t, (i, (⟨some b, cs, t⟩ : Blk)) ∈ L → ∃ l, valsE X cs = some l ∧ h' b = some (.cells l.toArray t (0, 0))
  | (j, ⟨some b', cs', t'⟩) :: r, h, h', hh, hn, i, b, cs, t, hm => by
    simp only [addsE] at hh
    simp only [names, List.nodup_cons] at hn
    split at hh
    · rename_i l hl
      split at hh
      · rename_i h1 hh1
        have e := Option.some.inj hh; subst e
        simp only [List.mem_cons] at hm
        rcases hm with hm | hm
        · simp only [Prod.mk.injEq, Blk.mk.injEq, Option.some.injEq] at hm
          obtain ⟨rfl, rfl, rfl, rfl⟩ := hm
          exact ⟨l, hl, upd_here ..⟩
        · obtain ⟨l', h1', h2'⟩ := addsE_here hh1 hn.2 i b cs t hm
          refine ⟨l', h1', ?_⟩
          rw [upd_ne (fun e => hn.1 (by subst e; exact names_mem hm))]; exact h2'
      · cases hh
    · cases hh
  | (j, ⟨none, cs', t'⟩) :: r, h, h', hh, hn, i, b, cs, t, hm => by simp [addsE] at hh
theorem names_two : ∀ {L : Lm}, (names L).Nodup → ∀ {i j b : Nat} {cs cs' : List SV} {t t' : TypeId}, kget L i = some ⟨some b, cs, t⟩ → kget L j = some ⟨some b, cs', t'⟩ → i = j
  | [], _, i, j, b, cs, cs', t, t', h1, h2 => by simp [kget] at h1
  | (x, ⟨some b', c, q⟩) :: r, hn, i, j, b, cs, cs', t, t', h1, h2 => by
    simp only [names, List.nodup_cons] at hn
    rw [kget_cons] at h1 h2
    split at h1 <;> split at h2
    · rename_i e1 e2; rw [← e1, ← e2]
    · have e := Option.some.inj h1
      simp only [Blk.mk.injEq, Option.some.injEq] at e
      exact absurd (e.1 ▸ names_mem (kget_mem h2)) hn.1
    · have e := Option.some.inj h2
      simp only [Blk.mk.injEq, Option.some.injEq] at e
      exact absurd (e.1 ▸ names_mem (kget_mem h1)) hn.1
    · exact names_two hn.2 h1 h2
  | (x, ⟨none, c, q⟩) :: r, hn, i, j, b, cs, cs', t, t', h1, h2 => by
    simp only [names] at hn
    rw [kget_cons] at h1 h2
    split at h1
    · have e := Option.some.inj h1; simp at e
    · split at h2
      · have e := Option.some.inj h2; simp at e
      · exact names_two hn h1 h2
def sargTm : Nat → List SV → Tm
  | _, [] => []
  | i, s :: r => (i, s) :: sargTm (i + 1) r
theorem sargTm_get : ∀ (l : List SV) (i t : Nat) (s : SV), kget (sargTm i l) t = some s → i ≤ t ∧ l[t - i]? = some s
  | [], i, t, s, h => by simp [sargTm, kget] at h
  | v :: r, i, t, s, h => by
    simp only [sargTm, kget_cons] at h
    split at h
    · rename_i hb; subst hb
      have e := Option.some.inj h; subst e
      exact ⟨Nat.le_refl _, by simp⟩
    · obtain ⟨h1, h2⟩ := sargTm_get r (i + 1) t s h
      refine ⟨by omega, ?_⟩
      have : t - i = (t - (i + 1)) + 1 := by omega
      rw [this]; simpa using h2
def bname (L : Lm) : Nat → Nat := fun i => match kget L i with
  | some ⟨some b, _, _⟩ => b
  | _ => 0
/-- A function's body, from a frame that holds its arguments and the lent blocks. -/
theorem enterS {f : FuncId} {fn : Func} {c : Code} {args : List SV} {L0 : Lm} {h : Hp} {Y : Type} {val : Y → SV} {L1 : Y → Lm} {ψ : Y → Hp → Prop}
    (hf : P.funcs[f]? = some fn) (hb : fn.body = some c) {n : Nat} (hn : fn.ntmps = n) (ha0 : Nat.ble args.length n = true)
    (H : ∀ k N, St ⟨k, N, ⟨n, []⟩, [], fun _ => 0⟩ (sargTm 0 args) L0 h (fun a w => c.wp P (bodyPost P fn
      (Fin (fun v h'' => ∃ y h', valE (L1 y) (val y) = some v ∧ addsE (L1 y) (L1 y) h' = some h'' ∧ (∀ b ∈ names (L1 y), h' b = none) ∧ ψ y h') k N)) a w)) :
    TriS P f args L0 h val L1 ψ := by
  have ha : args.length ≤ n := Nat.le_of_ble_eq_true ha0
  intro hnd hnone vs h0 hvs hh0 k N w d
  have hbn : ∀ i B b, kget L0 i = some B → B.name = some b → bname L0 i = b := fun i B b hB hb => by
    obtain ⟨nm, cs, t⟩ := B
    simp only at hb; subst hb
    simp [bname, hB]
  refine calls_of_wp hf hb (H k N (bname L0) _ w (fun i hi => absurd hi (by simp)) ⟨?_, rfl, rfl, ?_⟩ ?_)
  · subst hn
    have : vs.length = args.length := by rw [← valsE_den (β := bname L0) hbn hvs, dens_map]; simp
    simp; omega
  · intro t s hs
    obtain ⟨_, hv⟩ := sargTm_get args 0 t s hs
    simp only [Nat.sub_zero] at hv
    have hd := valsE_den (β := bname L0) hbn hvs
    rw [dens_map] at hd
    have ht : t < args.length := (List.getElem?_eq_some_iff.1 hv).1
    have hvt : vs[t]? = some (s.den (bname L0)) := by rw [← hd]; simp [hv]
    rw [Array.getElem?_append_left (by rw [← hd]; simpa using ht)]
    refine ⟨by simpa using hvt, ?_⟩
    have := valsE_ok hvs
    rw [oks_all] at this
    exact List.all_eq_true.1 this s (List.mem_of_getElem? hv)
  · refine ⟨fun i B hB => ?_, fun i j hi hj hij => ?_, fun b o hbo => ⟨d.ext b o ?_, fun i hi e => ?_⟩, fun b o hbo => ⟨(d.hid b o hbo).1, ?_, fun i hi e => ?_⟩, d.size⟩
    · obtain ⟨b, hb'⟩ := addsE_named hh0 i B hB
      obtain ⟨nm, cs, t⟩ := B
      simp only at hb'; subst hb'
      obtain ⟨l, hl, hh⟩ := addsE_here hh0 hnd i b cs t (kget_mem hB)
      rw [hbn i _ b hB rfl, valsE_den (β := bname L0) hbn hl]
      exact ⟨d.ext b _ hh, fun b' hb' => by simpa using hb', valsE_ok hl⟩
    · obtain ⟨B, hB⟩ := Option.isSome_iff_exists.1 hi
      obtain ⟨B', hB'⟩ := Option.isSome_iff_exists.1 hj
      obtain ⟨b, hb⟩ := addsE_named hh0 i B hB
      obtain ⟨b', hb'⟩ := addsE_named hh0 j B' hB'
      rw [hbn i _ b hB hb, hbn j _ b' hB' hb'] at hij
      subst hij
      obtain ⟨nm, cs, t⟩ := B
      obtain ⟨nm', cs', t'⟩ := B'
      simp only at hb hb'; subst hb; subst hb'
      exact names_two hnd hB hB'
    · rw [addsE_old hh0 b (fun hm => by rw [hnone b hm] at hbo; cases hbo)]; exact hbo
    · obtain ⟨B, hB⟩ := Option.isSome_iff_exists.1 hi
      obtain ⟨b', hb⟩ := addsE_named hh0 i B hB
      rw [hbn i _ b' hB hb] at e; subst e
      obtain ⟨nm, cs, t⟩ := B
      simp only at hb; subst hb
      rw [hnone b' (names_mem (kget_mem hB))] at hbo; cases hbo
    · have := (d.hid b o hbo).2
      by_cases hm : b ∈ names L0
      · exact hnone b hm
      · rwa [addsE_old hh0 b hm] at this
    · obtain ⟨B, hB⟩ := Option.isSome_iff_exists.1 hi
      obtain ⟨b', hb⟩ := addsE_named hh0 i B hB
      rw [hbn i _ b' hB hb] at e; subst e
      obtain ⟨nm, cs, t⟩ := B
      simp only at hb; subst hb
      obtain ⟨l, hl, hh⟩ := addsE_here hh0 hnd i b' cs t (kget_mem hB)
      rw [(d.hid b' o hbo).2] at hh; cases hh
end
end Go.Sy
/- The walk by a symbolic frame: returns and calls. -/
namespace Go.Sy
def resL (T : List (Nat × TI)) (tm : Tm) (L : Lm) : List ResultVar → Option (List SV)
  | [] => some []
  | .tmp t :: r => match kget tm t with
    | some s => match resL T tm L r with
      | some l => some (s :: l)
      | none => none
    | none => none
  | .cell x t :: r => match kget tm x with
    | some (.p i off) => match kget L i with
      | some B => match kget T t with
        | some ti => match partE ti off B.cells with
          | some s => match resL T tm L r with
            | some l => some (s :: l)
            | none => none
          | none => none
        | none => none
      | none => none
    | _ => none
def resE (T : List (Nat × TI)) (tm : Tm) (L : Lm) (rs : List ResultVar) : Option SV :=
  match resL T tm L rs with
  | some [s] => some s
  | some l => some (.tu l)
  | none => none
def rvar (tmps : Array Value) : ResultVar → Sem Value
  | .tmp t => pure (tmps.getD t undef)
  | .cell a t => do loadVar t (← asAddr (tmps.getD a undef))
theorem results_eq (fn : Func) (tmps : Array Value) : results fn tmps = (do let vs ← fn.results.mapM (rvar tmps); pure (if h : vs.size = 1 then vs[0] else .tuple vs)) := by
  unfold results
  congr 1
/-- The lent blocks come back so. -/
def lentP (L X : Lm) : Lm → Prop
  | [] => True
  | (k, ⟨some b, c1, t⟩) :: r => (∃ c l, kget L k = some ⟨some b, c, t⟩ ∧ valsE L c = some l ∧ valsE X c1 = some l) ∧ lentP L X r
  | (_, ⟨none, _, _⟩) :: _ => False
/-- The function called, and all its arguments. -/
def calleeE (tm : Tm) (c : Call) : Option (FuncId × List SV) :=
  match c.callee with
  | .value x => match ev tm x with
    | some (.v (.func (.func f) ⟨[]⟩ ⟨[]⟩)) => match evs tm c.args.toList with
      | some l => some (f, l)
      | none => none
    | some (.fn (.func f) [] b) => match evs tm c.args.toList with
      | some l => some (f, l ++ b)
      | none => none
    | _ => none
  | _ => none
def callable (P : Program) (f : FuncId) : Bool :=
  match P.funcs[f]? with
  | some fn => !(fn.name == "runtime.NumGoroutine") && fn.body.isSome
  | none => false
section
variable {P : Program} {T : List (Nat × TI)} {F : Fr} {tm : Tm} {L : Lm} {u : Hp} {n : FN} {N : World} {β : Nat → Nat} {k : Hp} {a : Act} {w : World} {Q : Exit → Act → World → Prop}
theorem Den.bn (hd : Den β L u k N w) : ∀ i B b, kget L i = some B → B.name = some b → β i = b := fun i B b h hb => (hd.loc i B h).2.1 b hb
theorem resL_ok (hT : TOK P T) (ht : RelT n L β tm a) (hd : Den β L u k N w) : ∀ {rs : List ResultVar} {l : List SV}, resL T tm L rs = some l →
    (rs.mapM (rvar a.tmps)).run P w = .ok (SV.dens β l) w
  | [], l, h => by simp only [resL, Option.some.injEq] at h; subst h; simp [SV.dens]
  | .tmp t :: r, l, h => by
    simp only [resL] at h
    split at h
    · rename_i s hs
      split at h
      · rename_i l' hl
        have e := Option.some.inj h; subst e
        have ih := resL_ok hT ht hd hl
        have := (ht.get t s hs).1
        simp only [List.mapM_cons, rvar, Sem.run_bind, Sem.run_pure, Result.andThen_ok, ih, SV.dens]
        simp [Array.getD_eq_getD_getElem?, this]
      · cases h
    · cases h
  | .cell x t :: r, l, h => by
    simp only [resL] at h
    split at h
    · rename_i i off hx
      split at h
      · rename_i B hB
        split at h
        · rename_i ti hti
          split at h
          · rename_i s hs
            split at h
            · rename_i l' hl
              have e := Option.some.inj h; subst e
              have ih := resL_ok hT ht hd hl
              have h1 := (ht.get x _ hx).1
              have h2 := partE_ok (P := P) (w := w) (hT t ti hti) hs (hd.loc i B hB).1
              have h3 : (asAddr (a.tmps.getD x undef)).run P w = .ok ⟨β i, off, none⟩ w := by simp [Array.getD_eq_getD_getElem?, h1, SV.den, asAddr]
              simp only [List.mapM_cons, rvar, Sem.run_bind, h3, Sem.run_pure, Result.andThen_ok, h2, ih, SV.dens]
            · cases h
          · cases h
        · cases h
      · cases h
    · cases h
theorem resE_ok (hT : TOK P T) {fn : Func} {rs : List ResultVar} (hr : fn.results = rs.toArray) {s : SV} (h : resE T tm L rs = some s) (ht : RelT n L β tm a) (hd : Den β L u k N w) :
    (results fn a.tmps).run P w = .ok (s.den β) w := by
  unfold resE at h
  have key : ∀ l, resL T tm L rs = some l → (results fn a.tmps).run P w = .ok (if h : (SV.dens β l).toArray.size = 1 then (SV.dens β l).toArray[0] else .tuple (SV.dens β l).toArray) w := fun l hl => by
    have := resL_ok (P := P) hT ht hd hl
    rw [results_eq, hr, List.mapM_toArray]
    simp only [Sem.run_bind, Sem.run_map, this]
    simp
  split at h
  · rename_i s' hs
    have e := Option.some.inj h; subst e
    rw [key _ hs]; simp [SV.dens]
  · rename_i l hne hl
    have e := Option.some.inj h; subst e
    rw [key _ hl]
    have : ¬ (SV.dens β l).toArray.size = 1 := by
      rw [dens_map]; simp
      intro h1
      obtain ⟨x, rfl⟩ := List.length_eq_one_iff.1 h1
      exact hne x rfl
    rw [dif_neg this]; rfl
  · cases h
/-- What a body must end in. -/
abbrev Post {Y : Type} (val : Y → SV) (L1 : Y → Lm) (ψ : Y → Hp → Prop) (k : Hp) (N : World) : Ending → World → Prop :=
  Fin (fun v h'' => ∃ y h', valE (L1 y) (val y) = some v ∧ addsE (L1 y) (L1 y) h' = some h'' ∧ (∀ b ∈ names (L1 y), h' b = none) ∧ ψ y h') k N
theorem names_find {L X : Lm} : ∀ {R : Lm}, lentP L X R → ∀ b ∈ names R, ∃ i c t, kget L i = some ⟨some b, c, t⟩
  | [], _, b, hb => by simp [names] at hb
  | (i, ⟨some b', c1, t⟩) :: r, h, b, hb => by
    simp only [names, List.mem_cons] at hb
    rcases hb with rfl | hb
    · obtain ⟨c, _, h1, _⟩ := h.1; exact ⟨i, c, t, h1⟩
    · exact names_find h.2 b hb
  | (_, ⟨none, _, _⟩) :: _, h, b, hb => h.elim
theorem addsE_lent {X : Lm} (hd : Den β L u k N w) : ∀ {R : Lm} {h'' : Hp}, lentP L X R → addsE X R u = some h'' → ∀ b o, h'' b = some o → w.heap[b]? = some o ∧ k b = none
  | [], h'', _, h, b, o, hb => by
    simp only [addsE, Option.some.injEq] at h; subst h
    refine ⟨(hd.ext b o hb).1, ?_⟩
    cases hk : k b with
    | none => rfl
    | some o' => have := (hd.hid b o' hk).2.1; rw [hb] at this; cases this
  | (i, ⟨some b', c1, t⟩) :: r, h'', hl, h, b, o, hb => by
    simp only [addsE] at h
    split at h
    · rename_i l hl1
      split at h
      · rename_i h1 hh1
        have e := Option.some.inj h; subst e
        by_cases hbb : b = b'
        · subst hbb
          rw [upd_here] at hb
          have e := Option.some.inj hb; subst e
          obtain ⟨c, l', g1, g2, g3⟩ := hl.1
          obtain ⟨x1, x2, _⟩ := hd.loc i _ g1
          rw [x2 b rfl, valsE_den hd.bn g2] at x1
          rw [hl1] at g3; have e := Option.some.inj g3; subst e
          refine ⟨x1, ?_⟩
          cases hk : k b with
          | none => rfl
          | some o' => exact absurd (x2 b rfl) ((hd.hid b o' hk).2.2 i (by rw [g1]; rfl))
        · rw [upd_ne hbb] at hb; exact addsE_lent hd hl.2 hh1 b o hb
      · cases h
    · cases h
  | (_, ⟨none, _, _⟩) :: _, h'', hl, h, b, o, hb => hl.elim
theorem r_fin (hT : TOK P T) {fn : Func} {rs : List ResultVar} {Y : Type} {val : Y → SV} {L1 : Y → Lm} {ψ : Y → Hp → Prop} (hr : fn.results = rs.toArray) {s : SV} {v : Value} {h'' : Hp} (y : Y)
    (h : resE T tm L rs = some s) (hv : valE L s = some v) (hv' : valE (L1 y) (val y) = some v) (hl : lentP L (L1 y) (L1 y)) (ha : addsE (L1 y) (L1 y) u = some h'') (hψ : ψ y u) (hD : F.n.D = [] := by rfl) :
    St F tm L u (bodyPost P fn (Post val L1 ψ F.k F.N) .ret) := by
  intro β a w hf ht hd
  refine ⟨by rw [ht.defers, hD]; rfl, s.den β, resE_ok hT hr h ht hd, v, h'', ?_, ⟨y, u, hv', ha, ?_, hψ⟩, ⟨fun b o hb => (addsE_lent hd hl ha b o hb).1, fun b o hb => ⟨(hd.hid b o hb).1, ?_⟩, hd.size⟩⟩
  · rw [valE_den hd.bn hv]
  · intro b hb
    obtain ⟨i, c, t, hi⟩ := names_find hl b hb
    cases hu : u b with
    | none => rfl
    | some o => exact absurd ((hd.loc i _ hi).2.1 b rfl) ((hd.ext b o hu).2 i (by rw [hi]; rfl))
  · cases hx : h'' b with
    | none => rfl
    | some o' => have := (addsE_lent hd hl ha b o' hx).2; rw [hb] at this; cases this
open Classical in
/-- What a callee must leave as it is, beside k: the blocks of the frame. -/
noncomputable def hide (β : Nat → Nat) (L : Lm) (k : Hp) (w : World) : Hp := fun b => if ∃ i, (kget L i).isSome = true ∧ β i = b then w.heap[b]? else k b
theorem den0_of (hd : Den β L u k N w) : Den0 u (hide β L k w) w w := by
  refine ⟨fun b o hb => (hd.ext b o hb).1, fun b o hb => ?_, Ge.refl _⟩
  unfold hide at hb
  split at hb
  · rename_i h
    obtain ⟨i, hi, rfl⟩ := h
    refine ⟨hb, ?_⟩
    cases hu : u (β i) with
    | none => rfl
    | some o' => exact absurd rfl ((hd.ext _ o' hu).2 i hi)
  · exact ⟨(hd.hid b o hb).1, (hd.hid b o hb).2.1⟩
theorem den_back {w' : World} {u' : Hp} (hd : Den β L u k N w) (h : Den0 u' (hide β L k w) w w') : Den β L u' k N w' := by
  have hloc : ∀ i B, kget L i = some B → w'.heap[β i]? = w.heap[β i]? ∧ u' (β i) = none := fun i B hB => by
    have h1 := (hd.loc i B hB).1
    have hk : hide β L k w (β i) = some (.cells (SV.dens β B.cells).toArray B.ty (0, 0)) := by
      unfold hide; rw [if_pos ⟨i, by rw [hB]; rfl, rfl⟩]; exact h1
    obtain ⟨x, y⟩ := h.hid _ _ hk
    exact ⟨x.trans h1.symm, y⟩
  refine ⟨fun i B hB => ⟨(hloc i B hB).1.trans (hd.loc i B hB).1, (hd.loc i B hB).2⟩, hd.inj, fun b o hb => ⟨h.ext b o hb, fun i hi e => ?_⟩, fun b o hb => ?_, hd.size.trans h.size⟩
  · obtain ⟨B, hB⟩ := Option.isSome_iff_exists.1 hi
    subst e
    rw [(hloc i B hB).2] at hb; cases hb
  · have hne := (hd.hid b o hb).2.2
    have hk : hide β L k w b = some o := by
      unfold hide
      rw [if_neg]
      · exact hb
      · rintro ⟨i, hi, e⟩; exact hne i hi e
    exact ⟨(h.hid b o hk).1, (h.hid b o hk).2, hne⟩
theorem calleeE_ok {o : Oper} {c : Call} {f : FuncId} {svs : List SV} (hop : o.op = .call c) (h : calleeE tm c = some (f, svs)) (hc : callable P f = true) (ht : RelT n L β tm a) (hd : Den β L u k N w) :
    (execOp a.eval o).run P w = .ok (.enter f (SV.dens β svs).toArray) w := by
  unfold callable at hc
  split at hc
  · rename_i fn hfn
    simp only [Bool.and_eq_true, Bool.not_eq_true', beq_eq_false_iff_ne, ne_eq] at hc
    have hcall : ∀ args, (callFunc f args).run P w = .ok (.enter f args) w := fun args => by
      obtain ⟨cd, h2⟩ := Option.isSome_iff_exists.1 hc.2
      simp [callFunc, program, Sem.run, hfn, hc.1, h2]
    unfold calleeE at h
    split at h
    · rename_i x hx
      have hargs : ∀ l, evs tm c.args.toList = some l → c.args.map a.eval = (SV.dens β l).toArray := fun l hl => by
        rw [← (evs_ok ht hl).1]; exact Array.toList_inj.1 (by simp)
      split at h
      · rename_i f' hv
        split at h
        · rename_i l hl
          have e := Option.some.inj h
          simp only [Prod.mk.injEq] at e
          obtain ⟨rfl, rfl⟩ := e
          simp [execOp, hop, resolve, hx, ev_ok ht hv, SV.den, Deferred.ofValue, hargs l hl, invoke, hcall]
        · cases h
      · rename_i f' b hv
        split at h
        · rename_i l hl
          have e := Option.some.inj h
          simp only [Prod.mk.injEq] at e
          obtain ⟨rfl, rfl⟩ := e
          simp [execOp, hop, resolve, hx, ev_ok ht hv, SV.den, SV.dens, Deferred.ofValue, hargs l hl, invoke, hcall, dens_map]
        · cases h
      · cases h
    · cases h
  · cases hc
/-- A call that borrows none of the frame's blocks. -/
theorem r_call {l : List Oper} {o : Oper} {r : List Oper} {d : Nat} {c : Call} {f : FuncId} {svs args : List SV} {vs : List Value} {Y : Type} {val : Y → SV} {ψ : Y → Hp → Prop}
    (htri : TriS P f args [] u val (fun _ => []) ψ) (hw : wantE l tm o = some true) (ho : o.dst = some d) (hn : Nat.blt d F.n.z = true) (hop : o.op = .call c) (hcal : calleeE tm c = some (f, svs)) (hc : callable P f = true) (hvs' : valsE [] args = some vs) (hvs : valsE L svs = some vs)
    (next : ∀ y u', ψ y u' → Run P Q F ((d, val y) :: tm) L u' .seq l r) : Run P Q F tm L u .seq l (o :: r) := by
  intro β a w hf ht hd
  show (if _ then _ else _)
  rw [if_pos (wantE_ok hw ht)]
  refine .inl ?_
  unfold Oper.wp
  rw [calleeE_ok hop hcal hc ht hd, Oper.upon_enter, valsE_den hd.bn hvs]
  refine (htri List.nodup_nil (fun b hb => by simp [names] at hb) vs u hvs' rfl _ _ w (den0_of hd)).mono ?_
  rintro e w' ⟨v, h'', rfl, ⟨y, h', h1, h2, h3, h4⟩, h5⟩
  simp only [addsE, Option.some.injEq] at h2; subst h2
  have hk : (val y).ok [] = true := valE_ok h1
  have hk' : (val y).ok L = true := ok_more (fun i hi => by simp [kget] at hi) _ hk
  have hv : (val y).den β = v := valE_den (L := []) (fun i B b hB => by simp [kget] at hB) h1
  simp only [ho, ← hv]
  exact next y h' h4 β _ w' hf (put_rel hn ht hk') (den_back hd h5)
end
end Go.Sy
/- The walk by a symbolic frame: memory beyond the frame: rows that are read, written, made, grown. -/
namespace Go.Sy
def Le (h u : Hp) : Prop := ∀ b o, h b = some o → u b = some o
theorem Le.refl (h : Hp) : Le h h := fun _ _ h => h
theorem Le.trans {h u v : Hp} (h1 : Le h u) (h2 : Le u v) : Le h v := fun b o x => h2 b o (h1 b o x)
theorem Le.upd {h u : Hp} {b : Nat} {o : Obj} (h1 : Le h u) (hb : h b = none) : Le h (upd u b o) := fun x o' hx => by
  rw [upd_ne (fun e => by subst e; rw [hb] at hx; cases hx)]; exact h1 x o' hx
/-- At this place lie these cells. -/
def At (u : Hp) (b o : Nat) (cs : List Value) : Prop := ∃ arr t fr, u b = some (.cells arr t fr) ∧ ∀ j v, cs[j]? = some v → arr[o + j]? = some v
theorem At.le {u u' : Hp} {b o : Nat} {cs : List Value} (h : At u b o cs) (hl : Le u u') : At u' b o cs := let ⟨a, t, f, h1, h2⟩ := h; ⟨a, t, f, hl _ _ h1, h2⟩
theorem At.sub {u : Hp} {b o : Nat} {cs : List Value} (h : At u b o cs) (i : Nat) {ds : List Value} (hd : ∀ j v, ds[j]? = some v → cs[i + j]? = some v) : At u b (o + i) ds :=
  let ⟨a, t, f, h1, h2⟩ := h; ⟨a, t, f, h1, fun j v hj => by rw [Nat.add_assoc]; exact h2 _ v (hd j v hj)⟩
/-- A slice that reads so: n elements of sz cells each. -/
structure Sl (u : Hp) (A : Option Addr) (n sz : Nat) (cs : List Value) : Prop where
  len : cs.length = n * sz
  nil : A = none → n = 0
  at_ : ∀ a, A = some a → n ≠ 0 → a.spot = none ∧ At u a.block a.off cs
theorem Sl.le {u u' : Hp} {A : Option Addr} {n sz : Nat} {cs : List Value} (h : Sl u A n sz cs) (hl : Le u u') : Sl u' A n sz cs :=
  ⟨h.len, h.nil, fun a ha hn => ⟨(h.at_ a ha hn).1, (h.at_ a ha hn).2.le hl⟩⟩
/-- A slice that owns its row: it may be written and grown. -/
structure Own (u : Hp) (A : Option Addr) (n c : Nat) (e : TypeId) (sz : Nat) (cs : List Value) : Prop where
  len : cs.length = n * sz
  cap : n ≤ c
  nil : A = none → c = 0
  row : ∀ a, A = some a → a.spot = none ∧ ∃ arr, u a.block = some (.cells arr e (0, 0)) ∧ a.off + c * sz ≤ arr.size ∧ ∀ j v, cs[j]? = some v → arr[a.off + j]? = some v
def blk (A : Option Addr) : Option Nat := A.map (·.block)
/-- No block of h is A's. -/
def Off (h : Hp) (A : Option Addr) : Prop := ∀ b, blk A = some b → h b = none
theorem Own.sl {u : Hp} {A : Option Addr} {n c : Nat} {e : TypeId} {sz : Nat} {cs : List Value} (h : Own u A n c e sz cs) : Sl u A n sz cs :=
  ⟨h.len, fun ha => by have := h.nil ha; have := h.cap; omega, fun a ha _ => by obtain ⟨h1, arr, h2, _, h3⟩ := h.row a ha; exact ⟨h1, arr, e, _, h2, h3⟩⟩
theorem Own.le {u u' : Hp} {A : Option Addr} {n c : Nat} {e : TypeId} {sz : Nat} {cs : List Value} (h : Own u A n c e sz cs) (hl : ∀ b o, blk A = some b → u b = some o → u' b = some o) : Own u' A n c e sz cs :=
  ⟨h.len, h.cap, h.nil, fun a ha => by obtain ⟨h1, arr, h2, h3⟩ := h.row a ha; exact ⟨h1, arr, hl _ _ (by rw [ha]; rfl) h2, h3⟩⟩
theorem own_nil {u : Hp} {e sz : Nat} : Own u none 0 0 e sz [] := ⟨by simp, Nat.le_refl _, fun _ => rfl, fun a h => by cases h⟩
theorem off_nil {h : Hp} : Off h none := fun b hb => by cases hb
section
variable {P : Program} {T : List (Nat × TI)} {F : Fr} {tm : Tm} {L : Lm} {u : Hp} {n : FN} {N : World} {β : Nat → Nat} {k : Hp} {a : Act} {w : World} {Q : Exit → Act → World → Prop}
/-- One operation that yields a value, in whatever frame it leaves. -/
theorem op_any {l : List Oper} {o : Oper} {r : List Oper} {d : Nat} (hw : wantE l tm o = some true) (ho : o.dst = some d) (hn : Nat.blt d F.n.z = true)
    (h : ∀ β a w, Fence F L β → RelT F.n L β tm a → Den β L u F.k F.N w → ∃ β' w' s L' u', (execOp a.eval o).run P w = .ok (.value (s.den β')) w' ∧ Fence F L' β' ∧ RelT F.n L' β' tm a ∧ Den β' L' u' F.k F.N w' ∧ s.ok L' = true ∧
      St F ((d, s) :: tm) L' u' (fun a w => wpList P l.toArray Q r a w)) : St F tm L u (fun a w => wpList P l.toArray Q (o :: r) a w) := by
  intro β a w hf ht hd
  obtain ⟨β', w', s, L', u', h1, h2, h3, h4, h5, next⟩ := h β a w hf ht hd
  show (if _ then _ else _)
  rw [if_pos (wantE_ok hw ht)]
  refine .inl ?_
  unfold Oper.wp
  rw [h1, Oper.upon_value, ho]
  exact next β' _ w' h2 (put_rel hn h3 h5) h4
theorem op_any_skip {l : List Oper} {o : Oper} {r : List Oper} (hw : wantE l tm o = some true) (ho : o.dst = none)
    (h : ∀ β a w, Fence F L β → RelT F.n L β tm a → Den β L u F.k F.N w → ∃ β' w' L' u', (execOp a.eval o).run P w = .ok .skip w' ∧ Fence F L' β' ∧ RelT F.n L' β' tm a ∧ Den β' L' u' F.k F.N w' ∧
      St F tm L' u' (fun a w => wpList P l.toArray Q r a w)) : St F tm L u (fun a w => wpList P l.toArray Q (o :: r) a w) := by
  intro β a w hf ht hd
  obtain ⟨β', w', L', u', h1, h2, h3, h4, next⟩ := h β a w hf ht hd
  show (if _ then _ else _)
  rw [if_pos (wantE_ok hw ht)]
  refine .inl ?_
  unfold Oper.wp
  rw [h1, Oper.upon_skip, ho]
  exact next β' _ w' h2 h3 h4
theorem Den.lt (hd : Den β L u k N w) {b : Nat} {o : Obj} (h : u b = some o) : b < w.heap.size := (Array.getElem?_eq_some_iff.1 (hd.ext b o h).1).1
theorem Den.fresh (hd : Den β L u k N w) : u w.heap.size = none := by
  cases h : u w.heap.size with
  | none => rfl
  | some o => exact absurd (hd.lt h) (Nat.lt_irrefl _)
/-- A new block beyond the frame. -/
theorem den_ext_new (hd : Den β L u k N w) {w' : World} {o : Obj} (hw : w'.heap = w.heap.push o) (he : w'.os = w.os ∧ w'.tape = w.tape ∧ w'.output = w.output ∧ w.drawn ≤ w'.drawn) : Den β L (upd u w.heap.size o) k N w' := by
  have hlt : ∀ {x : Nat} {o : Obj}, w.heap[x]? = some o → x < w.heap.size := fun h => (Array.getElem?_eq_some_iff.1 h).1
  have hold : ∀ {x : Nat} {y : Obj}, w.heap[x]? = some y → w'.heap[x]? = some y := fun h => by rw [hw, Array.getElem?_push_lt (hlt h)]; rw [← h]; simp [hlt h]
  have hne : ∀ i, (kget L i).isSome = true → β i ≠ w.heap.size := fun i hi e => by
    obtain ⟨B, hB⟩ := Option.isSome_iff_exists.1 hi
    have := hlt (hd.loc i B hB).1; omega
  refine ⟨fun i B hB => ⟨hold (hd.loc i B hB).1, (hd.loc i B hB).2⟩, hd.inj, fun b y hb => ?_, fun b y hb => ⟨hold (hd.hid b y hb).1, ?_, (hd.hid b y hb).2.2⟩, ⟨by rw [hw]; simp; have := hd.size.size; omega, he.1.trans hd.size.os, he.2.1.trans hd.size.tape, he.2.2.1.trans hd.size.output, Nat.le_trans hd.size.drawn he.2.2.2⟩⟩
  · by_cases hbb : b = w.heap.size
    · subst hbb
      rw [upd_here] at hb; have e := Option.some.inj hb; subst e
      exact ⟨by rw [hw]; simp, hne⟩
    · rw [upd_ne hbb] at hb; exact ⟨hold (hd.ext b y hb).1, (hd.ext b y hb).2⟩
  · rw [upd_ne (fun e => by subst e; exact absurd (hlt (hd.hid _ y hb).1) (Nat.lt_irrefl _))]; exact (hd.hid b y hb).2.1
/-- A block beyond the frame, written. -/
theorem den_ext_set (hd : Den β L u k N w) {w' : World} {b : Nat} {o o' : Obj} (hb : u b = some o) (hw : Upd1 w w' b o') : Den β L (upd u b o') k N w' := by
  have hne := (hd.ext b o hb).2
  refine ⟨fun i B hB => ⟨?_, (hd.loc i B hB).2⟩, hd.inj, fun x y hx => ?_, fun x y hx => ?_, hd.size.upd hw⟩
  · rw [hw.other _ (hne i (by rw [hB]; rfl))]; exact (hd.loc i B hB).1
  · by_cases hxb : x = b
    · subst hxb; rw [upd_here] at hx; have e := Option.some.inj hx; subst e; exact ⟨hw.here, hne⟩
    · rw [upd_ne hxb] at hx; exact ⟨by rw [hw.other _ hxb]; exact (hd.ext x y hx).1, (hd.ext x y hx).2⟩
  · have hxb : x ≠ b := fun e => by subst e; have := (hd.hid x y hx).2.1; rw [hb] at this; cases this
    exact ⟨by rw [hw.other _ hxb]; exact (hd.hid x y hx).1, by rw [upd_ne hxb]; exact (hd.hid x y hx).2.1, (hd.hid x y hx).2.2⟩
theorem At.cell (hd : Den β L u k N w) {b o : Nat} {cs : List Value} (h : At u b o cs) {j : Nat} {v : Value} (hj : cs[j]? = some v) : w.cell? ⟨b, o + j, none⟩ = some v := by
  obtain ⟨arr, t, fr, h1, h2⟩ := h
  rw [cell_of (hd.ext b _ h1).1]; exact h2 j v hj
theorem elem_of (hT : TOK P T) {t e : TypeId} {ti : TI} (ht : kget T t = some ti) (hk : ti.kind = .slice e) : P.underlying t = some (.slice e) := by
  obtain ⟨d, hd, h⟩ := chk_desc (hT t ti ht)
  rw [hk] at h
  cases d <;> simp [kfits] at h
  subst h; exact hd
/-- The address of an element. -/
theorem r_index (hT : TOK P T) {q : Md} {l : List Oper} {o : Oper} {r : List Oper} {d : Nat} {t e : TypeId} {ti te : TI} {x y : Operand} {b off m c : Nat} {kk : IntKind} {i : Int}
    (hw : wantE l tm o = some true) (ho : o.dst = some d) (hn : Nat.blt d F.n.z = true) (hop : o.op = .indexAddr t x y) (ht : kget T t = some ti) (hk : ti.kind = .slice e) (he : kget T e = some te)
    (hx : ev tm x = some (.v (.slice (some ⟨b, off, none⟩) m c))) (hy : ev tm y = some (.v (.int kk i))) (h0 : 0 ≤ i) (h1 : i < m)
    (next : Run P Q F ((d, .v (.pointer (some ⟨b, off + i.toNat * te.size, none⟩))) :: tm) L u q l r) : Run P Q F tm L u q l (o :: r) := by
  refine op_pure hw ho hn (fun β a w ht' hd => ⟨?_, rfl⟩) next
  have hu := run_und (elem_of hT ht hk) w
  simp [execOp, hop, ev_ok ht' hx, ev_ok ht' hy, SV.den, Instr.indexAt, asIntOf, hu, run_size (hT e te he), h0, h1]
  simp only [Addr.add]; split <;> simp_all
/-- The same, the index a count. -/
theorem r_indexN (hT : TOK P T) {q : Md} {l : List Oper} {o : Oper} {r : List Oper} {d : Nat} {t e : TypeId} {ti te : TI} {x y : Operand} {b off m c : Nat} {kk : IntKind} {i : Nat}
    (hw : wantE l tm o = some true) (ho : o.dst = some d) (hn : Nat.blt d F.n.z = true) (hop : o.op = .indexAddr t x y) (ht : kget T t = some ti) (hk : ti.kind = .slice e) (he : kget T e = some te)
    (hx : ev tm x = some (.v (.slice (some ⟨b, off, none⟩) m c))) (hy : ev tm y = some (.v (.int kk (i : Int)))) (h1 : i < m)
    (next : Run P Q F ((d, .v (.pointer (some ⟨b, off + i * te.size, none⟩))) :: tm) L u q l r) : Run P Q F tm L u q l (o :: r) :=
  r_index hT hw ho hn hop ht hk he hx hy (Int.natCast_nonneg i) (by omega) (by simpa using next)
def svl (agg : Bool) (cs : List Value) : Option SV :=
  match agg with
  | true => match svs cs with
    | some l => some (.ag l)
    | none => none
  | false => match cs with
    | v :: _ => some (.v v)
    | [] => none
  where
  svs : List Value → Option (List SV)
    | [] => some []
    | v :: r => match svs r with
      | some l => some (.v v :: l)
      | none => none
theorem svs_eq (β : Nat → Nat) (L : Lm) : ∀ {cs : List Value} {l : List SV}, svl.svs cs = some l → SV.dens β l = cs ∧ SV.oks L l = true
  | [], l, h => by simp only [svl.svs, Option.some.injEq] at h; subst h; exact ⟨rfl, rfl⟩
  | v :: r, l, h => by
    simp only [svl.svs] at h
    split at h
    · rename_i l' hl
      have e := Option.some.inj h; subst e
      obtain ⟨h1, h2⟩ := svs_eq β L hl
      exact ⟨by simp [SV.dens, SV.den, h1], by simp [SV.oks, SV.ok, h2]⟩
    · cases h
/-- A load from beyond the frame: at the place o lie cs; the variable begins f cells on. -/
theorem r_load (hT : TOK P T) {q : Md} {l : List Oper} {op : Oper} {r : List Oper} {d : Nat} {t : TypeId} {ti : TI} {x : Operand} {b o o' f : Nat} {cs ds ds' : List Value} {s : SV} (hat : At u b o cs)
    (hw : wantE l tm op = some true) (hdst : op.dst = some d) (hn : Nat.blt d F.n.z = true) (hop : op.op = .load t x) (hx : ev tm x = some (.v (.pointer (some ⟨b, o', none⟩)))) (hoo : o' = o + f) (ht : kget T t = some ti)
    (hds : dropE f cs = some ds) (hds' : takeE ti.size ds = some ds') (hs : svl ti.kind.agg ds' = some s) (h1 : Nat.beq ti.size 0 = false)
    (next : Run P Q F ((d, s) :: tm) L u q l r) : Run P Q F tm L u q l (op :: r) := by
  have hne : ti.size ≠ 0 := Nat.ne_of_beq_eq_false h1
  obtain ⟨e1, rfl⟩ := dropE_eq _ _ _ hds
  obtain ⟨e2, rfl⟩ := takeE_eq _ _ _ hds'
  subst hoo
  have hcl : ∀ j v, ((cs.drop f).take ti.size)[j]? = some v → cs[f + j]? = some v := fun j v hj => by
    simp only [List.getElem?_take, List.getElem?_drop] at hj
    split at hj
    · exact hj
    · cases hj
  have hlen : ((cs.drop f).take ti.size).length = ti.size := by simp at e2 ⊢; omega
  have hok : s.ok L = true := by
    unfold svl at hs
    split at hs
    · split at hs
      · rename_i l' hl; have e := Option.some.inj hs; subst e; exact (svs_eq (fun _ => 0) L hl).2
      · cases hs
    · split at hs
      · have e := Option.some.inj hs; subst e; rfl
      · cases hs
  refine op_pure hw hdst hn (fun β a w ht' hd => ⟨?_, hok⟩) next
  have hat' := hat.sub f hcl
  have hchk := hT t ti ht
  have hrun : (loadVar t ⟨b, o + f, none⟩).run P w = .ok (s.den β) w := by
    unfold loadVar
    rw [Sem.run_bind, run_agg hchk]
    simp only [Result.andThen_ok]
    unfold svl at hs
    split at hs
    · rename_i hagg
      split at hs
      · rename_i l' hl
        have e := Option.some.inj hs; subst e
        simp only [hagg, if_true, Sem.run_bind, run_size hchk, Result.andThen_ok]
        have := run_loadCells_list (P := P) w ⟨b, o + f, none⟩ ((cs.drop f).take ti.size) (fun j v hj => by
          have : (⟨b, o + f, none⟩ : Addr).add j = ⟨b, o + f + j, none⟩ := by simp only [Addr.add]; split <;> simp_all
          rw [this]; exact hat'.cell hd hj)
        rw [hlen] at this
        rw [this]
        simp [SV.den, (svs_eq β L hl).1]
      · cases hs
    · rename_i hagg
      split at hs
      · rename_i v vs hv
        have e := Option.some.inj hs; subst e
        have := hat'.cell hd (j := 0) (v := v) (by rw [hv]; rfl)
        simp only [Nat.add_zero] at this
        simp only [hagg, Bool.false_eq_true, if_false, run_load, this, SV.den]
      · cases hs
  simp [execOp, hop, ev_ok ht' hx, SV.den, Instr.loadAt, Instr.sureAddr, hrun]
/-- A store beyond the frame. -/
theorem r_store (hT : TOK P T) {l : List Oper} {op : Oper} {r : List Oper} {t e : TypeId} {ti : TI} {x y : Operand} {b o : Nat} {arr : Array Value} {s : SV} {cs : List SV} {vs : List Value}
    (hw : wantE l tm op = some true) (hdst : op.dst = none) (hop : op.op = .store t x y) (hx : ev tm x = some (.v (.pointer (some ⟨b, o, none⟩)))) (hy : ev tm y = some s) (ht : kget T t = some ti)
    (hc : cellsE ti.kind.agg s = some cs) (hl : lenIs cs ti.size = true) (ho1 : onesE cs = true) (hv : valsE L cs = some vs) (hb : u b = some (.cells arr e (0, 0))) (hlt : o + ti.size ≤ arr.size)
    (next : Run P Q F tm L (upd u b (.cells (setL arr.toList o vs).toArray e (0, 0))) .seq l r) : Run P Q F tm L u .seq l (op :: r) := by
  refine op_skip hw hdst (fun β a w hf ht' hd => ?_) next
  obtain ⟨g1, g2⟩ := cellsE_ok (β := β) hc (ev_oks ht' hy)
  have hvs := valsE_den hd.bn hv
  have hlen := lenIs_eq hl
  have hlen' : vs.length = ti.size := by rw [← hvs, dens_map]; simpa using hlen
  obtain ⟨w', hr, hu⟩ := run_storeVar (P := P) (off := o) (vs := vs) (hT t ti ht) (hd.ext b _ hb).1 (by rw [g1, hvs]) hlen' (by omega) (by rw [← hvs]; exact onesE_ok β ho1)
  refine ⟨β, w', ?_, hf, ht', den_ext_set hd hb hu⟩
  simp [execOp, hop, ev_ok ht' hx, ev_ok ht' hy, SV.den, Instr.storeAt, Instr.sureAddr, hr]
end
end Go.Sy
