/- The walk by a symbolic frame: rules of the operations. -/
import Derived.Test.YtkamfnmbidnhdaaDoorSyD
set_option linter.unusedVariables false
set_option linter.unusedSimpArgs false
set_option linter.unusedSectionVars false
namespace Go.Sy
/-- Whether an operation comes up: its guard's slot holds a known bool. -/
def wantE (l : List Oper) (tm : Tm) (o : Oper) : Option Bool :=
  match o.guard with
  | none => some true
  | some (j, want) => match nth l j with
    | some oj => match oj.dst with
      | some d => match kget tm d with
        | some (.v (.bool true)) => some want
        | some (.v (.bool false)) => some (!want)
        | _ => none
      | none => none
    | none => none
section
variable {P : Program} {T : List (Nat × TI)} {F : Fr} {tm : Tm} {L : Lm} {u : Hp} {n : FN} {N : World} {β : Nat → Nat} {k : Hp} {a : Act} {w : World} {Q : Exit → Act → World → Prop}
theorem wantE_ok {l : List Oper} {o : Oper} {b : Bool} (h : wantE l tm o = some b) (ht : RelT n L β tm a) : Region.wanted o (yielded l.toArray a.tmps) = b := by
  unfold wantE at h
  unfold Region.wanted
  split at h
  · rename_i hg; rw [hg]; exact Option.some.inj h
  · rename_i j want hg
    rw [hg]
    split at h
    · rename_i oj hoj
      rw [nth_eq] at hoj
      split at h
      · rename_i d hd
        split at h
        · rename_i hv
          have := (ht.get d _ hv).1
          have h' := Option.some.inj h; subst h'
          simp [yielded, hoj, hd, this, SV.den]
        · rename_i hv
          have := (ht.get d _ hv).1
          have h' := Option.some.inj h; subst h'
          simp [yielded, hoj, hd, this, SV.den]
        · cases h
      · cases h
    · cases h
/-- How a region's operations come up: one behind the other; in any order, each in whatever world has this form; likewise, but none calls. -/
inductive Md where
  | seq | quiet | still
/-- Operations that leave the world as it is, and yield one value in all worlds of a class. -/
def wpStillC (P : Program) (ops : Array Oper) (C : World → Prop) (K : Act → Prop) : List Oper → Act → Prop
  | [], a => K a
  | o :: rest, a => if Region.wanted o (yielded ops a.tmps) then ∃ v, (∀ w, C w → (execOp a.eval o).run P w = .ok (.value v) w) ∧ wpStillC P ops C K rest (a.put o.dst v) else wpStillC P ops C K rest (a.put o.dst undef)
/-- A region's operations, from 'rest' on. -/
def Run (P : Program) (Q : Exit → Act → World → Prop) (F : Fr) (tm : Tm) (L : Lm) (u : Hp) (q : Md) (l rest : List Oper) : Prop :=
  match q with
  | .seq => St F tm L u (fun a w => wpList P l.toArray Q rest a w)
  | .quiet => ∀ β a w, Fence F L β → RelT F.n L β tm a → Den β L u F.k F.N w →
      wpQuiet P l.toArray (fun w => Den β L u F.k F.N w) (fun a' => ∀ w', Den β L u F.k F.N w' → Q .normal a' w') rest a
  | .still => ∀ β a w, Fence F L β → RelT F.n L β tm a → Den β L u F.k F.N w →
      wpStillC P l.toArray (fun w => Den β L u F.k F.N w) (fun a' => ∀ w', Den β L u F.k F.N w' → Q .normal a' w') rest a
theorem r_region {id : Nat} {l : List Oper} (h : Run P Q F tm L u .seq l l) : St F tm L u (fun a w => (Code.region id l.toArray false).wp P Q a w) :=
  St.imp h fun _ _ => wp_region_lit
theorem Den.drew (hd : Den β L u k N w) : Den β L u k N { w with drawn := w.drawn + 1 } := ⟨hd.loc, hd.inj, hd.ext, hd.hid, ⟨hd.size.size, hd.size.os, hd.size.tape, hd.size.output⟩⟩
theorem r_draw {id : Nat} {l : List Oper} (hm : P.follows .mixedOrders = true) (hB : Region.lexB .any l.toArray = true) (h : Run P Q F tm L u .quiet l l) : St F tm L u (fun a w => (Code.region id l.toArray true).wp P Q a w) := by
  intro β a w hf ht hd
  exact wp_region_quiet (C := fun w => Den β L u F.k F.N w) hm hB hd.drew (by simpa using h β a w hf ht hd)
theorem r_nil {l : List Oper} (h : St F tm L u (Q .normal)) : Run P Q F tm L u .seq l [] := h
theorem s_nil {l : List Oper} (h : St F tm L u (Q .normal)) : Run P Q F tm L u .still l [] := fun β a _ hf ht _ w' hw' => h β a w' hf ht hw'
theorem q_nil {l : List Oper} (h : St F tm L u (Q .normal)) : Run P Q F tm L u .quiet l [] := fun β a _ hf ht _ => wpQuiet_nil (fun w' hw' => h β a w' hf ht hw')
/-- One operation that leaves the world as it is. -/
theorem op_pure {q : Md} {l : List Oper} {o : Oper} {r : List Oper} {d : Nat} {s : SV} (hw : wantE l tm o = some true) (ho : o.dst = some d) (hn : Nat.blt d F.n.z = true)
    (h : ∀ β a w, RelT F.n L β tm a → Den β L u F.k F.N w → (execOp a.eval o).run P w = .ok (.value (s.den β)) w ∧ s.ok L = true)
    (next : Run P Q F ((d, s) :: tm) L u q l r) : Run P Q F tm L u q l (o :: r) := by
  cases q with
  | seq =>
    intro β a w hf ht hd
    obtain ⟨h1, h5⟩ := h β a w ht hd
    show (if _ then _ else _)
    rw [if_pos (wantE_ok hw ht)]
    refine .inl ?_
    unfold Oper.wp
    rw [h1, Oper.upon_value, ho]
    exact next β _ w hf (put_rel hn ht h5) hd
  | quiet =>
    intro β a w hf ht hd
    have h5 := (h β a w ht hd).2
    show (if _ then _ else _)
    rw [if_pos (wantE_ok hw ht)]
    refine ⟨s.den β, fun w' hw' => ?_, ?_⟩
    · unfold Oper.quietAt
      rw [(h β a w' ht hw').1]
      exact ⟨rfl, rfl⟩
    · rw [ho]; exact next β _ w hf (put_rel hn ht h5) hd
  | still =>
    intro β a w hf ht hd
    have h5 := (h β a w ht hd).2
    show (if _ then _ else _)
    rw [if_pos (wantE_ok hw ht)]
    exact ⟨s.den β, fun w' hw' => (h β a w' ht hw').1, by rw [ho]; exact next β _ w hf (put_rel hn ht h5) hd⟩
/-- One operation that yields s, in a frame that may have grown. -/
theorem op_value {l : List Oper} {o : Oper} {r : List Oper} {d : Nat} {s : SV} {L' : Lm} {u' : Hp} (hw : wantE l tm o = some true) (ho : o.dst = some d) (hn : Nat.blt d F.n.z = true)
    (h : ∀ β a w, Fence F L β → RelT F.n L β tm a → Den β L u F.k F.N w → ∃ β' w', (execOp a.eval o).run P w = .ok (.value (s.den β')) w' ∧ Fence F L' β' ∧ RelT F.n L' β' tm a ∧ Den β' L' u' F.k F.N w' ∧ s.ok L' = true)
    (next : St F ((d, s) :: tm) L' u' (fun a w => wpList P l.toArray Q r a w)) : St F tm L u (fun a w => wpList P l.toArray Q (o :: r) a w) := by
  intro β a w hf ht hd
  obtain ⟨β', w', h1, h2, h3, h4, h5⟩ := h β a w hf ht hd
  show (if _ then _ else _)
  rw [if_pos (wantE_ok hw ht)]
  refine .inl ?_
  unfold Oper.wp
  rw [h1, Oper.upon_value, ho]
  exact next β' _ w' h2 (put_rel hn h3 h5) h4
theorem op_skip {l : List Oper} {o : Oper} {r : List Oper} {L' : Lm} {u' : Hp} (hw : wantE l tm o = some true) (ho : o.dst = none)
    (h : ∀ β a w, Fence F L β → RelT F.n L β tm a → Den β L u F.k F.N w → ∃ β' w', (execOp a.eval o).run P w = .ok .skip w' ∧ Fence F L' β' ∧ RelT F.n L' β' tm a ∧ Den β' L' u' F.k F.N w')
    (next : St F tm L' u' (fun a w => wpList P l.toArray Q r a w)) : St F tm L u (fun a w => wpList P l.toArray Q (o :: r) a w) := by
  intro β a w hf ht hd
  obtain ⟨β', w', h1, h2, h3, h4⟩ := h β a w hf ht hd
  show (if _ then _ else _)
  rw [if_pos (wantE_ok hw ht)]
  refine .inl ?_
  unfold Oper.wp
  rw [h1, Oper.upon_skip, ho]
  exact next β' _ w' h2 h3 h4
theorem r_pure (hT : TOK P T) {q : Md} {l : List Oper} {o : Oper} {r : List Oper} {d : Nat} {s : SV} (hw : wantE l tm o = some true) (ho : o.dst = some d) (hn : Nat.blt d F.n.z = true) (h : pev T tm L o.op = some s)
    (next : Run P Q F ((d, s) :: tm) L u q l r) : Run P Q F tm L u q l (o :: r) :=
  op_pure hw ho hn (fun _ _ _ ht hd => pev_ok hT rfl h ht hd) next
/-- It does not come up. -/
theorem r_off {q : Md} {l : List Oper} {o : Oper} {r : List Oper} {d : Nat} (hw : wantE l tm o = some false) (ho : o.dst = some d) (hn : Nat.blt d F.n.z = true)
    (next : Run P Q F ((d, .v undef) :: tm) L u q l r) : Run P Q F tm L u q l (o :: r) := by
  cases q <;>
  · intro β a w hf ht hd
    show (if _ then _ else _)
    rw [if_neg (by rw [wantE_ok hw ht]; simp), ho]
    exact next β _ w hf (put_rel (s := .v undef) hn ht rfl) hd
theorem r_off' {q : Md} {l : List Oper} {o : Oper} {r : List Oper} (hw : wantE l tm o = some false) (ho : o.dst = none)
    (next : Run P Q F tm L u q l r) : Run P Q F tm L u q l (o :: r) := by
  cases q <;>
  · intro β a w hf ht hd
    show (if _ then _ else _)
    rw [if_neg (by rw [wantE_ok hw ht]; simp), ho]
    exact next β _ w hf ht hd
/-- A slot's bool is known from here on. -/
theorem r_case {Φ : Act → World → Prop} (d : Nat) {b : Bool} (hd : kget tm d = some (.v (.bool b))) (h1 : b = true → St F ((d, .v (.bool true)) :: tm) L u Φ) (h2 : b = false → St F ((d, .v (.bool false)) :: tm) L u Φ) : St F tm L u Φ := by
  intro β a w hf ht hD
  have key : ∀ c, b = c → RelT F.n L β ((d, .v (.bool c)) :: tm) a := fun c hc => by
    refine ⟨ht.size, ht.defers, ht.dok, fun t s hs => ?_⟩
    rw [kget_cons] at hs
    split at hs
    · rename_i e; subst e
      have h' := Option.some.inj hs; subst h'
      have := ht.get d _ hd
      rw [hc] at this; exact this
    · exact ht.get t s hs
  cases hb : b with
  | true => exact h1 hb β a w hf (key _ hb) hD
  | false => exact h2 hb β a w hf (key _ hb) hD
theorem q_case {q : Md} {l r : List Oper} (d : Nat) {b : Bool} (hd : kget tm d = some (.v (.bool b))) (h1 : b = true → Run P Q F ((d, .v (.bool true)) :: tm) L u q l r) (h2 : b = false → Run P Q F ((d, .v (.bool false)) :: tm) L u q l r) : Run P Q F tm L u q l r := by
  cases q with
  | seq => exact r_case d hd h1 h2
  | _ =>
    intro β a w hf ht hD
    have key : ∀ c, b = c → RelT F.n L β ((d, .v (.bool c)) :: tm) a := fun c hc => by
      refine ⟨ht.size, ht.defers, ht.dok, fun t s hs => ?_⟩
      rw [kget_cons] at hs
      split at hs
      · rename_i e; subst e
        have h' := Option.some.inj hs; subst h'
        have := ht.get d _ hd
        rw [hc] at this; exact this
      · exact ht.get t s hs
    cases hb : b with
    | true => exact h1 hb β a w hf (key _ hb) hD
    | false => exact h2 hb β a w hf (key _ hb) hD
theorem r_new (hT : TOK P T) {l : List Oper} {o : Oper} {r : List Oper} {d : Nat} {s : SV} {L' : Lm} (hw : wantE l tm o = some true) (ho : o.dst = some d) (hn : Nat.blt d F.n.z = true) (h : hev T tm L d o.op = some (s, L'))
    (next : Run P Q F ((d, s) :: tm) L' u .seq l r) : Run P Q F tm L u .seq l (o :: r) := by
  refine op_value hw ho hn (fun β a w hf ht hd => ?_) next
  unfold hev at h
  split at h
  · rename_i t hop
    split at h
    · cases h
    · rename_i hk
      split at h
      · cases h
      · rename_i ti hti
        split at h
        · cases h
        · rename_i cs hcs
          have h' := Option.some.inj h
          simp only [Prod.mk.injEq] at h'
          obtain ⟨rfl, rfl⟩ := h'
          obtain ⟨z, hz, hzc⟩ := run_zero (hT t ti hti) w
          obtain ⟨g1, g2⟩ := zcells_eq β L hcs
          refine ⟨bup β d w.heap.size, _, ?_, fence_new hk hf _, rel_new hk ht _, den_new (B := ⟨none, cs, t⟩) rfl g2 hk hd (o := .cells (SV.dens β cs).toArray t (0, 0)) rfl, ?_⟩
          · simp [execOp, hop, Instr.alloc, hz, newVar, newRow, newObj, Sem.run, hzc, g1, SV.den, bup_here]
          · simp [SV.ok, kget_cons]
  · rename_i t x hop
    split at h
    · cases h
    · rename_i hk
      split at h
      · cases h
      · rename_i ti hti
        split at h
        · cases h
        · rename_i s' hs
          split at h
          · cases h
          · rename_i cs hcs
            have h' := Option.some.inj h
            simp only [Prod.mk.injEq] at h'
            obtain ⟨rfl, rfl⟩ := h'
            obtain ⟨g1, g2⟩ := cellsE_ok (β := β) hcs (ev_oks ht hs)
            refine ⟨bup β d w.heap.size, _, ?_, fence_new hk hf _, rel_new hk ht _, den_new (B := ⟨none, cs, t⟩) rfl g2 hk hd (o := .cells (SV.dens β cs).toArray t (0, 0)) rfl, ?_⟩
            · simp [execOp, hop, Instr.box, newVar, newRow, newObj, Sem.run, ev_ok ht hs, g1, SV.den, bup_here]
            · simp [SV.ok, kget_cons]
  · cases h
theorem r_write (hT : TOK P T) {l : List Oper} {o : Oper} {r : List Oper} {L' : Lm} (hw : wantE l tm o = some true) (ho : o.dst = none) (h : wev T tm L o.op = some L')
    (next : Run P Q F tm L' u .seq l r) : Run P Q F tm L u .seq l (o :: r) := by
  refine op_skip hw ho (fun β a w hf ht hd => ?_) next
  unfold wev at h
  split at h
  · rename_i t x y hop
    split at h
    · cases h
    · rename_i ti hti
      split at h
      · rename_i i off hx
        split at h
        · cases h
        · rename_i nm cells ty hB
          split at h
          · cases h
          · rename_i s hs
            split at h
            · cases h
            · rename_i cs hcs
              split at h
              · cases h
              · rename_i hlen
                split at h
                · cases h
                · rename_i hone
                  split at h
                  · cases h
                  · rename_i rr hr
                    obtain ⟨g1, g2⟩ := cellsE_ok (β := β) hcs (ev_oks ht hs)
                    obtain ⟨e1, rfl⟩ := setE_eq _ _ _ _ hr
                    obtain ⟨b1, b2, b3⟩ := hd.loc i _ hB
                    have hl := lenIs_eq hlen
                    obtain ⟨w', hr', hu⟩ := run_storeVar (P := P) (off := off) (vs := SV.dens β cs) (hT t ti hti) b1 g1 (by rw [dens_map]; simpa using hl) (by rw [dens_map, dens_map]; simpa using e1) (onesE_ok β hone)
                    have hset : SV.dens β (setL cells off cs) = setL (SV.dens β cells) off (SV.dens β cs) := by simp [dens_map, setL]
                    have hok : SV.oks L (setL cells off cs) = true := by
                      rw [oks_all] at *
                      refine List.all_eq_true.2 fun x hx => ?_
                      simp only [setL, List.mem_append] at hx
                      rcases hx with hx | hx | hx
                      · exact List.all_eq_true.1 b3 x (List.mem_of_mem_take hx)
                      · exact List.all_eq_true.1 g2 x hx
                      · exact List.all_eq_true.1 b3 x (List.mem_of_mem_drop hx)
                    have hL := ksetE_get h
                    have hmore : ∀ j, (kget L j).isSome = true → (kget L' j).isSome = true := fun j hj => by rw [hL]; split <;> simp_all
                    refine ⟨β, w', ?_, fun j hj => ⟨(hf j hj).1, hmore j (hf j hj).2⟩, ⟨ht.size, ht.defers, dvs_more hmore ht.dok, fun t s hs => ⟨(ht.get t s hs).1, ok_more hmore s (ht.get t s hs).2⟩⟩, den_set hB hok hd hL (by rw [hset]; simpa using hu)⟩
                    simp [execOp, hop, ev_ok ht hx, ev_ok ht hs, SV.den, Instr.storeAt, Instr.sureAddr, hr']
      · cases h
  · cases h
end
end Go.Sy
