/- The walk by a symbolic frame: memory beyond the frame: rows that are read, written, made, grown. -/
import Derived.Test.YtkamfnmbidnhdaaDoorSyG
import Derived.Deep.AppendSrc
import Derived.Laws.MakeOwn
set_option linter.unusedVariables false
set_option linter.unusedSimpArgs false
set_option linter.unusedSectionVars false
namespace Go.Sy
def Le (h u : Hp) : Prop := ∀ b o, h b = some o → u b = some o
theorem Le.refl (h : Hp) : Le h h := fun _ _ h => h
theorem Le.trans {h u v : Hp} (h1 : Le h u) (h2 : Le u v) : Le h v := fun b o x => h2 b o (h1 b o x)
theorem Le.upd {h u : Hp} {b : Nat} {o : Obj} (h1 : Le h u) (hb : h b = none) : Le h (upd u b o) := fun x o' hx => by
  rw [upd_ne (fun e => by subst e; rw [hb] at hx; cases hx)]; exact h1 x o' hx
/-- At this place lie these cells. -/
def At (u : Hp) (b o : Nat) (cs : List Value) : Prop := ∃ arr t fr, u b = some (.cells arr t fr) ∧ ∀ j v, cs[j]? = some v → arr[o + j]? = some v
theorem At.le {u u' : Hp} {b o : Nat} {cs : List Value} (h : At u b o cs) (hl : Le u u') : At u' b o cs := let ⟨a, t, f, h1, h2⟩ := h; ⟨a, t, f, hl _ _ h1, h2⟩
theorem At.sub {u : Hp} {b o : Nat} {cs : List Value} (h : At u b o cs) (i : Nat) {ds : List Value} (hd : ∀ j v, ds[j]? = some v → cs[i + j]? = some v) : At u b (o + i) ds :=
  let ⟨a, t, f, h1, h2⟩ := h; ⟨a, t, f, h1, fun j v hj => by rw [Nat.add_assoc]; exact h2 _ v (hd j v hj)⟩
/-- A slice that reads so: n elements of sz cells each. -/
structure Sl (u : Hp) (A : Option Addr) (n sz : Nat) (cs : List Value) : Prop where
  len : cs.length = n * sz
  nil : A = none → n = 0
  at_ : ∀ a, A = some a → n ≠ 0 → a.spot = none ∧ At u a.block a.off cs
theorem Sl.le {u u' : Hp} {A : Option Addr} {n sz : Nat} {cs : List Value} (h : Sl u A n sz cs) (hl : Le u u') : Sl u' A n sz cs :=
  ⟨h.len, h.nil, fun a ha hn => ⟨(h.at_ a ha hn).1, (h.at_ a ha hn).2.le hl⟩⟩
/-- A slice that owns its row: it may be written and grown. -/
structure Own (u : Hp) (A : Option Addr) (n c : Nat) (e : TypeId) (sz : Nat) (cs : List Value) : Prop where
  len : cs.length = n * sz
  cap : n ≤ c
  nil : A = none → c = 0
  row : ∀ a, A = some a → a.spot = none ∧ ∃ arr, u a.block = some (.cells arr e (0, 0)) ∧ a.off + c * sz ≤ arr.size ∧ ∀ j v, cs[j]? = some v → arr[a.off + j]? = some v
def blk (A : Option Addr) : Option Nat := A.map (·.block)
/-- No block of h is A's. -/
def Off (h : Hp) (A : Option Addr) : Prop := ∀ b, blk A = some b → h b = none
theorem Own.sl {u : Hp} {A : Option Addr} {n c : Nat} {e : TypeId} {sz : Nat} {cs : List Value} (h : Own u A n c e sz cs) : Sl u A n sz cs :=
  ⟨h.len, fun ha => by have := h.nil ha; have := h.cap; omega, fun a ha _ => by obtain ⟨h1, arr, h2, _, h3⟩ := h.row a ha; exact ⟨h1, arr, e, _, h2, h3⟩⟩
theorem Own.le {u u' : Hp} {A : Option Addr} {n c : Nat} {e : TypeId} {sz : Nat} {cs : List Value} (h : Own u A n c e sz cs) (hl : ∀ b o, blk A = some b → u b = some o → u' b = some o) : Own u' A n c e sz cs :=
  ⟨h.len, h.cap, h.nil, fun a ha => by obtain ⟨h1, arr, h2, h3⟩ := h.row a ha; exact ⟨h1, arr, hl _ _ (by rw [ha]; rfl) h2, h3⟩⟩
theorem own_nil {u : Hp} {e sz : Nat} : Own u none 0 0 e sz [] := ⟨by simp, Nat.le_refl _, fun _ => rfl, fun a h => by cases h⟩
theorem off_nil {h : Hp} : Off h none := fun b hb => by cases hb
section
variable {P : Program} {T : List (Nat × TI)} {F : Fr} {tm : Tm} {L : Lm} {u : Hp} {n : FN} {N : World} {β : Nat → Nat} {k : Hp} {a : Act} {w : World} {Q : Exit → Act → World → Prop}
/-- One operation that yields a value, in whatever frame it leaves. -/
theorem op_any {l : List Oper} {o : Oper} {r : List Oper} {d : Nat} (hw : wantE l tm o = some true) (ho : o.dst = some d) (hn : Nat.blt d F.n.z = true)
    (h : ∀ β a w, Fence F L β → RelT F.n L β tm a → Den β L u F.k F.N w → ∃ β' w' s L' u', (execOp a.eval o).run P w = .ok (.value (s.den β')) w' ∧ Fence F L' β' ∧ RelT F.n L' β' tm a ∧ Den β' L' u' F.k F.N w' ∧ s.ok L' = true ∧
      St F ((d, s) :: tm) L' u' (fun a w => wpList P l.toArray Q r a w)) : St F tm L u (fun a w => wpList P l.toArray Q (o :: r) a w) := by
  intro β a w hf ht hd
  obtain ⟨β', w', s, L', u', h1, h2, h3, h4, h5, next⟩ := h β a w hf ht hd
  show (if _ then _ else _)
  rw [if_pos (wantE_ok hw ht)]
  refine .inl ?_
  unfold Oper.wp
  rw [h1, Oper.upon_value, ho]
  exact next β' _ w' h2 (put_rel hn h3 h5) h4
theorem op_any_skip {l : List Oper} {o : Oper} {r : List Oper} (hw : wantE l tm o = some true) (ho : o.dst = none)
    (h : ∀ β a w, Fence F L β → RelT F.n L β tm a → Den β L u F.k F.N w → ∃ β' w' L' u', (execOp a.eval o).run P w = .ok .skip w' ∧ Fence F L' β' ∧ RelT F.n L' β' tm a ∧ Den β' L' u' F.k F.N w' ∧
      St F tm L' u' (fun a w => wpList P l.toArray Q r a w)) : St F tm L u (fun a w => wpList P l.toArray Q (o :: r) a w) := by
  intro β a w hf ht hd
  obtain ⟨β', w', L', u', h1, h2, h3, h4, next⟩ := h β a w hf ht hd
  show (if _ then _ else _)
  rw [if_pos (wantE_ok hw ht)]
  refine .inl ?_
  unfold Oper.wp
  rw [h1, Oper.upon_skip, ho]
  exact next β' _ w' h2 h3 h4
theorem Den.lt (hd : Den β L u k N w) {b : Nat} {o : Obj} (h : u b = some o) : b < w.heap.size := (Array.getElem?_eq_some_iff.1 (hd.ext b o h).1).1
theorem Den.fresh (hd : Den β L u k N w) : u w.heap.size = none := by
  cases h : u w.heap.size with
  | none => rfl
  | some o => exact absurd (hd.lt h) (Nat.lt_irrefl _)
/-- A new block beyond the frame. -/
theorem den_ext_new (hd : Den β L u k N w) {w' : World} {o : Obj} (hw : w'.heap = w.heap.push o) (he : w'.os = w.os ∧ w'.tape = w.tape ∧ w'.output = w.output) : Den β L (upd u w.heap.size o) k N w' := by
  have hlt : ∀ {x : Nat} {o : Obj}, w.heap[x]? = some o → x < w.heap.size := fun h => (Array.getElem?_eq_some_iff.1 h).1
  have hold : ∀ {x : Nat} {y : Obj}, w.heap[x]? = some y → w'.heap[x]? = some y := fun h => by rw [hw, Array.getElem?_push_lt (hlt h)]; rw [← h]; simp [hlt h]
  have hne : ∀ i, (kget L i).isSome = true → β i ≠ w.heap.size := fun i hi e => by
    obtain ⟨B, hB⟩ := Option.isSome_iff_exists.1 hi
    have := hlt (hd.loc i B hB).1; omega
  refine ⟨fun i B hB => ⟨hold (hd.loc i B hB).1, (hd.loc i B hB).2⟩, hd.inj, fun b y hb => ?_, fun b y hb => ⟨hold (hd.hid b y hb).1, ?_, (hd.hid b y hb).2.2⟩, ⟨by rw [hw]; simp; have := hd.size.size; omega, he.1.trans hd.size.os, he.2.1.trans hd.size.tape, he.2.2.trans hd.size.output⟩⟩
  · by_cases hbb : b = w.heap.size
    · subst hbb
      rw [upd_here] at hb; have e := Option.some.inj hb; subst e
      exact ⟨by rw [hw]; simp, hne⟩
    · rw [upd_ne hbb] at hb; exact ⟨hold (hd.ext b y hb).1, (hd.ext b y hb).2⟩
  · rw [upd_ne (fun e => by subst e; exact absurd (hlt (hd.hid _ y hb).1) (Nat.lt_irrefl _))]; exact (hd.hid b y hb).2.1
/-- A block beyond the frame, written. -/
theorem den_ext_set (hd : Den β L u k N w) {w' : World} {b : Nat} {o o' : Obj} (hb : u b = some o) (hw : Upd1 w w' b o') : Den β L (upd u b o') k N w' := by
  have hne := (hd.ext b o hb).2
  refine ⟨fun i B hB => ⟨?_, (hd.loc i B hB).2⟩, hd.inj, fun x y hx => ?_, fun x y hx => ?_, hd.size.upd hw⟩
  · rw [hw.other _ (hne i (by rw [hB]; rfl))]; exact (hd.loc i B hB).1
  · by_cases hxb : x = b
    · subst hxb; rw [upd_here] at hx; have e := Option.some.inj hx; subst e; exact ⟨hw.here, hne⟩
    · rw [upd_ne hxb] at hx; exact ⟨by rw [hw.other _ hxb]; exact (hd.ext x y hx).1, (hd.ext x y hx).2⟩
  · have hxb : x ≠ b := fun e => by subst e; have := (hd.hid x y hx).2.1; rw [hb] at this; cases this
    exact ⟨by rw [hw.other _ hxb]; exact (hd.hid x y hx).1, by rw [upd_ne hxb]; exact (hd.hid x y hx).2.1, (hd.hid x y hx).2.2⟩
theorem At.cell (hd : Den β L u k N w) {b o : Nat} {cs : List Value} (h : At u b o cs) {j : Nat} {v : Value} (hj : cs[j]? = some v) : w.cell? ⟨b, o + j, none⟩ = some v := by
  obtain ⟨arr, t, fr, h1, h2⟩ := h
  rw [cell_of (hd.ext b _ h1).1]; exact h2 j v hj
theorem elem_of (hT : TOK P T) {t e : TypeId} {ti : TI} (ht : kget T t = some ti) (hk : ti.kind = .slice e) : P.underlying t = some (.slice e) := by
  obtain ⟨d, hd, h⟩ := chk_desc (hT t ti ht)
  rw [hk] at h
  cases d <;> simp [kfits] at h
  subst h; exact hd
/-- The address of an element. -/
theorem r_index (hT : TOK P T) {q : Md} {l : List Oper} {o : Oper} {r : List Oper} {d : Nat} {t e : TypeId} {ti te : TI} {x y : Operand} {b off m c : Nat} {kk : IntKind} {i : Int}
    (hw : wantE l tm o = some true) (ho : o.dst = some d) (hn : Nat.blt d F.n.z = true) (hop : o.op = .indexAddr t x y) (ht : kget T t = some ti) (hk : ti.kind = .slice e) (he : kget T e = some te)
    (hx : ev tm x = some (.v (.slice (some ⟨b, off, none⟩) m c))) (hy : ev tm y = some (.v (.int kk i))) (h0 : 0 ≤ i) (h1 : i < m)
    (next : Run P Q F ((d, .v (.pointer (some ⟨b, off + i.toNat * te.size, none⟩))) :: tm) L u q l r) : Run P Q F tm L u q l (o :: r) := by
  refine op_pure hw ho hn (fun β a w ht' hd => ⟨?_, rfl⟩) next
  have hu := run_und (elem_of hT ht hk) w
  simp [execOp, hop, ev_ok ht' hx, ev_ok ht' hy, SV.den, Instr.indexAt, asIntOf, hu, run_size (hT e te he), h0, h1]
  simp only [Addr.add]; split <;> simp_all
/-- The same, the index a count. -/
theorem r_indexN (hT : TOK P T) {q : Md} {l : List Oper} {o : Oper} {r : List Oper} {d : Nat} {t e : TypeId} {ti te : TI} {x y : Operand} {b off m c : Nat} {kk : IntKind} {i : Nat}
    (hw : wantE l tm o = some true) (ho : o.dst = some d) (hn : Nat.blt d F.n.z = true) (hop : o.op = .indexAddr t x y) (ht : kget T t = some ti) (hk : ti.kind = .slice e) (he : kget T e = some te)
    (hx : ev tm x = some (.v (.slice (some ⟨b, off, none⟩) m c))) (hy : ev tm y = some (.v (.int kk (i : Int)))) (h1 : i < m)
    (next : Run P Q F ((d, .v (.pointer (some ⟨b, off + i * te.size, none⟩))) :: tm) L u q l r) : Run P Q F tm L u q l (o :: r) :=
  r_index hT hw ho hn hop ht hk he hx hy (Int.natCast_nonneg i) (by omega) (by simpa using next)
def svl (agg : Bool) (cs : List Value) : Option SV :=
  match agg with
  | true => match svs cs with
    | some l => some (.ag l)
    | none => none
  | false => match cs with
    | v :: _ => some (.v v)
    | [] => none
  where
  svs : List Value → Option (List SV)
    | [] => some []
    | v :: r => match svs r with
      | some l => some (.v v :: l)
      | none => none
theorem svs_eq (β : Nat → Nat) (L : Lm) : ∀ {cs : List Value} {l : List SV}, svl.svs cs = some l → SV.dens β l = cs ∧ SV.oks L l = true
  | [], l, h => by simp only [svl.svs, Option.some.injEq] at h; subst h; exact ⟨rfl, rfl⟩
  | v :: r, l, h => by
    simp only [svl.svs] at h
    split at h
    · rename_i l' hl
      have e := Option.some.inj h; subst e
      obtain ⟨h1, h2⟩ := svs_eq β L hl
      exact ⟨by simp [SV.dens, SV.den, h1], by simp [SV.oks, SV.ok, h2]⟩
    · cases h
/-- A load from beyond the frame: at the place o lie cs; the variable begins f cells on. -/
theorem r_load (hT : TOK P T) {q : Md} {l : List Oper} {op : Oper} {r : List Oper} {d : Nat} {t : TypeId} {ti : TI} {x : Operand} {b o o' f : Nat} {cs ds ds' : List Value} {s : SV} (hat : At u b o cs)
    (hw : wantE l tm op = some true) (hdst : op.dst = some d) (hn : Nat.blt d F.n.z = true) (hop : op.op = .load t x) (hx : ev tm x = some (.v (.pointer (some ⟨b, o', none⟩)))) (hoo : o' = o + f) (ht : kget T t = some ti)
    (hds : dropE f cs = some ds) (hds' : takeE ti.size ds = some ds') (hs : svl ti.kind.agg ds' = some s) (h1 : Nat.beq ti.size 0 = false)
    (next : Run P Q F ((d, s) :: tm) L u q l r) : Run P Q F tm L u q l (op :: r) := by
  have hne : ti.size ≠ 0 := Nat.ne_of_beq_eq_false h1
  obtain ⟨e1, rfl⟩ := dropE_eq _ _ _ hds
  obtain ⟨e2, rfl⟩ := takeE_eq _ _ _ hds'
  subst hoo
  have hcl : ∀ j v, ((cs.drop f).take ti.size)[j]? = some v → cs[f + j]? = some v := fun j v hj => by
    simp only [List.getElem?_take, List.getElem?_drop] at hj
    split at hj
    · exact hj
    · cases hj
  have hlen : ((cs.drop f).take ti.size).length = ti.size := by simp at e2 ⊢; omega
  have hok : s.ok L = true := by
    unfold svl at hs
    split at hs
    · split at hs
      · rename_i l' hl; have e := Option.some.inj hs; subst e; exact (svs_eq (fun _ => 0) L hl).2
      · cases hs
    · split at hs
      · have e := Option.some.inj hs; subst e; rfl
      · cases hs
  refine op_pure hw hdst hn (fun β a w ht' hd => ⟨?_, hok⟩) next
  have hat' := hat.sub f hcl
  have hchk := hT t ti ht
  have hrun : (loadVar t ⟨b, o + f, none⟩).run P w = .ok (s.den β) w := by
    unfold loadVar
    rw [Sem.run_bind, run_agg hchk]
    simp only [Result.andThen_ok]
    unfold svl at hs
    split at hs
    · rename_i hagg
      split at hs
      · rename_i l' hl
        have e := Option.some.inj hs; subst e
        simp only [hagg, if_true, Sem.run_bind, run_size hchk, Result.andThen_ok]
        have := run_loadCells_list (P := P) w ⟨b, o + f, none⟩ ((cs.drop f).take ti.size) (fun j v hj => by
          have : (⟨b, o + f, none⟩ : Addr).add j = ⟨b, o + f + j, none⟩ := by simp only [Addr.add]; split <;> simp_all
          rw [this]; exact hat'.cell hd hj)
        rw [hlen] at this
        rw [this]
        simp [SV.den, (svs_eq β L hl).1]
      · cases hs
    · rename_i hagg
      split at hs
      · rename_i v vs hv
        have e := Option.some.inj hs; subst e
        have := hat'.cell hd (j := 0) (v := v) (by rw [hv]; rfl)
        simp only [Nat.add_zero] at this
        simp only [hagg, Bool.false_eq_true, if_false, run_load, this, SV.den]
      · cases hs
  simp [execOp, hop, ev_ok ht' hx, SV.den, Instr.loadAt, Instr.sureAddr, hrun]
/-- A store beyond the frame. -/
theorem r_store (hT : TOK P T) {l : List Oper} {op : Oper} {r : List Oper} {t e : TypeId} {ti : TI} {x y : Operand} {b o : Nat} {arr : Array Value} {s : SV} {cs : List SV} {vs : List Value}
    (hw : wantE l tm op = some true) (hdst : op.dst = none) (hop : op.op = .store t x y) (hx : ev tm x = some (.v (.pointer (some ⟨b, o, none⟩)))) (hy : ev tm y = some s) (ht : kget T t = some ti)
    (hc : cellsE ti.kind.agg s = some cs) (hl : lenIs cs ti.size = true) (ho1 : onesE cs = true) (hv : valsE L cs = some vs) (hb : u b = some (.cells arr e (0, 0))) (hlt : o + ti.size ≤ arr.size)
    (next : Run P Q F tm L (upd u b (.cells (setL arr.toList o vs).toArray e (0, 0))) .seq l r) : Run P Q F tm L u .seq l (op :: r) := by
  refine op_skip hw hdst (fun β a w hf ht' hd => ?_) next
  obtain ⟨g1, g2⟩ := cellsE_ok (β := β) hc (ev_oks ht' hy)
  have hvs := valsE_den hd.bn hv
  have hlen := lenIs_eq hl
  have hlen' : vs.length = ti.size := by rw [← hvs, dens_map]; simpa using hlen
  obtain ⟨w', hr, hu⟩ := run_storeVar (P := P) (off := o) (vs := vs) (hT t ti ht) (hd.ext b _ hb).1 (by rw [g1, hvs]) hlen' (by omega) (by rw [← hvs]; exact onesE_ok β ho1)
  refine ⟨β, w', ?_, hf, ht', den_ext_set hd hb hu⟩
  simp [execOp, hop, ev_ok ht' hx, ev_ok ht' hy, SV.den, Instr.storeAt, Instr.sureAddr, hr]
end
end Go.Sy
