/- The walk by a symbolic frame: maps, structs compared and built, blocks lent to a call. -/
import Derived.Test.YtkamfnmbidnhdaaDoorSyO
set_option linter.unusedVariables false
set_option linter.unusedSimpArgs false
set_option linter.unusedSectionVars false
namespace Go.Sy
set_option linter.unusedVariables false
set_option linter.unusedSimpArgs false
set_option linter.unusedSectionVars false
open Go.ChangeMaps
section
variable {P : Program} {T : List (Nat × TI)} {F : Fr} {tm : Tm} {L : Lm} {u : Hp} {n : FN} {N : World} {β : Nat → Nat} {k : Hp} {a : Act} {w : World} {Q : Exit → Act → World → Prop} {κ : Type} [DecidableEq κ] {ke : κ → Value}
/-- Block g is a map that holds just m. -/
def MAt (P : Program) (ke : κ → Value) (u : Hp) (g : Nat) (m : List (κ × Int)) : Prop := ∃ o, u g = some o ∧ ∀ w : World, w.heap[g]? = some o → IMap P ke w g m
theorem MAt.same {u' : Hp} {g : Nat} {m : List (κ × Int)} (h : MAt P ke u g m) (hu : u' g = u g) : MAt P ke u' g m := let ⟨o, h1, h2⟩ := h; ⟨o, hu.trans h1, h2⟩
theorem MAt.le {u' : Hp} {g : Nat} {m : List (κ × Int)} (h : MAt P ke u g m) (hu : Le u u') : MAt P ke u' g m := let ⟨o, h1, h2⟩ := h; ⟨o, hu _ _ h1, h2⟩
theorem MAt.made (P : Program) (ke : κ → Value) (u : Hp) (g : Nat) : MAt P ke (upd u g (.map #[] 0)) g [] :=
  ⟨_, upd_here .., fun w hw => ⟨by simp, #[], 0, hw, by simp, by simp, by simp⟩⟩
theorem MAt.imap (hd : Den β L u k N w) {g : Nat} {m : List (κ × Int)} (h : MAt P ke u g m) : IMap P ke w g m := let ⟨o, h1, h2⟩ := h; h2 w (hd.ext g o h1).1
theorem upd_setBlock {g : Nat} {o o' : Obj} (hg : w.heap[g]? = some o) : Upd1 w (setBlock w g o') g o' :=
  ⟨by simp [setBlock], by have := (Array.getElem?_eq_some_iff.1 hg).1; simp [setBlock, this], fun x hx => setBlock_other hx o', rfl, rfl, rfl⟩
theorem mat_new {g : Nat} {m : List (κ × Int)} {o o' : Obj} (hg : w.heap[g]? = some o) (h : IMap P ke (setBlock w g o') g m) : MAt P ke (upd u g o') g m :=
  ⟨o', upd_here .., fun w' hw' => h.move (hw'.trans (upd_setBlock (o' := o') hg).here.symm)⟩
/-- make(map..) -/
theorem r_mkmap {l : List Oper} {o : Oper} {r : List Oper} {d : Nat} {t : TypeId} (hw : wantE l tm o = some true) (ho : o.dst = some d) (hn : Nat.blt d F.n.z = true) (hop : o.op = .makeMap t none)
    (next : ∀ g, u g = none → Run P Q F ((d, .v (.map (some g))) :: tm) L (upd u g (.map #[] 0)) .seq l r) : Run P Q F tm L u .seq l (o :: r) := by
  refine op_any hw ho hn (fun β a w hf ht' hd => ?_)
  refine ⟨β, w.alloc (.map #[] 0), .v (.map (some w.heap.size)), L, _, ?_, hf, ht', den_ext_new hd (w' := w.alloc (.map #[] 0)) rfl ⟨rfl, rfl, rfl⟩, rfl, next w.heap.size hd.fresh⟩
  simp [execOp, hop, Instr.makeMap, newObj, Sem.run, SV.den]
/-- m[k] -/
theorem r_look {q : Md} {l : List Oper} {o : Oper} {r : List Oper} {d : Nat} {t kt e : TypeId} {x y : Operand} {g : Nat} {s : SV} {m : List (κ × Int)} (K : KeyOps P kt ke) (key : κ) (hM : MAt P ke u g m) (ht : P.underlying t = some (.map kt e)) (hz : ∀ u : World, (zeroValue e).run P u = .ok (.int .i64 0) u)
    (hw : wantE l tm o = some true) (ho : o.dst = some d) (hn : Nat.blt d F.n.z = true) (hop : o.op = .lookup t x y false) (hx : ev tm x = some (.v (.map (some g)))) (hy : ev tm y = some s) (hs : valE L s = some (ke key))
    (next : Run P Q F ((d, .v (.int .i64 (mget m key))) :: tm) L u q l r) : Run P Q F tm L u q l (o :: r) := by
  refine op_pure hw ho hn (fun β a w ht' hd => ⟨?_, rfl⟩) next
  have := (hM.imap hd).lookup K ht hz key false
  simp [execOp, hop, ev_ok ht' hx, ev_ok ht' hy, valE_den hd.bn hs, SV.den, this]
/-- v, ok := m[k] -/
theorem r_lookok {q : Md} {l : List Oper} {o : Oper} {r : List Oper} {d : Nat} {t kt e : TypeId} {x y : Operand} {g : Nat} {s : SV} {m : List (κ × Int)} (K : KeyOps P kt ke) (key : κ) (hM : MAt P ke u g m) (ht : P.underlying t = some (.map kt e)) (hz : ∀ u : World, (zeroValue e).run P u = .ok (.int .i64 0) u)
    (hw : wantE l tm o = some true) (ho : o.dst = some d) (hn : Nat.blt d F.n.z = true) (hop : o.op = .lookup t x y true) (hx : ev tm x = some (.v (.map (some g)))) (hy : ev tm y = some s) (hs : valE L s = some (ke key))
    (next : Run P Q F ((d, .tu [.v (.int .i64 (mget m key)), .v (.bool (mhas m key))]) :: tm) L u q l r) : Run P Q F tm L u q l (o :: r) := by
  refine op_pure hw ho hn (fun β a w ht' hd => ⟨?_, rfl⟩) next
  have := (hM.imap hd).lookup K ht hz key true
  simp [execOp, hop, ev_ok ht' hx, ev_ok ht' hy, valE_den hd.bn hs, SV.den, SV.dens, this]
/-- m[k] = v -/
theorem r_mapset {l : List Oper} {o : Oper} {r : List Oper} {t kt e : TypeId} {x y z : Operand} {g : Nat} {s : SV} {v : Int} {m : List (κ × Int)} (K : KeyOps P kt ke) (key : κ) (hM : MAt P ke u g m) (ht : P.underlying t = some (.map kt e))
    (hw : wantE l tm o = some true) (ho : o.dst = none) (hop : o.op = .mapUpdate t x y z ∨ o.op = .insert t x y z) (hx : ev tm x = some (.v (.map (some g)))) (hy : ev tm y = some s) (hs : valE L s = some (ke key)) (hv : ev tm z = some (.v (.int .i64 v)))
    (next : ∀ u', MAt P ke u' g (mset m key v) → (∀ x, x ≠ g → u' x = u x) → Run P Q F tm L u' .seq l r) : Run P Q F tm L u .seq l (o :: r) := by
  refine op_any_skip hw ho (fun β a w hf ht' hd => ?_)
  have hM' := hM
  obtain ⟨o0, h1, _⟩ := hM'
  have hg := (hd.ext g o0 h1).1
  obtain ⟨o', h2, h3⟩ := (MAt.imap hd hM).update K ht key v
  refine ⟨β, setBlock w g o', L, upd u g o', ?_, hf, ht', den_ext_set hd h1 (upd_setBlock hg), next _ (mat_new hg h3) (fun x hx => upd_ne hx)⟩
  rcases hop with hop | hop <;> simp [execOp, hop, ev_ok ht' hx, ev_ok ht' hy, ev_ok ht' hv, valE_den hd.bn hs, SV.den, h2]
/-- The stamp of an entry: between its making and the store. -/
def Stamp (P : Program) (ke : κ → Value) (u : Hp) (t : TypeId) (g : Nat) (m : List (κ × Int)) (key : κ) (st : Nat) : Prop :=
  ∃ o, u g = some o ∧ ∀ (w : World) (v : Int), w.heap[g]? = some o → ∃ o', (Instr.entryStore t (.map (some g)) (goInt st) (.int .i64 v)).run P w = .ok () (setBlock w g o') ∧ IMap P ke (setBlock w g o') g (mset m key v)
/-- m[k] op= v: the entry -/
theorem r_entry {l : List Oper} {o : Oper} {r : List Oper} {d : Nat} {t kt e : TypeId} {x y : Operand} {g : Nat} {s : SV} {m : List (κ × Int)} (K : KeyOps P kt ke) (key : κ) (hM : MAt P ke u g m) (ht : P.underlying t = some (.map kt e)) (hz : ∀ u : World, (zeroValue e).run P u = .ok (.int .i64 0) u)
    (hw : wantE l tm o = some true) (ho : o.dst = some d) (hn : Nat.blt d F.n.z = true) (hop : o.op = .mapEntry t x y) (hx : ev tm x = some (.v (.map (some g)))) (hy : ev tm y = some s) (hs : valE L s = some (ke key))
    (next : ∀ u' st m', Stamp P ke u' t g m key st → MAt P ke u' g m' → mget m' key = mget m key → (∀ x, x ≠ g → u' x = u x) → Run P Q F ((d, .tu [.v (.int .i64 (mget m key)), .v (.int .i64 (st : Int))]) :: tm) L u' .seq l r) : Run P Q F tm L u .seq l (o :: r) := by
  refine op_any hw ho hn (fun β a w hf ht' hd => ?_)
  have hM' := hM
  obtain ⟨o0, h1, _⟩ := hM'
  have hg := (hd.ext g o0 h1).1
  obtain ⟨st, o', h2, h3, ⟨m', h4, h5⟩, h6⟩ := (MAt.imap hd hM).entry K ht hz key
  refine ⟨β, setBlock w g o', .tu [.v (.int .i64 (mget m key)), .v (.int .i64 (st : Int))], L, upd u g o', ?_, hf, ht', den_ext_set hd h1 (upd_setBlock hg), rfl, next _ st m' ⟨o', upd_here .., h6⟩ (mat_new hg h4) h5 (fun x hx => upd_ne hx)⟩
  simp [execOp, hop, ev_ok ht' hx, ev_ok ht' hy, valE_den hd.bn hs, SV.den, SV.dens, h2, goInt]
theorem r_estore {l : List Oper} {o : Oper} {r : List Oper} {t : TypeId} {x y z : Operand} {g st : Nat} {v : Int} {m : List (κ × Int)} (key : κ) (hS : Stamp P ke u t g m key st)
    (hw : wantE l tm o = some true) (ho : o.dst = none) (hop : o.op = .entryStore t x y z) (hx : ev tm x = some (.v (.map (some g)))) (hy : ev tm y = some (.v (.int .i64 (st : Int)))) (hv : ev tm z = some (.v (.int .i64 v)))
    (next : ∀ u', MAt P ke u' g (mset m key v) → (∀ x, x ≠ g → u' x = u x) → Run P Q F tm L u' .seq l r) : Run P Q F tm L u .seq l (o :: r) := by
  refine op_any_skip hw ho (fun β a w hf ht' hd => ?_)
  obtain ⟨o0, h1, h2⟩ := hS
  have hg := (hd.ext g o0 h1).1
  obtain ⟨o', h3, h4⟩ := h2 w v hg
  refine ⟨β, setBlock w g o', L, upd u g o', ?_, hf, ht', den_ext_set hd h1 (upd_setBlock hg), next _ (mat_new hg h4) (fun x hx => upd_ne hx)⟩
  simp only [goInt] at h3
  simp [execOp, hop, ev_ok ht' hx, ev_ok ht' hy, ev_ok ht' hv, SV.den, h3]
/-- Structs compared. -/
theorem r_eqs {q : Md} {l : List Oper} {o : Oper} {r : List Oper} {d : Nat} {op : BinOp} {t t' : TypeId} {x y : Operand} {cs ds : List SV} {xs ys : List Value} {b : Bool} (heq : ∀ w, (Op.equalIn Op.maxDepth t (.agg xs.toArray) (.agg ys.toArray)).run P w = .ok b w) (hg : P.eqGuardType P.depth t = false)
    (hb : op = .eql ∨ op = .neq) (hw : wantE l tm o = some true) (ho : o.dst = some d) (hn : Nat.blt d F.n.z = true) (hop : o.op = .binOp op t x y t') (hx : ev tm x = some (.ag cs)) (hy : ev tm y = some (.ag ds)) (hxs : valsE L cs = some xs) (hys : valsE L ds = some ys)
    (next : Run P Q F ((d, .v (.bool (match op with | .eql => b | _ => !b))) :: tm) L u q l r) : Run P Q F tm L u q l (o :: r) := by
  refine op_pure hw ho hn (fun β a w ht' hd => ⟨?_, rfl⟩) next
  have h1 : a.eval x = .agg xs.toArray := by rw [ev_ok ht' hx, SV.den, valsE_den hd.bn hxs]
  have h2 : a.eval y = .agg ys.toArray := by rw [ev_ok ht' hy, SV.den, valsE_den hd.bn hys]
  have hg' : (eqGuard op t x y (.agg xs.toArray) (.agg ys.toArray)).run P w = .ok () w := by
    rcases hb with rfl | rfl <;> simp [eqGuard, program, Sem.run, hg]
  rcases hb with rfl | rfl <;> simp [execOp, hop, h1, h2, hg', binOp, Op.equal, heq w, SV.den]
/-- a struct built -/
def buildE (T : List (Nat × TI)) (tm : Tm) (fs : List (Nat × Nat × Bool)) : List SV → List (Nat × Operand) → Option (List SV)
  | cs, [] => some cs
  | cs, (i, x) :: r => match nth fs i with
    | some (o, sz, g) => match ev tm x with
      | some s => match cellsE g s with
        | some vs => match lenIs vs sz with
          | true => match setE cs o vs with
            | some cs' => buildE T tm fs cs' r
            | none => none
          | false => none
        | none => none
      | none => none
    | none => none
theorem buildE_fill {T : List (Nat × TI)} {fs : List (Nat × Nat × Bool)} {places : Array (Nat × Nat)} (hp : ∀ i o sz g, nth fs i = some (o, sz, g) → places[i]? = some (o, sz)) (ht : RelT n L β tm a) : ∀ {ps : List (Nat × Operand)} {cs r : List SV}, buildE T tm fs cs ps = some r → SV.oks L cs = true →
    Instr.fill (places[·]?) (SV.dens β cs).toArray (ps.map fun p => (p.1, a.eval p.2)) = some (SV.dens β r).toArray ∧ SV.oks L r = true
  | [], cs, r, h, hk => by simp only [buildE, Option.some.injEq] at h; subst h; exact ⟨rfl, hk⟩
  | (i, x) :: ps, cs, r, h, hk => by
    simp only [buildE] at h
    split at h
    · rename_i o sz g hn
      split at h
      · rename_i s hs
        split at h
        · rename_i vs hvs
          split at h
          · rename_i hl
            split at h
            · rename_i cs' hset
              obtain ⟨g1, g2⟩ := cellsE_ok (β := β) hvs (ev_oks ht hs)
              obtain ⟨e1, rfl⟩ := setE_eq _ _ _ _ hset
              have hok : SV.oks L (setL cs o vs) = true := by
                rw [oks_all] at *
                refine List.all_eq_true.2 fun y hy => ?_
                simp only [setL, List.mem_append] at hy
                rcases hy with hy | hy | hy
                · exact List.all_eq_true.1 hk y (List.mem_of_mem_take hy)
                · exact List.all_eq_true.1 g2 y hy
                · exact List.all_eq_true.1 hk y (List.mem_of_mem_drop hy)
              obtain ⟨i1, i2⟩ := buildE_fill hp ht h hok
              refine ⟨?_, i2⟩
              have hlen : (SV.dens β vs).length = sz := by rw [dens_map]; simpa using lenIs_eq hl
              have hc : (a.eval x).cells = (SV.dens β vs).toArray := by rw [ev_ok ht hs, g1]
              have hs1 : ((a.eval x).cells.size ≠ sz || o + (a.eval x).cells.size > (SV.dens β cs).toArray.size) = false := by
                rw [hc]
                have : o + vs.length ≤ cs.length := e1
                simp [dens_map]
                have := lenIs_eq hl
                omega
              simp only [List.map_cons, Instr.fill, hp i o sz g hn, hs1, Bool.false_eq_true, if_false]
              have hz : (a.eval x).cells.zipIdx.foldl (fun cs (x : Value × Nat) => cs.setIfInBounds (o + x.2) x.1) (SV.dens β cs).toArray = (SV.dens β (setL cs o vs)).toArray := by
                rw [hc]
                have := fold_set (SV.dens β cs) o (SV.dens β vs) 0 (by simp [dens_map]; exact e1)
                simp only [Nat.add_zero] at this
                have h3 : SV.dens β (setL cs o vs) = setL (SV.dens β cs) o (SV.dens β vs) := by simp [dens_map, setL]
                rw [h3, ← this, ← Array.foldl_toList]
                simp
              rw [hz]; exact i1
            · cases h
          · cases h
        · cases h
      · cases h
    · cases h
theorem places_run {fields : Array Field} (h : ∀ (i : Nat) (fd : Field), fields[i]? = some fd → cells1 P fd.type ≠ 0) : (fields.mapM (m := Sem) fun f => do pure (f.offset, ← sizeOf f.type)).run P w = .ok (fields.map fun f => (f.offset, cells1 P f.type)) w := by
  have key : ∀ (l : List Field), (∀ fd ∈ l, cells1 P fd.type ≠ 0) → (l.mapM (m := Sem) fun f => do pure (f.offset, ← sizeOf f.type)).run P w = .ok (l.map fun f => (f.offset, cells1 P f.type)) w := by
    intro l
    induction l with
    | nil => intro _; simp
    | cons f l ih =>
      intro hl
      have h1 : (sizeOf f.type).run P w = .ok (cells1 P f.type) w := by
        have := hl f (.head _)
        unfold cells1 at this ⊢
        cases hi : P.info? f.type with
        | none => simp [hi] at this
        | some i => simp [sizeOf, typeInfo, program, Sem.run, hi]
      have h2 := ih (fun fd hfd => hl fd (.tail _ hfd))
      simp only [List.mapM_cons, Sem.run_bind, h1, Result.andThen_ok, Sem.run_pure, h2, List.map_cons]
  have := key fields.toList (fun fd hfd => by
    obtain ⟨i, hi, e⟩ := List.getElem_of_mem hfd
    exact h i fd (by rw [← e]; simp at hi ⊢))
  obtain ⟨fl⟩ := fields
  rw [List.mapM_toArray, Sem.run_map, this]
  simp
theorem r_build (hT : TOK P T) {q : Md} {l : List Oper} {o : Oper} {r : List Oper} {d : Nat} {t : TypeId} {ti : TI} {fs : List (Nat × Nat × Bool)} {ps : List (Nat × Operand)} {z cs : List SV} (hw : wantE l tm o = some true) (ho : o.dst = some d) (hn : Nat.blt d F.n.z = true)
    (hop : o.op = .build t ps.toArray) (ht : kget T t = some ti) (hk : ti.kind = .struct fs) (hz : zcells ti.zero = some z) (hcs : buildE T tm fs z ps = some cs) (hnz : (fs.all fun x => !Nat.beq x.2.1 0) = true)
    (next : Run P Q F ((d, .ag cs) :: tm) L u q l r) : Run P Q F tm L u q l (o :: r) := by
  refine op_pure hw ho hn (fun β a w ht' hd => ?_) next
  obtain ⟨d2, e2, f2⟩ := desc_of hT ht
  rw [hk] at f2
  cases d2 with
  | struct fields =>
    simp only [kfits, decide_eq_true_eq] at f2
    have hplace : ∀ (i o sz : Nat) (g : Bool), nth fs i = some (o, sz, g) → (fields.map fun f => (f.offset, cells1 P f.type))[i]? = some (o, sz) := fun i o sz g h => by
      rw [nth_eq, f2] at h
      simp only [List.getElem?_map, Array.getElem?_toList] at h
      obtain ⟨fd, h1, h2⟩ := Option.map_eq_some_iff.1 h
      simp only [Prod.mk.injEq] at h2
      simp [h1, h2.1, h2.2.1]
    have hne : ∀ (i : Nat) (fd : Field), fields[i]? = some fd → cells1 P fd.type ≠ 0 := fun i fd h e => by
      have h1 : nth fs i = some (fd.offset, cells1 P fd.type, isAggB P fd.type) := by rw [nth_eq, f2]; simp [h]
      rw [nth_eq] at h1
      have := List.all_eq_true.1 hnz _ (List.mem_of_getElem? h1)
      simp [e] at this
    obtain ⟨zv, hzv, hzc⟩ := run_zero (hT t ti ht) w
    obtain ⟨g1, g2⟩ := zcells_eq β L hz
    obtain ⟨i1, i2⟩ := buildE_fill (T := T) hplace ht' hcs g2
    refine ⟨?_, i2⟩
    have hparts : (ps.toArray.map fun p => (p.1, a.eval p.2)).toList = ps.map fun p => (p.1, a.eval p.2) := by simp
    rw [g1, ← hzc] at i1
    simp only [execOp, hop, Instr.build, Sem.run_bind, hzv, Result.andThen_ok, run_und e2, places_run hne, hparts]
    rw [i1]
    simp [SV.den]
  | _ => simp [kfits] at f2
end
end Go.Sy
