/- The walk by a symbolic frame: maps, structs compared and built, blocks lent to a call. -/
import Derived.Test.YtkamfnmbidnhdaaDoorSqAF
set_option linter.unusedVariables false
set_option linter.unusedSimpArgs false
set_option linter.unusedSectionVars false
namespace Go.Sy
set_option linter.unusedVariables false
set_option linter.unusedSimpArgs false
set_option linter.unusedSectionVars false
open Go.ChangeMaps
section
variable {P : Program} {T : List (Nat × TI)} {F : Fr} {tm : Tm} {L : Lm} {u : Hp} {n : FN} {N : World} {β : Nat → Nat} {k : Hp} {a : Act} {w : World} {Q : Exit → Act → World → Prop} {κ : Type} [DecidableEq κ] {ke : κ → Value}
/-- Block g is a map that holds just m. -/
def MAt (P : Program) (ke : κ → Value) (u : Hp) (g : Nat) (m : List (κ × Int)) : Prop := ∃ o, u g = some o ∧ ∀ w : World, w.heap[g]? = some o → IMap P ke w g m
theorem MAt.same {u' : Hp} {g : Nat} {m : List (κ × Int)} (h : MAt P ke u g m) (hu : u' g = u g) : MAt P ke u' g m := let ⟨o, h1, h2⟩ := h; ⟨o, hu.trans h1, h2⟩
theorem MAt.le {u' : Hp} {g : Nat} {m : List (κ × Int)} (h : MAt P ke u g m) (hu : Le u u') : MAt P ke u' g m := let ⟨o, h1, h2⟩ := h; ⟨o, hu _ _ h1, h2⟩
theorem MAt.made (P : Program) (ke : κ → Value) (u : Hp) (g : Nat) : MAt P ke (upd u g (.map #[] 0)) g [] :=
  ⟨_, upd_here .., fun w hw => ⟨by simp, #[], 0, hw, by simp, by simp, by simp⟩⟩
theorem MAt.imap (hd : Den β L u k N w) {g : Nat} {m : List (κ × Int)} (h : MAt P ke u g m) : IMap P ke w g m := let ⟨o, h1, h2⟩ := h; h2 w (hd.ext g o h1).1
theorem upd_setBlock {g : Nat} {o o' : Obj} (hg : w.heap[g]? = some o) : Upd1 w (setBlock w g o') g o' :=
  ⟨by simp [setBlock], by have := (Array.getElem?_eq_some_iff.1 hg).1; simp [setBlock, this], fun x hx => setBlock_other hx o', rfl, rfl, rfl, Nat.le_refl _⟩
theorem mat_new {g : Nat} {m : List (κ × Int)} {o o' : Obj} (hg : w.heap[g]? = some o) (h : IMap P ke (setBlock w g o') g m) : MAt P ke (upd u g o') g m :=
  ⟨o', upd_here .., fun w' hw' => h.move (hw'.trans (upd_setBlock (o' := o') hg).here.symm)⟩
/-- make(map..) -/
theorem r_mkmap {l : List Oper} {o : Oper} {r : List Oper} {d : Nat} {t : TypeId} (hw : wantE l tm o = some true) (ho : o.dst = some d) (hn : Nat.blt d F.n.z = true) (hop : o.op = .makeMap t none)
    (next : ∀ g, u g = none → Run P Q F ((d, .v (.map (some g))) :: tm) L (upd u g (.map #[] 0)) .seq l r) : Run P Q F tm L u .seq l (o :: r) := by
  refine op_any hw ho hn (fun β a w hf ht' hd => ?_)
  refine ⟨β, w.alloc (.map #[] 0), .v (.map (some w.heap.size)), L, _, ?_, hf, ht', den_ext_new hd (w' := w.alloc (.map #[] 0)) rfl ⟨rfl, rfl, rfl, Nat.le_refl _⟩, rfl, next w.heap.size hd.fresh⟩
  simp [execOp, hop, Instr.makeMap, newObj, Sem.run, SV.den]
/-- m[k] -/
theorem r_look {q : Md} {l : List Oper} {o : Oper} {r : List Oper} {d : Nat} {t kt e : TypeId} {x y : Operand} {g : Nat} {s : SV} {m : List (κ × Int)} (K : KeyOps P kt ke) (key : κ) (hM : MAt P ke u g m) (ht : P.underlying t = some (.map kt e)) (hz : ∀ u : World, (zeroValue e).run P u = .ok (.int .i64 0) u)
    (hw : wantE l tm o = some true) (ho : o.dst = some d) (hn : Nat.blt d F.n.z = true) (hop : o.op = .lookup t x y false) (hx : ev tm x = some (.v (.map (some g)))) (hy : ev tm y = some s) (hs : valE L s = some (ke key))
    (next : Run P Q F ((d, .v (.int .i64 (mget m key))) :: tm) L u q l r) : Run P Q F tm L u q l (o :: r) := by
  refine op_pure hw ho hn (fun β a w ht' hd => ⟨?_, rfl⟩) next
  have := (hM.imap hd).lookup K ht hz key false
  simp [execOp, hop, ev_ok ht' hx, ev_ok ht' hy, valE_den hd.bn hs, SV.den, this]
/-- v, ok := m[k] -/
theorem r_lookok {q : Md} {l : List Oper} {o : Oper} {r : List Oper} {d : Nat} {t kt e : TypeId} {x y : Operand} {g : Nat} {s : SV} {m : List (κ × Int)} (K : KeyOps P kt ke) (key : κ) (hM : MAt P ke u g m) (ht : P.underlying t = some (.map kt e)) (hz : ∀ u : World, (zeroValue e).run P u = .ok (.int .i64 0) u)
    (hw : wantE l tm o = some true) (ho : o.dst = some d) (hn : Nat.blt d F.n.z = true) (hop : o.op = .lookup t x y true) (hx : ev tm x = some (.v (.map (some g)))) (hy : ev tm y = some s) (hs : valE L s = some (ke key))
    (next : Run P Q F ((d, .tu [.v (.int .i64 (mget m key)), .v (.bool (mhas m key))]) :: tm) L u q l r) : Run P Q F tm L u q l (o :: r) := by
  refine op_pure hw ho hn (fun β a w ht' hd => ⟨?_, rfl⟩) next
  have := (hM.imap hd).lookup K ht hz key true
  simp [execOp, hop, ev_ok ht' hx, ev_ok ht' hy, valE_den hd.bn hs, SV.den, SV.dens, this]
/-- m[k] = v -/
theorem r_mapset {l : List Oper} {o : Oper} {r : List Oper} {t kt e : TypeId} {x y z : Operand} {g : Nat} {s : SV} {v : Int} {m : List (κ × Int)} (K : KeyOps P kt ke) (key : κ) (hM : MAt P ke u g m) (ht : P.underlying t = some (.map kt e))
    (hw : wantE l tm o = some true) (ho : o.dst = none) (hop : o.op = .mapUpdate t x y z ∨ o.op = .insert t x y z) (hx : ev tm x = some (.v (.map (some g)))) (hy : ev tm y = some s) (hs : valE L s = some (ke key)) (hv : ev tm z = some (.v (.int .i64 v)))
    (next : ∀ u', MAt P ke u' g (mset m key v) → (∀ x, x ≠ g → u' x = u x) → Run P Q F tm L u' .seq l r) : Run P Q F tm L u .seq l (o :: r) := by
  refine op_any_skip hw ho (fun β a w hf ht' hd => ?_)
  have hM' := hM
  obtain ⟨o0, h1, _⟩ := hM'
  have hg := (hd.ext g o0 h1).1
  obtain ⟨o', h2, h3⟩ := (MAt.imap hd hM).update K ht key v
  refine ⟨β, setBlock w g o', L, upd u g o', ?_, hf, ht', den_ext_set hd h1 (upd_setBlock hg), next _ (mat_new hg h3) (fun x hx => upd_ne hx)⟩
  rcases hop with hop | hop <;> simp [execOp, hop, ev_ok ht' hx, ev_ok ht' hy, ev_ok ht' hv, valE_den hd.bn hs, SV.den, h2]
/-- The stamp of an entry: between its making and the store. -/
def Stamp (P : Program) (ke : κ → Value) (u : Hp) (t : TypeId) (g : Nat) (m : List (κ × Int)) (key : κ) (st : Nat) : Prop :=
  ∃ o, u g = some o ∧ ∀ (w : World) (v : Int), w.heap[g]? = some o → ∃ o', (Instr.entryStore t (.map (some g)) (goInt st) (.int .i64 v)).run P w = .ok () (setBlock w g o') ∧ IMap P ke (setBlock w g o') g (mset m key v)
/-- m[k] op= v: the entry -/
theorem r_entry {l : List Oper} {o : Oper} {r : List Oper} {d : Nat} {t kt e : TypeId} {x y : Operand} {g : Nat} {s : SV} {m : List (κ × Int)} (K : KeyOps P kt ke) (key : κ) (hM : MAt P ke u g m) (ht : P.underlying t = some (.map kt e)) (hz : ∀ u : World, (zeroValue e).run P u = .ok (.int .i64 0) u)
    (hw : wantE l tm o = some true) (ho : o.dst = some d) (hn : Nat.blt d F.n.z = true) (hop : o.op = .mapEntry t x y) (hx : ev tm x = some (.v (.map (some g)))) (hy : ev tm y = some s) (hs : valE L s = some (ke key))
    (next : ∀ u' st m', Stamp P ke u' t g m key st → MAt P ke u' g m' → mget m' key = mget m key → (∀ x, x ≠ g → u' x = u x) → Run P Q F ((d, .tu [.v (.int .i64 (mget m key)), .v (.int .i64 (st : Int))]) :: tm) L u' .seq l r) : Run P Q F tm L u .seq l (o :: r) := by
  refine op_any hw ho hn (fun β a w hf ht' hd => ?_)
  have hM' := hM
  obtain ⟨o0, h1, _⟩ := hM'
  have hg := (hd.ext g o0 h1).1
  obtain ⟨st, o', h2, h3, ⟨m', h4, h5⟩, h6⟩ := (MAt.imap hd hM).entry K ht hz key
  refine ⟨β, setBlock w g o', .tu [.v (.int .i64 (mget m key)), .v (.int .i64 (st : Int))], L, upd u g o', ?_, hf, ht', den_ext_set hd h1 (upd_setBlock hg), rfl, next _ st m' ⟨o', upd_here .., h6⟩ (mat_new hg h4) h5 (fun x hx => upd_ne hx)⟩
  simp [execOp, hop, ev_ok ht' hx, ev_ok ht' hy, valE_den hd.bn hs, SV.den, SV.dens, h2, goInt]
theorem r_estore {l : List Oper} {o : Oper} {r : List Oper} {t : TypeId} {x y z : Operand} {g st : Nat} {v : Int} {m : List (κ × Int)} (key : κ) (hS : Stamp P ke u t g m key st)
    (hw : wantE l tm o = some true) (ho : o.dst = none) (hop : o.op = .entryStore t x y z) (hx : ev tm x = some (.v (.map (some g)))) (hy : ev tm y = some (.v (.int .i64 (st : Int)))) (hv : ev tm z = some (.v (.int .i64 v)))
    (next : ∀ u', MAt P ke u' g (mset m key v) → (∀ x, x ≠ g → u' x = u x) → Run P Q F tm L u' .seq l r) : Run P Q F tm L u .seq l (o :: r) := by
  refine op_any_skip hw ho (fun β a w hf ht' hd => ?_)
  obtain ⟨o0, h1, h2⟩ := hS
  have hg := (hd.ext g o0 h1).1
  obtain ⟨o', h3, h4⟩ := h2 w v hg
  refine ⟨β, setBlock w g o', L, upd u g o', ?_, hf, ht', den_ext_set hd h1 (upd_setBlock hg), next _ (mat_new hg h4) (fun x hx => upd_ne hx)⟩
  simp only [goInt] at h3
  simp [execOp, hop, ev_ok ht' hx, ev_ok ht' hy, ev_ok ht' hv, SV.den, h3]
/-- Structs compared. -/
theorem r_eqs {q : Md} {l : List Oper} {o : Oper} {r : List Oper} {d : Nat} {op : BinOp} {t t' : TypeId} {x y : Operand} {cs ds : List SV} {xs ys : List Value} {b : Bool} (heq : ∀ w, (Op.equalIn Op.maxDepth t (.agg xs.toArray) (.agg ys.toArray)).run P w = .ok b w) (hg : P.eqGuardType P.depth t = false)
    (hb : op = .eql ∨ op = .neq) (hw : wantE l tm o = some true) (ho : o.dst = some d) (hn : Nat.blt d F.n.z = true) (hop : o.op = .binOp op t x y t') (hx : ev tm x = some (.ag cs)) (hy : ev tm y = some (.ag ds)) (hxs : valsE L cs = some xs) (hys : valsE L ds = some ys)
    (next : Run P Q F ((d, .v (.bool (match op with | .eql => b | _ => !b))) :: tm) L u q l r) : Run P Q F tm L u q l (o :: r) := by
  refine op_pure hw ho hn (fun β a w ht' hd => ⟨?_, rfl⟩) next
  have h1 : a.eval x = .agg xs.toArray := by rw [ev_ok ht' hx, SV.den, valsE_den hd.bn hxs]
  have h2 : a.eval y = .agg ys.toArray := by rw [ev_ok ht' hy, SV.den, valsE_den hd.bn hys]
  have hg' : (eqGuard op t x y (.agg xs.toArray) (.agg ys.toArray)).run P w = .ok () w := by
    rcases hb with rfl | rfl <;> simp [eqGuard, program, Sem.run, hg]
  rcases hb with rfl | rfl <;> simp [execOp, hop, h1, h2, hg', binOp, Op.equal, heq w, SV.den]
/-- a struct built -/
def buildE (T : List (Nat × TI)) (tm : Tm) (fs : List (Nat × Nat × Bool)) : List SV → List (Nat × Operand) → Option (List SV)
  | cs, [] => some cs
  | cs, (i, x) :: r => match nth fs i with
    | some (o, sz, g) => match ev tm x with
      | some s => match cellsE g s with
        | some vs => match lenIs vs sz with
          | true => match setE cs o vs with
            | some cs' => buildE T tm fs cs' r
            | none => none
          | false => none
        | none => none
      | none => none
    | none => none
theorem buildE_fill {T : List (Nat × TI)} {fs : List (Nat × Nat × Bool)} {places : Array (Nat × Nat)} (hp : ∀ i o sz g, nth fs i = some (o, sz, g) → places[i]? = some (o, sz)) (ht : RelT n L β tm a) : ∀ {ps : List (Nat × Operand)} {cs r : List SV}, buildE T tm fs cs ps = some r → SV.oks L cs = true →
    Instr.fill (places[·]?) (SV.dens β cs).toArray (ps.map fun p => (p.1, a.eval p.2)) = some (SV.dens β r).toArray ∧ SV.oks L r = true
  | [], cs, r, h, hk => by simp only [buildE, Option.some.injEq] at h; subst h; exact ⟨rfl, hk⟩
  | (i, x) :: ps, cs, r, h, hk => by
    simp only [buildE] at h
    split at h
    · rename_i o sz g hn
      split at h
      · rename_i s hs
        split at h
        · rename_i vs hvs
          split at h
          · rename_i hl
            split at h
            · rename_i cs' hset
              obtain ⟨g1, g2⟩ := cellsE_ok (β := β) hvs (ev_oks ht hs)
              obtain ⟨e1, rfl⟩ := setE_eq _ _ _ _ hset
              have hok : SV.oks L (setL cs o vs) = true := by
                rw [oks_all] at *
                refine List.all_eq_true.2 fun y hy => ?_
                simp only [setL, List.mem_append] at hy
                rcases hy with hy | hy | hy
                · exact List.all_eq_true.1 hk y (List.mem_of_mem_take hy)
                · exact List.all_eq_true.1 g2 y hy
                · exact List.all_eq_true.1 hk y (List.mem_of_mem_drop hy)
              obtain ⟨i1, i2⟩ := buildE_fill hp ht h hok
              refine ⟨?_, i2⟩
              have hlen : (SV.dens β vs).length = sz := by rw [dens_map]; simpa using lenIs_eq hl
              have hc : (a.eval x).cells = (SV.dens β vs).toArray := by rw [ev_ok ht hs, g1]
              have hs1 : ((a.eval x).cells.size ≠ sz || o + (a.eval x).cells.size > (SV.dens β cs).toArray.size) = false := by
                rw [hc]
                have : o + vs.length ≤ cs.length := e1
                simp [dens_map]
                have := lenIs_eq hl
                omega
              simp only [List.map_cons, Instr.fill, hp i o sz g hn, hs1, Bool.false_eq_true, if_false]
              have hz : (a.eval x).cells.zipIdx.foldl (fun cs (x : Value × Nat) => cs.setIfInBounds (o + x.2) x.1) (SV.dens β cs).toArray = (SV.dens β (setL cs o vs)).toArray := by
                rw [hc]
                have := fold_set (SV.dens β cs) o (SV.dens β vs) 0 (by simp [dens_map]; exact e1)
                simp only [Nat.add_zero] at this
                have h3 : SV.dens β (setL cs o vs) = setL (SV.dens β cs) o (SV.dens β vs) := by simp [dens_map, setL]
                rw [h3, ← this, ← Array.foldl_toList]
                simp
              rw [hz]; exact i1
            · cases h
          · cases h
        · cases h
      · cases h
    · cases h
theorem places_run {fields : Array Field} (h : ∀ (i : Nat) (fd : Field), fields[i]? = some fd → cells1 P fd.type ≠ 0) : (fields.mapM (m := Sem) fun f => do pure (f.offset, ← sizeOf f.type)).run P w = .ok (fields.map fun f => (f.offset, cells1 P f.type)) w := by
  have key : ∀ (l : List Field), (∀ fd ∈ l, cells1 P fd.type ≠ 0) → (l.mapM (m := Sem) fun f => do pure (f.offset, ← sizeOf f.type)).run P w = .ok (l.map fun f => (f.offset, cells1 P f.type)) w := by
    intro l
    induction l with
    | nil => intro _; simp
    | cons f l ih =>
      intro hl
      have h1 : (sizeOf f.type).run P w = .ok (cells1 P f.type) w := by
        have := hl f (.head _)
        unfold cells1 at this ⊢
        cases hi : P.info? f.type with
        | none => simp [hi] at this
        | some i => simp [sizeOf, typeInfo, program, Sem.run, hi]
      have h2 := ih (fun fd hfd => hl fd (.tail _ hfd))
      simp only [List.mapM_cons, Sem.run_bind, h1, Result.andThen_ok, Sem.run_pure, h2, List.map_cons]
  have := key fields.toList (fun fd hfd => by
    obtain ⟨i, hi, e⟩ := List.getElem_of_mem hfd
    exact h i fd (by rw [← e]; simp at hi ⊢))
  obtain ⟨fl⟩ := fields
  rw [List.mapM_toArray, Sem.run_map, this]
  simp
theorem r_build (hT : TOK P T) {q : Md} {l : List Oper} {o : Oper} {r : List Oper} {d : Nat} {t : TypeId} {ti : TI} {fs : List (Nat × Nat × Bool)} {ps : List (Nat × Operand)} {z cs : List SV} (hw : wantE l tm o = some true) (ho : o.dst = some d) (hn : Nat.blt d F.n.z = true)
    (hop : o.op = .build t ps.toArray) (ht : kget T t = some ti) (hk : ti.kind = .struct fs) (hz : zcells ti.zero = some z) (hcs : buildE T tm fs z ps = some cs) (hnz : (fs.all fun x => !Nat.beq x.2.1 0) = true)
    (next : Run P Q F ((d, .ag cs) :: tm) L u q l r) : Run P Q F tm L u q l (o :: r) := by
  refine op_pure hw ho hn (fun β a w ht' hd => ?_) next
  obtain ⟨d2, e2, f2⟩ := desc_of hT ht
  rw [hk] at f2
  cases d2 with
  | struct fields =>
    simp only [kfits, decide_eq_true_eq] at f2
    have hplace : ∀ (i o sz : Nat) (g : Bool), nth fs i = some (o, sz, g) → (fields.map fun f => (f.offset, cells1 P f.type))[i]? = some (o, sz) := fun i o sz g h => by
      rw [nth_eq, f2] at h
      simp only [List.getElem?_map, Array.getElem?_toList] at h
      obtain ⟨fd, h1, h2⟩ := Option.map_eq_some_iff.1 h
      simp only [Prod.mk.injEq] at h2
      simp [h1, h2.1, h2.2.1]
    have hne : ∀ (i : Nat) (fd : Field), fields[i]? = some fd → cells1 P fd.type ≠ 0 := fun i fd h e => by
      have h1 : nth fs i = some (fd.offset, cells1 P fd.type, isAggB P fd.type) := by rw [nth_eq, f2]; simp [h]
      rw [nth_eq] at h1
      have := List.all_eq_true.1 hnz _ (List.mem_of_getElem? h1)
      simp [e] at this
    obtain ⟨zv, hzv, hzc⟩ := run_zero (hT t ti ht) w
    obtain ⟨g1, g2⟩ := zcells_eq β L hz
    obtain ⟨i1, i2⟩ := buildE_fill (T := T) hplace ht' hcs g2
    refine ⟨?_, i2⟩
    have hparts : (ps.toArray.map fun p => (p.1, a.eval p.2)).toList = ps.map fun p => (p.1, a.eval p.2) := by simp
    rw [g1, ← hzc] at i1
    simp only [execOp, hop, Instr.build, Sem.run_bind, hzv, Result.andThen_ok, run_und e2, places_run hne, hparts]
    rw [i1]
    simp [SV.den]
  | _ => simp [kfits] at f2
end
end Go.Sy
/- The walk by a symbolic frame: a block of the frame handed to the heap at large; calls of functions with captures. -/
namespace Go.Sy
set_option linter.unusedVariables false
set_option linter.unusedSectionVars false
mutual
/-- Block i by its number. -/
def SV.pub (i b : Nat) : SV → SV
  | .v x => .v x
  | .p j off => match Nat.beq i j with
    | true => .v (.pointer (some ⟨b, off, none⟩))
    | false => .p j off
  | .ag cs => .ag (SV.pubs i b cs)
  | .tu cs => .tu (SV.pubs i b cs)
  | .fn f x y => .fn f (SV.pubs i b x) (SV.pubs i b y)
def SV.pubs (i b : Nat) : List SV → List SV
  | [] => []
  | s :: r => s.pub i b :: SV.pubs i b r
end
def pubT (i b : Nat) : Tm → Tm
  | [] => []
  | (t, s) :: r => (t, s.pub i b) :: pubT i b r
def pubL (i b : Nat) : Lm → Lm
  | [] => []
  | (j, B) :: r => match Nat.beq i j with
    | true => pubL i b r
    | false => (j, ⟨B.name, SV.pubs i b B.cells, B.ty⟩) :: pubL i b r
theorem pubT_get {i b : Nat} : ∀ {tm : Tm} {t : Nat} {s : SV}, kget (pubT i b tm) t = some s → ∃ s0, kget tm t = some s0 ∧ s = s0.pub i b
  | [], t, s, h => by simp [pubT, kget] at h
  | (j, s') :: r, t, s, h => by
    simp only [pubT, kget_cons] at h ⊢
    split at h
    · rename_i e; rw [if_pos e]; exact ⟨s', rfl, (Option.some.inj h).symm⟩
    · rename_i e; rw [if_neg e]; exact pubT_get h
theorem pubL_get {i b : Nat} : ∀ {L : Lm} {j : Nat} {B : Blk}, kget (pubL i b L) j = some B → j ≠ i ∧ ∃ B0, kget L j = some B0 ∧ B = ⟨B0.name, SV.pubs i b B0.cells, B0.ty⟩
  | [], j, B, h => by simp [pubL, kget] at h
  | (x, B') :: r, j, B, h => by
    simp only [pubL] at h
    split at h
    · rename_i e
      have e := Nat.eq_of_beq_eq_true e
      obtain ⟨h1, B0, h2, h3⟩ := pubL_get h
      refine ⟨h1, B0, ?_, h3⟩
      rw [kget_cons, if_neg (by omega)]; exact h2
    · rename_i e
      have e := Nat.ne_of_beq_eq_false e
      rw [kget_cons] at h
      split at h
      · rename_i e'
        refine ⟨by omega, B', ?_, (Option.some.inj h).symm⟩
        rw [kget_cons, if_pos e']
      · rename_i e'
        obtain ⟨h1, B0, h2, h3⟩ := pubL_get h
        exact ⟨h1, B0, by rw [kget_cons, if_neg e']; exact h2, h3⟩
theorem pubL_has {i b : Nat} : ∀ {L : Lm} {j : Nat}, j ≠ i → (kget L j).isSome = true → (kget (pubL i b L) j).isSome = true
  | [], j, _, h => by simp [kget] at h
  | (x, B') :: r, j, hj, h => by
    rw [kget_cons] at h
    simp only [pubL]
    split
    · rename_i e
      have e := Nat.eq_of_beq_eq_true e
      rw [if_neg (by omega)] at h
      exact pubL_has hj h
    · rw [kget_cons]
      split
      · rfl
      · rename_i e'; rw [if_neg e'] at h; exact pubL_has hj h
mutual
theorem pub_den {β : Nat → Nat} {i b : Nat} (h : β i = b) : ∀ s : SV, (s.pub i b).den β = s.den β
  | .v x => rfl
  | .p j off => by
    simp only [SV.pub]
    split
    · rename_i e; have e := Nat.eq_of_beq_eq_true e; subst e; simp only [SV.den, h]
    · rfl
  | .ag cs => by simp only [SV.pub, SV.den, pubs_den h cs]
  | .tu cs => by simp only [SV.pub, SV.den, pubs_den h cs]
  | .fn f x y => by simp only [SV.pub, SV.den, pubs_den h x, pubs_den h y]
theorem pubs_den {β : Nat → Nat} {i b : Nat} (h : β i = b) : ∀ l : List SV, SV.dens β (SV.pubs i b l) = SV.dens β l
  | [] => rfl
  | s :: r => by simp only [SV.pubs, SV.dens, pub_den h s, pubs_den h r]
end
mutual
theorem pub_ok {L : Lm} {i b : Nat} : ∀ s : SV, s.ok L = true → (s.pub i b).ok (pubL i b L) = true
  | .v x, _ => rfl
  | .p j off, h => by
    simp only [SV.pub]
    split
    · rfl
    · rename_i e; exact pubL_has (fun e' => Nat.ne_of_beq_eq_false e e'.symm) h
  | .ag cs, h => by simp only [SV.pub, SV.ok] at *; exact pubs_ok cs h
  | .tu cs, h => by simp only [SV.pub, SV.ok] at *; exact pubs_ok cs h
  | .fn f x y, h => by simp only [SV.pub, SV.ok, Bool.and_eq_true] at *; exact ⟨pubs_ok x h.1, pubs_ok y h.2⟩
theorem pubs_ok {L : Lm} {i b : Nat} : ∀ l : List SV, SV.oks L l = true → SV.oks (pubL i b L) (SV.pubs i b l) = true
  | [], _ => rfl
  | s :: r, h => by simp only [SV.pubs, SV.oks, Bool.and_eq_true] at *; exact ⟨pub_ok s h.1, pubs_ok r h.2⟩
end
section
variable {P : Program} {T : List (Nat × TI)} {F : Fr} {tm : Tm} {L : Lm} {u : Hp} {n : FN} {N : World} {β : Nat → Nat} {k : Hp} {a : Act} {w : World} {Q : Exit → Act → World → Prop}
theorem St.pub {Φ : Act → World → Prop} (i : Nat) {B : Blk} {vs : List Value} (hK : F.K = []) (hB : kget L i = some B) (hv : valsE [] B.cells = some vs)
    (next : ∀ b, u b = none → St F (pubT i b tm) (pubL i b L) (upd u b (.cells vs.toArray B.ty (0, 0))) Φ) (hD : F.n.D = [] := by rfl) : St F tm L u Φ := by
  intro β a w hf ht hd
  obtain ⟨h1, h2, h3⟩ := hd.loc i B hB
  have hi : (kget L i).isSome = true := by rw [hB]; rfl
  have hu : u (β i) = none := by
    cases h : u (β i) with
    | none => rfl
    | some o => exact absurd rfl ((hd.ext _ o h).2 i hi)
  rw [valsE_den (L := []) (fun j B b h => by simp [kget] at h) hv] at h1
  refine next (β i) hu β a w (fun j hj => by rw [hK] at hj; cases hj) ⟨ht.size, ht.defers, by rw [hD]; rfl, fun t s hs => ?_⟩ ⟨fun j B' hB' => ?_, fun x y hx hy => ?_, fun x o hx => ?_, fun x o hx => ⟨(hd.hid x o hx).1, ?_, fun j hj => ?_⟩, hd.size⟩
  · obtain ⟨s0, g1, rfl⟩ := pubT_get hs
    rw [pub_den rfl]
    exact ⟨(ht.get t s0 g1).1, pub_ok s0 (ht.get t s0 g1).2⟩
  · obtain ⟨_, B0, g1, rfl⟩ := pubL_get hB'
    obtain ⟨x1, x2, x3⟩ := hd.loc j B0 g1
    exact ⟨by rw [pubs_den rfl]; exact x1, x2, pubs_ok _ x3⟩
  · obtain ⟨Bx, hBx⟩ := Option.isSome_iff_exists.1 hx
    obtain ⟨By, hBy⟩ := Option.isSome_iff_exists.1 hy
    obtain ⟨_, _, g1, _⟩ := pubL_get hBx
    obtain ⟨_, _, g2, _⟩ := pubL_get hBy
    exact hd.inj x y (by rw [g1]; rfl) (by rw [g2]; rfl)
  · have hne : ∀ j, (kget (pubL i (β i) L) j).isSome = true → j ≠ i ∧ (kget L j).isSome = true := fun j hj => by
      obtain ⟨Bj, hBj⟩ := Option.isSome_iff_exists.1 hj
      obtain ⟨g0, _, g1, _⟩ := pubL_get hBj
      exact ⟨g0, by rw [g1]; rfl⟩
    by_cases hxb : x = β i
    · subst hxb
      rw [upd_here] at hx; have e := Option.some.inj hx; subst e
      exact ⟨h1, fun j hj e => (hne j hj).1 (hd.inj j i (hne j hj).2 hi e)⟩
    · rw [upd_ne hxb] at hx
      exact ⟨(hd.ext x o hx).1, fun j hj => (hd.ext x o hx).2 j (hne j hj).2⟩
  · rw [upd_ne (fun e => (hd.hid x o hx).2.2 i hi e.symm)]; exact (hd.hid x o hx).2.1
  · obtain ⟨Bj, hBj⟩ := Option.isSome_iff_exists.1 hj
    obtain ⟨_, _, g1, _⟩ := pubL_get hBj
    exact (hd.hid x o hx).2.2 j (by rw [g1]; rfl)
def vsv : List Value → List SV
  | [] => []
  | v :: r => .v v :: vsv r
theorem vsv_den (β : Nat → Nat) : ∀ l : List Value, SV.dens β (vsv l) = l
  | [] => rfl
  | v :: r => by simp only [vsv, SV.dens, SV.den, vsv_den β r]
/-- A function value with captures, read from the heap. -/
def calleeV (tm : Tm) (c : Call) : Option (FuncId × List SV) :=
  match c.callee with
  | .value x => match ev tm x with
    | some (.v (.func (.func f) ⟨[]⟩ ⟨b⟩)) => match evs tm c.args.toList with
      | some l => some (f, l ++ vsv b)
      | none => none
    | _ => none
  | _ => none
theorem calleeV_ok {o : Oper} {c : Call} {f : FuncId} {svs : List SV} (hop : o.op = .call c) (h : calleeV tm c = some (f, svs)) (hc : callable P f = true) (ht : RelT n L β tm a) :
    (execOp a.eval o).run P w = .ok (.enter f (SV.dens β svs).toArray) w := by
  unfold callable at hc
  split at hc
  · rename_i fn hfn
    simp only [Bool.and_eq_true, Bool.not_eq_true', beq_eq_false_iff_ne, ne_eq] at hc
    have hcall : ∀ args, (callFunc f args).run P w = .ok (.enter f args) w := fun args => by
      obtain ⟨cd, h2⟩ := Option.isSome_iff_exists.1 hc.2
      simp [callFunc, program, Sem.run, hfn, hc.1, h2]
    unfold calleeV at h
    split at h
    · rename_i x hx
      have hargs : ∀ l, evs tm c.args.toList = some l → c.args.map a.eval = (SV.dens β l).toArray := fun l hl => by
        rw [← (evs_ok ht hl).1]; exact Array.toList_inj.1 (by simp)
      split at h
      · rename_i f' b hv
        split at h
        · rename_i l hl
          have e := Option.some.inj h
          simp only [Prod.mk.injEq] at e
          obtain ⟨rfl, rfl⟩ := e
          have hb : SV.dens β (l ++ vsv b) = SV.dens β l ++ b := by rw [dens_map, List.map_append, ← dens_map, ← dens_map, vsv_den]
          simp [execOp, hop, resolve, hx, ev_ok ht hv, SV.den, Deferred.ofValue, hargs l hl, invoke, hcall, hb]
        · cases h
      · cases h
    · cases h
  · cases hc
theorem r_callV {l : List Oper} {o : Oper} {r : List Oper} {d : Nat} {c : Call} {f : FuncId} {svs args : List SV} {vs : List Value} {Y : Type} {val : Y → SV} {ψ : Y → Hp → Prop}
    (htri : TriS P f args [] u val (fun _ => []) ψ) (hw : wantE l tm o = some true) (ho : o.dst = some d) (hn : Nat.blt d F.n.z = true) (hop : o.op = .call c) (hcal : calleeV tm c = some (f, svs)) (hc : callable P f = true) (hvs' : valsE [] args = some vs) (hvs : valsE L svs = some vs)
    (next : ∀ y u', ψ y u' → Run P Q F ((d, val y) :: tm) L u' .seq l r) : Run P Q F tm L u .seq l (o :: r) := by
  intro β a w hf ht hd
  show (if _ then _ else _)
  rw [if_pos (wantE_ok hw ht)]
  refine .inl ?_
  unfold Oper.wp
  rw [calleeV_ok hop hcal hc ht, Oper.upon_enter, valsE_den hd.bn hvs]
  refine (htri List.nodup_nil (fun b hb => by simp [names] at hb) vs u hvs' rfl _ _ w (den0_of hd)).mono ?_
  rintro e w' ⟨v, h'', rfl, ⟨y, h', h1, h2, h3, h4⟩, h5⟩
  simp only [addsE, Option.some.injEq] at h2; subst h2
  have hk : (val y).ok [] = true := valE_ok h1
  have hk' : (val y).ok L = true := ok_more (fun i hi => by simp [kget] at hi) _ hk
  have hv : (val y).den β = v := valE_den (L := []) (fun i B b hB => by simp [kget] at hB) h1
  simp only [ho, ← hv]
  exact next y h' h4 β _ w' hf (put_rel hn ht hk') (den_back hd h5)
/-- What is not S's stays, and becomes not S''s. -/
def Keep (u : Hp) (S : Nat → Prop) (u' : Hp) (S' : Nat → Prop) : Prop := ∀ x o, u x = some o → ¬ S x → u' x = some o ∧ ¬ S' x
theorem Keep.refl (u : Hp) (S : Nat → Prop) : Keep u S u S := fun x o h hs => ⟨h, hs⟩
theorem Keep.trans {u v z : Hp} {S S' S'' : Nat → Prop} (h : Keep u S v S') (g : Keep v S' z S'') : Keep u S z S'' := fun x o hx hs => let ⟨a, b⟩ := h x o hx hs; g x o a b
theorem Keep.le {u v h : Hp} {S S' : Nat → Prop} (k : Keep u S v S') (hl : Le h u) (hs : ∀ b, S b → h b = none) : Le h v ∧ ∀ b, S' b → h b = none := by
  have key : ∀ b o, h b = some o → v b = some o ∧ ¬ S' b := fun b o hb => k b o (hl b o hb) (fun hS => by rw [hs b hS] at hb; cases hb)
  refine ⟨fun b o hb => (key b o hb).1, fun b hb => ?_⟩
  cases hh : h b with
  | none => rfl
  | some o => exact absurd hb (key b o hh).2
theorem Grown.keep {u u' : Hp} {A A' : Option Addr} (h : Grown u u' A A') : Keep u (fun b => blk A = some b) u' (fun b => blk A' = some b) := fun x o hx hs => by
  obtain ⟨h1, h2⟩ := h (fun y => if y = x then some o else none) (fun b o' hb => by
    simp only at hb; split at hb
    · rename_i e; subst e; rw [← Option.some.inj hb]; exact hx
    · cases hb) (fun b hb => by
    simp only; split
    · rename_i e; subst e; exact absurd hb hs
    · rfl)
  refine ⟨h1 x o (by simp), fun hb => ?_⟩
  have := h2 x hb
  simp at this
end
end Go.Sy
/- The walk by a symbolic frame: guards. -/
namespace Go.Sy
set_option linter.unusedVariables false
def guardE (l : List Oper) (o : Oper) : Option Nat :=
  match o.guard with
  | some (j, _) => match nth l j with
    | some oj => oj.dst
    | none => none
  | none => none
section
variable {P : Program} {F : Fr} {tm : Tm} {L : Lm} {u : Hp} {Q : Exit → Act → World → Prop}
theorem q_guard {q : Md} {l r : List Oper} {o : Oper} {d : Nat} {p : Prop} [Decidable p] (hg : guardE l o = some d) (hd : kget tm d = some (.v (.bool (decide p)))) (h1 : p → Run P Q F ((d, .v (.bool true)) :: tm) L u q l (o :: r)) (h2 : ¬ p → Run P Q F ((d, .v (.bool false)) :: tm) L u q l (o :: r)) :
    Run P Q F tm L u q l (o :: r) := q_case d hd (fun h => h1 (of_decide_eq_true h)) (fun h => h2 (of_decide_eq_false h))
theorem q_guardn {q : Md} {l r : List Oper} {o : Oper} {d : Nat} {p : Prop} [Decidable p] (hg : guardE l o = some d) (hd : kget tm d = some (.v (.bool (!decide p)))) (h1 : ¬ p → Run P Q F ((d, .v (.bool true)) :: tm) L u q l (o :: r)) (h2 : p → Run P Q F ((d, .v (.bool false)) :: tm) L u q l (o :: r)) :
    Run P Q F tm L u q l (o :: r) := q_case d hd (fun h => h1 (by simpa using h)) (fun h => h2 (by simpa using h))
end
end Go.Sy
/- The walk by a symbolic frame: regions that draw their order; what is read first is read from a part of the heap that stays. -/
namespace Go.Sy
set_option linter.unusedVariables false
section
variable {P : Program} {T : List (Nat × TI)} {F : Fr} {tm : Tm} {L : Lm} {u : Hp} {β : Nat → Nat} {a : Act} {w : World} {Q : Exit → Act → World → Prop}
theorem Run.fullStill {F : Fr} {Z : Act → World → Prop} {l lo : List Oper} {β0 : Nat → Nat} {a : Act} {w : World} {u0 : Hp} (h : Run P (nf Z) F tm L u0 .still l lo) (hf : Fence F L β0) (ht : RelT F.n L β0 tm a) (hd : Den β0 L u0 F.k F.N w) :
    wpStillC P l.toArray (fun w => Den β0 L u0 F.k F.N w) (fun a' => ∀ w', Den β0 L u0 F.k F.N w' → Z a' w') lo a := h β0 a w hf ht hd
theorem wpStillC_imp {ops : Array Oper} {C : World → Prop} {K K' : Act → Prop} (hK : ∀ a, K a → K' a) : ∀ {lo : List Oper} {a : Act}, wpStillC P ops C K lo a → wpStillC P ops C K' lo a
  | [], a, h => hK a h
  | o :: r, a, h => by
    have h' : (if _ then _ else _) := h
    show (if _ then _ else _)
    split
    · rename_i hw; rw [if_pos hw] at h'; obtain ⟨v, h1, h2⟩ := h'; exact ⟨v, h1, wpStillC_imp hK h2⟩
    · rename_i hw; rw [if_neg hw] at h'; exact wpStillC_imp hK h'
theorem wpAnyC_preW {md : Region.Mode} {C : World → Prop} {pres : Nat → Bool} {Z : Act → World → Prop} {l : List Oper} (hsel : Region.noSelect l.toArray = true) (π : List Nat) (lo : List Oper) (listed : Array Bool) (a : Act) (w : World) (fuel : Nat) (h : selE l π = some lo) (hB : preB md l.toArray pres π listed = true) (hC : C w)
    (H : wpStillC P l.toArray C (fun a' => wpAnyC P md l.toArray pres C (nf Z) fuel (lst π listed) a' w) lo a) : wpAnyC P md l.toArray pres C (nf Z) (fuel + π.length) listed a w := by
  induction π generalizing lo listed a with
  | nil => simp only [selE, Option.some.injEq] at h; subst h; exact H
  | cons i r ih =>
    simp only [selE] at h
    split at h
    · rename_i o ho
      split at h
      · rename_i x hx
        have e := Option.some.inj h; subst e
        rw [nth_eq] at ho
        have ho' : l.toArray[i]? = some o := by simpa using ho
        simp only [preB, Bool.and_eq_true] at hB
        obtain ⟨⟨⟨hr, hf⟩, hp⟩, hB'⟩ := hB
        have hpre : ∀ j oj, l.toArray[j]? = some oj → pres j = false → ∃ e ∈ oj.after, Region.binds md e = true ∧ e.on = i := fun j oj hj hpj => by
          have := List.all_eq_true.1 hp j (List.mem_range.2 (Array.getElem?_eq_some_iff.1 hj).1)
          simp only [hpj, hj, Bool.false_or] at this
          obtain ⟨e, he, hb⟩ := Array.any_eq_true'.1 this
          simp only [Bool.and_eq_true, beq_iff_eq] at hb
          exact ⟨e, he, hb.1, hb.2⟩
        have key : ∀ v, Still P l.toArray C o v a → wpStillC P l.toArray C (fun a' => wpAnyC P md l.toArray pres C (nf Z) fuel (lst r (listed.setIfInBounds i true)) a' w) x (a.put o.dst v) →
            wpAnyC P md l.toArray pres C (nf Z) (fuel + (r.length + 1)) listed a w := fun v hv hK => by
          refine wpAnyC_first ho' (Region.noSelect_spec hsel) hpre (fuel + r.length) listed a w (Region.free_spec ho' hf) (by simpa using hr) hC hv ?_
          exact ih x _ _ hx hB' hK
        have H' : (if Region.wanted o (yielded l.toArray a.tmps) then _ else _) := H
        split at H'
        · rename_i hw
          obtain ⟨v, h1, h2⟩ := H'
          exact key v (.inl ⟨hw, h1⟩) h2
        · rename_i hw
          exact key undef (.inr ⟨by simpa using hw, rfl⟩) H'
      · cases h
    · cases h
/-- A region that draws its order, and has effects: π, which only reads, and that from u0, is taken first. -/
theorem r_any2 {id : Nat} {l : List Oper} (π : List Nat) (late : List Nat) (u0 : Hp) (hu : Le u0 u) {lo : List Oper} {fuel : Nat} {listed : Array Bool} (hm : P.follows .mixedOrders = true) (hsel : Region.noSelect l.toArray = true) (hlo : selE l π = some lo)
    (hB : preB .any l.toArray (fun j => !late.contains j) π (Array.replicate l.length false) = true) (hf : l.length = fuel + π.length) (hl : lst π (Array.replicate l.length false) = listed) (hK : F.K = [])
    (h : ∀ β0, Run P (nf (fun a w => Cls F L u β0 w → Ex P l (fun j => !late.contains j) (Cls F L u0 β0) (Q .normal) fuel listed a w)) (fen F L β0) tm L u0 .still l lo) : St F tm L u (fun a w => (Code.region id l.toArray true).wp P Q a w) := by
  intro β a w hfe ht hd
  refine wp_mono (wp_region_any (Q := nf (Q .normal)) hm ?_) (fun e a w hq => by cases e <;> first | exact hq | exact hq.elim)
  have hd1 : Cls F L u β { w with drawn := w.drawn + 1 } := hd.drew
  have hd' : Cls F L u0 β { w with drawn := w.drawn + 1 } := hd1.weak hu
  have hfe' : Fence (fen F L β) L β := fun i hi => ⟨rfl, keysOf_get.1 hi⟩
  refine wpAny_of_C _ _ _ _ (pres := fun j => !late.contains j) (C := Cls F L u0 β) ?_
  have := h β β a _ hfe' ht hd'
  rw [show l.toArray.size = fuel + π.length by simpa using hf]
  subst hl
  have hrep : (Array.replicate (fuel + π.length) false) = Array.replicate l.length false := by rw [hf]
  rw [hrep]
  refine wpAnyC_preW hsel π lo _ a _ fuel hlo hB hd' (wpStillC_imp (fun a' h' => h' _ hd' hd1) this)
theorem Den.moved {β' : Nat → Nat} {k : Hp} {N : World} (hb : ∀ i, (kget L i).isSome = true → β' i = β i) (hd : Den β L u k N w) : Den β' L u k N w :=
  ⟨fun i B hB => by
      obtain ⟨h1, h2, h3⟩ := hd.loc i B hB
      have hi := hb i (by rw [hB]; rfl)
      exact ⟨by rw [hi, dens_same hb _ h3]; exact h1, by rw [hi]; exact h2, h3⟩,
    fun i j hi hj e => hd.inj i j hi hj (by rw [← hb i hi, ← hb j hj]; exact e), fun b o h => ⟨(hd.ext b o h).1, fun i hi e => (hd.ext b o h).2 i hi (by rw [← hb i hi]; exact e)⟩,
    fun b o h => ⟨(hd.hid b o h).1, (hd.hid b o h).2.1, fun i hi e => (hd.hid b o h).2.2 i hi (by rw [← hb i hi]; exact e)⟩, hd.size⟩
theorem a_full {u0 : Hp} {β0 : Nat → Nat} {K : Act → World → Prop} (h : St (fen F L β0) tm L u K) : St (fen F L β0) tm L u0 (nf (fun a w => Cls F L u β0 w → K a w) .normal) := by
  intro β a w hf ht hd hc
  refine h β a w hf ht (Den.moved (fun i hi => (hf i (keysOf_get.2 hi)).1) hc)
end
end Go.Sy
namespace Go.Sy
section
variable {P : Program} {F : Fr} {tm : Tm} {L : Lm} {u : Hp}
theorem allR_nil {pres : Nat → Bool} {C : World → Prop} {Z : Act → World → Prop} {l : List Oper} {fuel : Nat} {listed : Array Bool} : AllR P F tm L u l pres C Z fuel listed [] := trivial
theorem allR_cons {pres : Nat → Bool} {C : World → Prop} {Z : Act → World → Prop} {l : List Oper} {fuel : Nat} {listed : Array Bool} {i : Nat} {r : List Nat} {o : Oper} (ho : nth l i = some o)
    (h1 : Run P (nf (NextQ P l pres C Z fuel listed i)) F tm L u .seq l [o]) (h2 : AllR P F tm L u l pres C Z fuel listed r) : AllR P F tm L u l pres C Z fuel listed (i :: r) := ⟨⟨o, ho, h1⟩, h2⟩
theorem Le.off {h u u' : Hp} {g : Nat} (hl : Le h u) (hg : h g = none) (hu : ∀ x, x ≠ g → u' x = u x) : Le h u' := fun x o hx => by
  rw [hu x (fun e => by subst e; rw [hg] at hx; cases hx)]; exact hl x o hx
end
end Go.Sy
namespace Go.Sy
def bindE (e : Edge) : Bool := match e.ground with
  | .textOnly _ => false
  | .gcOnly _ => false
  | _ => true
def getE : List Bool → Nat → Bool → Bool
  | [], _, d => d
  | b :: _, 0, _ => b
  | _ :: r, n + 1, d => getE r n d
theorem getE_eq : ∀ (l : List Bool) (i : Nat) (d : Bool), getE l i d = l[i]?.getD d
  | [], i, d => by simp [getE]
  | b :: r, 0, d => by simp [getE]
  | b :: r, n + 1, d => by simp [getE, getE_eq r n d]
def setB : List Bool → Nat → List Bool
  | [], _ => []
  | _ :: r, 0 => true :: r
  | b :: r, n + 1 => b :: setB r n
theorem setB_eq : ∀ (l : List Bool) (i : Nat), setB l i = l.set i true
  | [], i => by simp [setB]
  | b :: r, 0 => by simp [setB]
  | b :: r, n + 1 => by simp [setB, setB_eq r n]
def allE (lb : List Bool) : List Edge → Bool
  | [] => true
  | e :: r => match bindE e with
    | false => allE lb r
    | true => match getE lb e.on false with
      | true => allE lb r
      | false => false
theorem allE_eq (lb : List Bool) : ∀ es : List Edge, allE lb es = es.all fun e => !Region.binds .any e || lb.toArray.getD e.on false
  | [] => rfl
  | e :: r => by
    have hb : Region.binds .any e = bindE e := by unfold Region.binds bindE; cases e.ground <;> rfl
    have hg : lb.toArray.getD e.on false = getE lb e.on false := by rw [getE_eq, Array.getD_eq_getD_getElem?]; simp
    simp only [allE, List.all_cons, hb, hg, ← allE_eq lb r]
    cases bindE e <;> cases getE lb e.on false <;> simp
def readyGo (l : List Oper) (lb : List Bool) : List Oper → List Bool → Nat → List Nat
  | [], _, _ => []
  | o :: r, [], i => []
  | o :: r, b :: bs, i => match b with
    | true => readyGo l lb r bs (i + 1)
    | false => match allE lb o.after.toList with
      | true => i :: readyGo l lb r bs (i + 1)
      | false => readyGo l lb r bs (i + 1)
theorem readyGo_eq (l : List Oper) (lb : List Bool) : ∀ (r : List Oper) (bs : List Bool) (i : Nat), r.length = bs.length → (∀ j, (l[i + j]?) = r[j]?) → (∀ j, lb[i + j]? = bs[j]?) →
    readyGo l lb r bs i = (List.range' i r.length).filter fun i => !lb.toArray.getD i true && ((l.toArray[i]?).map (·.after.all fun e => !Region.binds .any e || lb.toArray.getD e.on false)).getD false
  | [], bs, i, h, h1, h2 => by simp [readyGo]
  | o :: r, [], i, h, h1, h2 => by simp at h
  | o :: r, b :: bs, i, h, h1, h2 => by
    have ih := readyGo_eq l lb r bs (i + 1) (by simpa using h) (fun j => by have := h1 (j + 1); simpa [Nat.add_assoc, Nat.add_comm 1] using this) (fun j => by have := h2 (j + 1); simpa [Nat.add_assoc, Nat.add_comm 1] using this)
    have e1 : l[i]? = some o := by have := h1 0; simpa using this
    have e2 : lb[i]? = some b := by have := h2 0; simpa using this
    have e3 : lb.toArray.getD i true = b := by rw [Array.getD_eq_getD_getElem?]; simp [e2]
    have e4 : (o.after.all fun e => !Region.binds .any e || lb.toArray.getD e.on false) = allE lb o.after.toList := by rw [allE_eq, ← Array.all_toList]
    simp only [readyGo, List.length_cons, List.range'_succ, List.filter_cons, e3, List.getElem?_toArray, e1, Option.map_some, Option.getD_some, e4]
    cases b <;> cases allE lb o.after.toList <;> simp [ih]
theorem ready_eq {l : List Oper} {lb : List Bool} (h : l.length = lb.length) : Region.ready .any l.toArray lb.toArray = readyGo l lb l lb 0 := by
  rw [readyGo_eq l lb l lb 0 h (fun j => by simp) (fun j => by simp)]
  unfold Region.ready
  simp [List.range_eq_range']
def falses : Nat → List Bool
  | 0 => []
  | n + 1 => false :: falses n
theorem falses_eq : ∀ n, falses n = List.replicate n false
  | 0 => rfl
  | n + 1 => by simp [falses, falses_eq n, List.replicate_succ]
def lsB : List Nat → List Bool → List Bool
  | [], l => l
  | i :: r, l => lsB r (setB l i)
theorem lsB_eq : ∀ (π : List Nat) (l : List Bool), lst π l.toArray = (lsB π l).toArray
  | [], l => rfl
  | i :: r, l => by simp only [lst, lsB]; rw [← lsB_eq r]; simp [setB_eq]
section
variable {P : Program} {T : List (Nat × TI)} {F : Fr} {tm : Tm} {L : Lm} {u : Hp} {β : Nat → Nat} {a : Act} {w : World} {Q : Exit → Act → World → Prop}
abbrev ExL (P : Program) (l : List Oper) (pres : Nat → Bool) (C : World → Prop) (Z : Act → World → Prop) (fuel : Nat) (lb : List Bool) : Act → World → Prop := Ex P l pres C Z fuel lb.toArray
theorem r_many {id : Nat} {l : List Oper} (π : List Nat) (late : List Nat) (u0 : Hp) (hu : Le u0 u) {lo : List Oper} {fuel : Nat} {lb : List Bool} (hm : P.follows .mixedOrders = true) (hsel : Region.noSelect l.toArray = true) (hlo : selE l π = some lo)
    (hB : preB .any l.toArray (fun j => !late.contains j) π (Array.replicate l.length false) = true) (hf : l.length = fuel + π.length) (hl : lsB π (falses l.length) = lb) (hK : F.K = [])
    (h : ∀ β0, Run P (nf (fun a w => Cls F L u β0 w → ExL P l (fun j => !late.contains j) (Cls F L u0 β0) (Q .normal) fuel lb a w)) (fen F L β0) tm L u0 .still l lo) : St F tm L u (fun a w => (Code.region id l.toArray true).wp P Q a w) :=
  r_any2 π late u0 hu hm hsel hlo hB hf (by rw [← hl, ← lsB_eq, falses_eq]; simp) hK h
theorem m_step {pres : Nat → Bool} {C : World → Prop} {Z : Act → World → Prop} {l : List Oper} {fuel : Nat} {lb : List Bool} {rs : List Nat} (hlen : lenIs lb l.length = true) (hr : readyGo l lb l lb 0 = rs) (hne : rs ≠ []) (h : AllR P F tm L u l pres C Z fuel lb.toArray rs) :
    St F tm L u (ExL P l pres C Z (fuel + 1) lb) := a_step (by rw [ready_eq (lenIs_eq hlen).symm, hr]) hne h
theorem m_keep {L0 : Lm} {u0 : Hp} {F0 : Fr} {β0 : Nat → Nat} {pres : Nat → Bool} {Z : Act → World → Prop} {l : List Oper} {fuel : Nat} {lb lb' : List Bool} {i : Nat} (hu : Le u0 u) (hL : kall L L0) (hc : Lm.cl L0 = true) (hl : setB lb i = lb')
    (h : St (fen F0 L0 β0) tm L u (ExL P l pres (Cls F0 L0 u0 β0) Z fuel lb')) : St (fen F0 L0 β0) tm L u (nf (NextQ P l pres (Cls F0 L0 u0 β0) Z fuel lb.toArray i) .normal) :=
  a_keep hL hc hu (by rw [← hl, setB_eq]; simp) h
theorem m_late {C : World → Prop} {pres : Nat → Bool} {Z : Act → World → Prop} {l : List Oper} {fuel : Nat} {lb lb' : List Bool} {i : Nat} (hp : pres i = false) (hl : setB lb i = lb')
    (h : St F tm L u (ExL P l pres C Z fuel lb')) : St F tm L u (nf (NextQ P l pres C Z fuel lb.toArray i) .normal) := a_late hp (by rw [← hl, setB_eq]; simp) h
theorem m_end {L0 : Lm} {β0 : Nat → Nat} {C : World → Prop} {pres : Nat → Bool} {Z : Act → World → Prop} {l : List Oper} {lb : List Bool} (hlen : lenIs lb l.length = true) (hr : readyGo l lb l lb 0 = []) (hK : F.K = []) (h : St F tm L u Z) :
    St (fen F L0 β0) tm L u (ExL P l pres C Z 0 lb) := a_end (by rw [ready_eq (lenIs_eq hlen).symm, hr]) hK h
end
end Go.Sy
