/- The walk by a symbolic frame: blocks of the call's own: made, boxed, written. -/
import Derived.Test.YtkamfnmbidnhdaaDoorSqAA
set_option linter.unusedVariables false
set_option linter.unusedSimpArgs false
set_option linter.unusedSectionVars false
namespace Go.Sy
/-- One cell. -/
def one : Value → Bool
  | .agg _ => false
  | .tuple _ => false
  | _ => true
/-- w' is w but for block b, which holds o. -/
structure Upd1 (w w' : World) (b : Nat) (o : Obj) : Prop where
  size : w'.heap.size = w.heap.size
  here : w'.heap[b]? = some o
  other : ∀ x, x ≠ b → w'.heap[x]? = w.heap[x]?
  env : w'.os = w.os ∧ w'.tape = w.tape ∧ w'.output = w.output ∧ w.drawn ≤ w'.drawn
theorem Ge.upd {N w w' : World} {b : Nat} {o : Obj} (h : Ge N w) (hw : Upd1 w w' b o) : Ge N w' :=
  ⟨by rw [hw.size]; exact h.size, hw.env.1.trans h.os, hw.env.2.1.trans h.tape, hw.env.2.2.1.trans h.output, Nat.le_trans h.drawn hw.env.2.2.2⟩
def setL {α : Type} (cs : List α) (off : Nat) (vs : List α) : List α := cs.take off ++ (vs ++ cs.drop (off + vs.length))
theorem setL_nil {α : Type} (cs : List α) (off : Nat) : setL cs off [] = cs := by simp [setL]
theorem setL_cons {α : Type} (cs : List α) (off : Nat) (v : α) (vs : List α) (h : off < cs.length) : setL cs off (v :: vs) = setL (cs.set off v) (off + 1) vs := by
  simp only [setL]
  have e1 : (cs.set off v).take (off + 1) = cs.take off ++ [v] := by
    rw [List.take_set, List.take_succ_eq_append_getElem h, List.set_append_right _ _ (by simp; omega)]
    simp [Nat.min_eq_left (Nat.le_of_lt h)]
  rw [e1, List.drop_set_of_lt (by omega)]
  simp [Nat.add_assoc, Nat.add_comm 1]
theorem setL_length {α : Type} (cs : List α) (off : Nat) (vs : List α) (h : off + vs.length ≤ cs.length) : (setL cs off vs).length = cs.length := by
  simp [setL]; omega
theorem setL_get {α : Type} (cs : List α) (off : Nat) (vs : List α) (h : off + vs.length ≤ cs.length) (j : Nat) :
    (setL cs off vs)[j]? = if off ≤ j ∧ j < off + vs.length then vs[j - off]? else cs[j]? := by
  simp only [setL]
  by_cases h1 : j < off
  · rw [List.getElem?_append_left (by simp; omega), if_neg (by omega)]; simp [h1]
  · rw [List.getElem?_append_right (by simp; omega)]
    have : (cs.take off).length = off := by simp; omega
    rw [this]
    by_cases h2 : j < off + vs.length
    · rw [List.getElem?_append_left (by omega), if_pos (by omega)]
    · rw [List.getElem?_append_right (by omega), if_neg (by omega)]
      simp; congr 1; omega
section
variable {P : Program} {w : World}
theorem heap_setCell {b off : Nat} {cs : Array Value} {t : TypeId} (v : Value) (h : w.heap[b]? = some (.cells cs t (0, 0))) :
    Upd1 w (w.setCell ⟨b, off, none⟩ v) b (.cells (cs.setIfInBounds off v) t (0, 0)) := by
  refine ⟨by simp [World.setCell], ?_, fun x hx => ?_, rfl, rfl, rfl, Nat.le_refl _⟩
  · simp [World.setCell, Array.getElem?_modify, h]
  · simp only [World.setCell, Array.getElem?_modify]; rw [if_neg (fun e => hx e.symm)]
theorem not_frozen {b off : Nat} {cs : Array Value} {t : TypeId} (h : w.heap[b]? = some (.cells cs t (0, 0))) : w.frozen? ⟨b, off, none⟩ = false := by simp [World.frozen?, h]
theorem run_store_at {b off : Nat} {cs : Array Value} {t : TypeId} {v : Value} (h : w.heap[b]? = some (.cells cs t (0, 0))) (ho : off < cs.size) (h1 : one v = true) :
    (store ⟨b, off, none⟩ v).run P w = .ok () (w.setCell ⟨b, off, none⟩ v) := by
  have hc : w.cell? ⟨b, off, none⟩ = some cs[off] := by rw [cell_of h]; simp [ho]
  cases v <;> first | (simp [one] at h1; done) | simp [store, Sem.run, hc, not_frozen h]
theorem run_storeCells {b : Nat} (off : Nat) {t : TypeId} : ∀ (vs : List Value) (i : Nat) (w : World) (cs : Array Value), w.heap[b]? = some (.cells cs t (0, 0)) → off + i + vs.length ≤ cs.size → (∀ v ∈ vs, one v = true) →
    ∃ w', (storeCells ⟨b, off, none⟩ vs i).run P w = .ok () w' ∧ Upd1 w w' b (.cells (setL cs.toList (off + i) vs).toArray t (0, 0))
  | [], i, w, cs, h, _, _ => ⟨w, by simp [storeCells], rfl, by simp [setL_nil, h], fun _ _ => rfl, rfl, rfl, rfl, Nat.le_refl _⟩
  | v :: vs, i, w, cs, h, hl, h1 => by
    simp only [List.length_cons] at hl
    have ha : (⟨b, off, none⟩ : Addr).add i = ⟨b, off + i, none⟩ := by simp only [Addr.add]; split <;> simp_all
    have hu := heap_setCell (off := off + i) v h
    obtain ⟨w', hr, hw'⟩ := run_storeCells off vs (i + 1) (w.setCell ⟨b, off + i, none⟩ v) (cs.setIfInBounds (off + i) v) hu.here (by simp; omega) (fun x hx => h1 x (.tail _ hx))
    refine ⟨w', ?_, hw'.size.trans hu.size, ?_, fun x hx => (hw'.other x hx).trans (hu.other x hx), hw'.env.1.trans hu.env.1, hw'.env.2.1.trans hu.env.2.1, hw'.env.2.2.1.trans hu.env.2.2.1, Nat.le_trans hu.env.2.2.2 hw'.env.2.2.2⟩
    · simp only [storeCells, Sem.run_bind, ha, run_store_at h (by omega : off + i < cs.size) (h1 v (.head _)), Result.andThen_ok, hr]
    · rw [hw'.here, setL_cons _ _ _ _ (by simp; omega)]; simp [Nat.add_assoc]
theorem run_storeVar {b off : Nat} {t t' : TypeId} {ti : TI} {cs : Array Value} {v : Value} {vs : List Value} (hc : chk P t ti = true) (h : w.heap[b]? = some (.cells cs t' (0, 0))) (hv : v.cells = vs.toArray)
    (hs : vs.length = ti.size) (hl : off + vs.length ≤ cs.size) (h1 : ∀ v ∈ vs, one v = true) :
    ∃ w', (storeVar t ⟨b, off, none⟩ v).run P w = .ok () w' ∧ Upd1 w w' b (.cells (setL cs.toList off vs).toArray t' (0, 0)) := by
  obtain ⟨w', hr, hu⟩ := run_storeCells (P := P) off vs 0 w cs h hl h1
  refine ⟨w', ?_, hu⟩
  simp [storeVar, run_size hc, hv, hs, hr]
end
def setE : List SV → Nat → List SV → Option (List SV)
  | l, 0, [] => some l
  | _ :: l, 0, y :: ys => match setE l 0 ys with
    | some r => some (y :: r)
    | none => none
  | x :: l, n + 1, ys => match setE l n ys with
    | some r => some (x :: r)
    | none => none
  | [], _, _ => none
theorem setE_eq : ∀ (l : List SV) (n : Nat) (ys r : List SV), setE l n ys = some r → n + ys.length ≤ l.length ∧ r = setL l n ys
  | l, 0, [], r, h => by simp [setE] at h; subst h; simp [setL_nil]
  | x :: l, 0, y :: ys, r, h => by
    simp only [setE] at h
    split at h
    · rename_i r' hr
      obtain ⟨h1, h2⟩ := setE_eq l 0 ys r' hr
      have h' := Option.some.inj h; subst h'; subst h2
      exact ⟨by simp at h1 ⊢; omega, by simp [setL]⟩
    · cases h
  | x :: l, n + 1, ys, r, h => by
    simp only [setE] at h
    split at h
    · rename_i r' hr
      obtain ⟨h1, h2⟩ := setE_eq l n ys r' hr
      have h' := Option.some.inj h; subst h'; subst h2
      refine ⟨by simp at h1 ⊢; omega, ?_⟩
      simp only [setL, List.take_succ_cons, List.cons_append]
      rw [show n + 1 + ys.length = (n + ys.length) + 1 by omega, List.drop_succ_cons]
    · cases h
  | [], 0, y :: ys, r, h => by simp [setE] at h
  | [], n + 1, ys, r, h => by simp [setE] at h
def ksetE {α : Type} : List (Nat × α) → Nat → α → Option (List (Nat × α))
  | [], _, _ => none
  | (k, s) :: r, t, x => match Nat.beq k t with
    | true => some ((k, x) :: r)
    | false => match ksetE r t x with
      | some r' => some ((k, s) :: r')
      | none => none
theorem ksetE_get {α : Type} : ∀ {l r : List (Nat × α)} {t : Nat} {x : α}, ksetE l t x = some r → ∀ i, kget r i = if t = i then some x else kget l i
  | [], r, t, x, h, i => by simp [ksetE] at h
  | (k, s) :: l, r, t, x, h, i => by
    simp only [ksetE] at h
    split at h
    · rename_i hb
      have e := Nat.eq_of_beq_eq_true hb
      have h' := Option.some.inj h; subst h'
      simp only [kget_cons, e]
      split <;> rfl
    · rename_i hb
      have e := Nat.ne_of_beq_eq_false hb
      split at h
      · rename_i r' hr
        have h' := Option.some.inj h; subst h'
        simp only [kget_cons, ksetE_get hr i]
        by_cases hk : k = i
        · subst hk; rw [if_pos rfl, if_neg (fun e' => e e'.symm), if_pos rfl]
        · rw [if_neg hk, if_neg hk]
      · cases h
def oneE : SV → Bool
  | .v (.agg _) => false
  | .v (.tuple _) => false
  | .v (.int _ _) => true
  | .ag _ => false
  | .tu _ => false
  | _ => true
def onesE : List SV → Bool
  | [] => true
  | s :: r => match oneE s with
    | true => onesE r
    | false => false
theorem oneE_ok {s : SV} (β : Nat → Nat) (h : oneE s = true) : one (s.den β) = true := by
  cases s with
  | v x => cases x <;> first | rfl | (simp [oneE] at h; done)
  | p => rfl
  | ag => simp [oneE] at h
  | tu => simp [oneE] at h
  | fn => rfl
theorem onesE_ok (β : Nat → Nat) : ∀ {l : List SV}, onesE l = true → ∀ v ∈ SV.dens β l, one v = true
  | [], _, v, hv => by simp [SV.dens] at hv
  | s :: r, h, v, hv => by
    simp only [onesE] at h
    split at h
    · rename_i hs
      simp only [SV.dens, List.mem_cons] at hv
      rcases hv with rfl | hv
      · exact oneE_ok β hs
      · exact onesE_ok β h v hv
    · cases h
def zcells : List ZV → Option (List SV)
  | [] => some []
  | z :: r => match zcells r with
    | some l => some (.v z.val :: l)
    | none => none
theorem zcells_eq (β : Nat → Nat) (L : Lm) : ∀ {l : List ZV} {r : List SV}, zcells l = some r → SV.dens β r = l.map ZV.val ∧ SV.oks L r = true
  | [], r, h => by simp [zcells] at h; subst h; exact ⟨rfl, rfl⟩
  | z :: l, r, h => by
    simp only [zcells] at h
    split at h
    · rename_i l' hl
      have h' := Option.some.inj h; subst h'
      obtain ⟨h1, h2⟩ := zcells_eq β L hl
      exact ⟨by simp [SV.dens, SV.den, h1], by simp [SV.oks, SV.ok, h2]⟩
    · cases h
def lenIs {α : Type} : List α → Nat → Bool
  | [], 0 => true
  | _ :: r, n + 1 => lenIs r n
  | _, _ => false
theorem lenIs_eq {α : Type} : ∀ {l : List α} {n : Nat}, lenIs l n = true → l.length = n
  | [], 0, _ => rfl
  | _ :: r, n + 1, h => by simp [lenIs] at h; simp [lenIs_eq h]
  | [], n + 1, h => by simp [lenIs] at h
  | _ :: _, 0, h => by simp [lenIs] at h
/-- Blocks made, boxed, written: what the slot d then holds, and the blocks. -/
def hev (T : List (Nat × TI)) (tm : Tm) (L : Lm) (d : Nat) (op : Op) : Option (SV × Lm) :=
  match op with
  | .alloc t => match kget L d with
    | some _ => none
    | none => match kget T t with
      | none => none
      | some ti => match zcells ti.zero with
        | none => none
        | some cs => some (.p d 0, (d, ⟨none, cs, t⟩) :: L)
  | .box t x => match kget L d with
    | some _ => none
    | none => match kget T t with
      | none => none
      | some ti => match ev tm x with
        | none => none
        | some s => match cellsE ti.kind.agg s with
          | none => none
          | some cs => some (.p d 0, (d, ⟨none, cs, t⟩) :: L)
  | _ => none
def wev (T : List (Nat × TI)) (tm : Tm) (L : Lm) (op : Op) : Option Lm :=
  match op with
  | .store t x y => match kget T t with
    | none => none
    | some ti => match ev tm x with
      | some (.p i off) => match kget L i with
        | none => none
        | some ⟨nm, cells, ty⟩ => match ev tm y with
          | none => none
          | some s => match cellsE ti.kind.agg s with
            | none => none
            | some cs => match lenIs cs ti.size with
              | false => none
              | true => match onesE cs with
                | false => none
                | true => match setE cells off cs with
                  | none => none
                  | some r => ksetE L i ⟨nm, r, ty⟩
      | _ => none
  | _ => none
section
variable {P : Program} {T : List (Nat × TI)} {tm : Tm} {L : Lm} {n : FN} {N : World} {β : Nat → Nat} {u k : Hp} {a : Act} {w : World}
theorem cellsE_ok {g : Bool} {s : SV} {cs : List SV} (h : cellsE g s = some cs) (hs : s.ok L = true) : (s.den β).cells = (SV.dens β cs).toArray ∧ SV.oks L cs = true := by
  unfold cellsE at h
  split at h
  · have h' := Option.some.inj h; subst h'; exact ⟨rfl, hs⟩
  · cases h
  · split at h
    · cases h
    · split at h
      · cases h
      · cases h
      · have h' := Option.some.inj h; subst h'
        refine ⟨?_, by simp [SV.oks, hs]⟩
        cases s with
        | v x => cases x <;> first | rfl | (rename_i h1 h2; exact absurd rfl (h1 _)) | (rename_i h1 h2; exact absurd rfl (h2 _)) | skip
                 all_goals simp_all [SV.den, SV.dens, Value.cells]
        | p => rfl
        | ag => simp_all
        | tu => simp_all
        | fn => rfl
/-- One number more. -/
def bup (β : Nat → Nat) (d x : Nat) : Nat → Nat := fun i => if i = d then x else β i
theorem bup_here (β : Nat → Nat) (d x : Nat) : bup β d x d = x := by simp [bup]
theorem bup_old {β : Nat → Nat} {d x i : Nat} (h : i ≠ d) : bup β d x i = β i := by simp [bup, h]
/-- A new block. -/
theorem den_new {d : Nat} {B : Blk} (hB : B.name = none) (hk : SV.oks L B.cells = true) (hn : kget L d = none) (hd : Den β L u k N w) {o : Obj} (ho : o = .cells (SV.dens β B.cells).toArray B.ty (0, 0)) :
    Den (bup β d w.heap.size) ((d, B) :: L) u k N { w with heap := w.heap.push o } := by
  subst ho
  have hsame : ∀ i, (kget L i).isSome = true → (bup β d w.heap.size) i = β i := fun i hi => by
    have : i ≠ d := fun e => by subst e; rw [hn] at hi; cases hi
    exact bup_old this
  have hmore : ∀ i, (kget L i).isSome = true → (kget ((d, B) :: L) i).isSome = true := fun i hi => by rw [kget_cons]; split <;> simp_all
  have hlt : ∀ {x : Nat} {o : Obj}, w.heap[x]? = some o → x < w.heap.size := fun h => (Array.getElem?_eq_some_iff.1 h).1
  have hold : ∀ {x : Nat} {o : Obj}, w.heap[x]? = some o → ∀ y : Obj, (w.heap.push y)[x]? = some o := fun h y => by rw [Array.getElem?_push_lt (hlt h)]; rw [← h]; simp [hlt h]
  have hbl : ∀ i, (kget L i).isSome = true → β i < w.heap.size := fun i hi => by
    obtain ⟨B', hB'⟩ := Option.isSome_iff_exists.1 hi
    exact hlt (hd.loc i B' hB').1
  have hcase : ∀ i, (kget ((d, B) :: L) i).isSome = true → i = d ∨ (kget L i).isSome = true := fun i hi => by
    rw [kget_cons] at hi; split at hi
    · rename_i e; exact .inl e.symm
    · exact .inr hi
  refine ⟨fun i B' hB' => ?_, fun i j hi hj hij => ?_, fun b o hb => ⟨hold (hd.ext b o hb).1 _, fun i hi e => ?_⟩, fun b o hb => ⟨hold (hd.hid b o hb).1 _, (hd.hid b o hb).2.1, fun i hi e => ?_⟩, ⟨by simp; have := hd.size.size; omega, hd.size.os, hd.size.tape, hd.size.output, hd.size.drawn⟩⟩
  · rw [kget_cons] at hB'
    split at hB'
    · rename_i e; subst e
      have h' := Option.some.inj hB'; subst h'
      refine ⟨?_, fun b hb => (by rw [hB] at hb; cases hb), oks_more hmore _ hk⟩
      rw [bup_here, dens_same hsame _ hk]; simp
    · rename_i e
      obtain ⟨h1, h2, h3⟩ := hd.loc i B' hB'
      have hi : (kget L i).isSome = true := by rw [hB']; rfl
      refine ⟨?_, ?_, oks_more hmore _ h3⟩
      · rw [hsame i hi, dens_same hsame _ h3]; exact hold h1 _
      · rw [hsame i hi]; exact h2
  · rcases hcase i hi with rfl | hi' <;> rcases hcase j hj with rfl | hj'
    · rfl
    · have := hbl j hj'; rw [hsame j hj', bup_here] at hij; omega
    · have := hbl i hi'; rw [hsame i hi', bup_here] at hij; omega
    · rw [hsame i hi', hsame j hj'] at hij; exact hd.inj i j hi' hj' hij
  · have hb' := hlt (hd.ext b o hb).1
    rcases hcase i hi with rfl | hi'
    · rw [bup_here] at e; omega
    · rw [hsame i hi'] at e; exact (hd.ext b o hb).2 i hi' e
  · have hb' := hlt (hd.hid b o hb).1
    rcases hcase i hi with rfl | hi'
    · rw [bup_here] at e; omega
    · rw [hsame i hi'] at e; exact (hd.hid b o hb).2.2 i hi' e
theorem rel_new {d : Nat} {B : Blk} (hn : kget L d = none) (ht : RelT n L β tm a) (x : Nat) : RelT n ((d, B) :: L) (bup β d x) tm a := by
  have hsame : ∀ i, (kget L i).isSome = true → (bup β d x) i = β i := fun i hi => by
    have : i ≠ d := fun e => by subst e; rw [hn] at hi; cases hi
    exact bup_old this
  have hmore : ∀ i, (kget L i).isSome = true → (kget ((d, B) :: L) i).isSome = true := fun i hi => by rw [kget_cons]; split <;> simp_all
  refine ⟨ht.size, by rw [dvs_same hsame ht.dok]; exact ht.defers, dvs_more hmore ht.dok, fun t s hs => ?_⟩
  obtain ⟨h1, h2⟩ := ht.get t s hs
  exact ⟨by rw [den_same hsame s h2]; exact h1, ok_more hmore s h2⟩
theorem fence_new {F : Fr} {d : Nat} {B : Blk} (hn : kget L d = none) (hf : Fence F L β) (x : Nat) : Fence F ((d, B) :: L) (bup β d x) := fun i hi => by
  obtain ⟨h1, h2⟩ := hf i hi
  have : i ≠ d := fun e => by subst e; rw [hn] at h2; cases h2
  refine ⟨by rw [bup_old this]; exact h1, ?_⟩
  rw [kget_cons]; split <;> simp_all
/-- A block written. -/
theorem den_set {i : Nat} {B : Blk} {cs : List SV} {L' : Lm} {w' : World} (hB : kget L i = some B) (hc : SV.oks L cs = true) (hd : Den β L u k N w) (hL : ∀ j, kget L' j = if i = j then some ⟨B.name, cs, B.ty⟩ else kget L j)
    (hw : Upd1 w w' (β i) (.cells (SV.dens β cs).toArray B.ty (0, 0))) : Den β L' u k N w' := by
  have hsome : ∀ j, (kget L' j).isSome = (kget L j).isSome := fun j => by rw [hL]; split <;> simp_all
  have hmore : ∀ j, (kget L j).isSome = true → (kget L' j).isSome = true := fun j h => by rw [hsome]; exact h
  have hi : (kget L i).isSome = true := by rw [hB]; rfl
  refine ⟨fun j B' hB' => ?_, fun x y hx hy => hd.inj x y (by rwa [← hsome]) (by rwa [← hsome]), fun b o hb => ⟨?_, fun j hj => (hd.ext b o hb).2 j (by rwa [← hsome])⟩,
    fun b o hb => ⟨?_, (hd.hid b o hb).2.1, fun j hj => (hd.hid b o hb).2.2 j (by rwa [← hsome])⟩, hd.size.upd hw⟩
  · rw [hL] at hB'
    split at hB'
    · rename_i e; subst e
      have h' := Option.some.inj hB'; subst h'
      exact ⟨hw.here, (hd.loc i B hB).2.1, oks_more hmore _ hc⟩
    · rename_i e
      obtain ⟨h1, h2, h3⟩ := hd.loc j B' hB'
      refine ⟨?_, h2, oks_more hmore _ h3⟩
      rw [hw.other _ (fun e' => e (hd.inj j i (by rw [hB']; rfl) hi e').symm)]; exact h1
  · rw [hw.other _ (fun e => (hd.ext b o hb).2 i hi e.symm)]; exact (hd.ext b o hb).1
  · rw [hw.other _ (fun e => (hd.hid b o hb).2.2 i hi e.symm)]; exact (hd.hid b o hb).1
end
end Go.Sy
/- The walk by a symbolic frame: rules of the operations. -/
namespace Go.Sy
/-- Whether an operation comes up: its guard's slot holds a known bool. -/
def wantE (l : List Oper) (tm : Tm) (o : Oper) : Option Bool :=
  match o.guard with
  | none => some true
  | some (j, want) => match nth l j with
    | some oj => match oj.dst with
      | some d => match kget tm d with
        | some (.v (.bool true)) => some want
        | some (.v (.bool false)) => some (!want)
        | _ => none
      | none => none
    | none => none
section
variable {P : Program} {T : List (Nat × TI)} {F : Fr} {tm : Tm} {L : Lm} {u : Hp} {n : FN} {N : World} {β : Nat → Nat} {k : Hp} {a : Act} {w : World} {Q : Exit → Act → World → Prop}
theorem wantE_ok {l : List Oper} {o : Oper} {b : Bool} (h : wantE l tm o = some b) (ht : RelT n L β tm a) : Region.wanted o (yielded l.toArray a.tmps) = b := by
  unfold wantE at h
  unfold Region.wanted
  split at h
  · rename_i hg; rw [hg]; exact Option.some.inj h
  · rename_i j want hg
    rw [hg]
    split at h
    · rename_i oj hoj
      rw [nth_eq] at hoj
      split at h
      · rename_i d hd
        split at h
        · rename_i hv
          have := (ht.get d _ hv).1
          have h' := Option.some.inj h; subst h'
          simp [yielded, hoj, hd, this, SV.den]
        · rename_i hv
          have := (ht.get d _ hv).1
          have h' := Option.some.inj h; subst h'
          simp [yielded, hoj, hd, this, SV.den]
        · cases h
      · cases h
    · cases h
/-- How a region's operations come up: one behind the other; in any order, each in whatever world has this form; likewise, but none calls. -/
inductive Md where
  | seq | quiet | still
/-- Operations that leave the world as it is, and yield one value in all worlds of a class. -/
def wpStillC (P : Program) (ops : Array Oper) (C : World → Prop) (K : Act → Prop) : List Oper → Act → Prop
  | [], a => K a
  | o :: rest, a => if Region.wanted o (yielded ops a.tmps) then ∃ v, (∀ w, C w → (execOp a.eval o).run P w = .ok (.value v) w) ∧ wpStillC P ops C K rest (a.put o.dst v) else wpStillC P ops C K rest (a.put o.dst undef)
/-- A region's operations, from 'rest' on. -/
def Run (P : Program) (Q : Exit → Act → World → Prop) (F : Fr) (tm : Tm) (L : Lm) (u : Hp) (q : Md) (l rest : List Oper) : Prop :=
  match q with
  | .seq => St F tm L u (fun a w => wpList P l.toArray Q rest a w)
  | .quiet => ∀ β a w, Fence F L β → RelT F.n L β tm a → Den β L u F.k F.N w →
      wpQuiet P l.toArray (fun w => Den β L u F.k F.N w) (fun a' => ∀ w', Den β L u F.k F.N w' → Q .normal a' w') rest a
  | .still => ∀ β a w, Fence F L β → RelT F.n L β tm a → Den β L u F.k F.N w →
      wpStillC P l.toArray (fun w => Den β L u F.k F.N w) (fun a' => ∀ w', Den β L u F.k F.N w' → Q .normal a' w') rest a
theorem r_region {id : Nat} {l : List Oper} (h : Run P Q F tm L u .seq l l) : St F tm L u (fun a w => (Code.region id l.toArray false).wp P Q a w) :=
  St.imp h fun _ _ => wp_region_lit
theorem Den.drew (hd : Den β L u k N w) : Den β L u k N { w with drawn := w.drawn + 1 } := ⟨hd.loc, hd.inj, hd.ext, hd.hid, ⟨hd.size.size, hd.size.os, hd.size.tape, hd.size.output, Nat.le_succ_of_le hd.size.drawn⟩⟩
theorem r_draw {id : Nat} {l : List Oper} (hm : P.follows .mixedOrders = true) (hB : Region.lexB .any l.toArray = true) (h : Run P Q F tm L u .quiet l l) : St F tm L u (fun a w => (Code.region id l.toArray true).wp P Q a w) := by
  intro β a w hf ht hd
  exact wp_region_quiet (C := fun w => Den β L u F.k F.N w) hm hB hd.drew (by simpa using h β a w hf ht hd)
theorem r_nil {l : List Oper} (h : St F tm L u (Q .normal)) : Run P Q F tm L u .seq l [] := h
theorem s_nil {l : List Oper} (h : St F tm L u (Q .normal)) : Run P Q F tm L u .still l [] := fun β a _ hf ht _ w' hw' => h β a w' hf ht hw'
theorem q_nil {l : List Oper} (h : St F tm L u (Q .normal)) : Run P Q F tm L u .quiet l [] := fun β a _ hf ht _ => wpQuiet_nil (fun w' hw' => h β a w' hf ht hw')
/-- One operation that leaves the world as it is. -/
theorem op_pure {q : Md} {l : List Oper} {o : Oper} {r : List Oper} {d : Nat} {s : SV} (hw : wantE l tm o = some true) (ho : o.dst = some d) (hn : Nat.blt d F.n.z = true)
    (h : ∀ β a w, RelT F.n L β tm a → Den β L u F.k F.N w → (execOp a.eval o).run P w = .ok (.value (s.den β)) w ∧ s.ok L = true)
    (next : Run P Q F ((d, s) :: tm) L u q l r) : Run P Q F tm L u q l (o :: r) := by
  cases q with
  | seq =>
    intro β a w hf ht hd
    obtain ⟨h1, h5⟩ := h β a w ht hd
    show (if _ then _ else _)
    rw [if_pos (wantE_ok hw ht)]
    refine .inl ?_
    unfold Oper.wp
    rw [h1, Oper.upon_value, ho]
    exact next β _ w hf (put_rel hn ht h5) hd
  | quiet =>
    intro β a w hf ht hd
    have h5 := (h β a w ht hd).2
    show (if _ then _ else _)
    rw [if_pos (wantE_ok hw ht)]
    refine ⟨s.den β, fun w' hw' => ?_, ?_⟩
    · unfold Oper.quietAt
      rw [(h β a w' ht hw').1]
      exact ⟨rfl, rfl⟩
    · rw [ho]; exact next β _ w hf (put_rel hn ht h5) hd
  | still =>
    intro β a w hf ht hd
    have h5 := (h β a w ht hd).2
    show (if _ then _ else _)
    rw [if_pos (wantE_ok hw ht)]
    exact ⟨s.den β, fun w' hw' => (h β a w' ht hw').1, by rw [ho]; exact next β _ w hf (put_rel hn ht h5) hd⟩
/-- One operation that yields s, in a frame that may have grown. -/
theorem op_value {l : List Oper} {o : Oper} {r : List Oper} {d : Nat} {s : SV} {L' : Lm} {u' : Hp} (hw : wantE l tm o = some true) (ho : o.dst = some d) (hn : Nat.blt d F.n.z = true)
    (h : ∀ β a w, Fence F L β → RelT F.n L β tm a → Den β L u F.k F.N w → ∃ β' w', (execOp a.eval o).run P w = .ok (.value (s.den β')) w' ∧ Fence F L' β' ∧ RelT F.n L' β' tm a ∧ Den β' L' u' F.k F.N w' ∧ s.ok L' = true)
    (next : St F ((d, s) :: tm) L' u' (fun a w => wpList P l.toArray Q r a w)) : St F tm L u (fun a w => wpList P l.toArray Q (o :: r) a w) := by
  intro β a w hf ht hd
  obtain ⟨β', w', h1, h2, h3, h4, h5⟩ := h β a w hf ht hd
  show (if _ then _ else _)
  rw [if_pos (wantE_ok hw ht)]
  refine .inl ?_
  unfold Oper.wp
  rw [h1, Oper.upon_value, ho]
  exact next β' _ w' h2 (put_rel hn h3 h5) h4
theorem op_skip {l : List Oper} {o : Oper} {r : List Oper} {L' : Lm} {u' : Hp} (hw : wantE l tm o = some true) (ho : o.dst = none)
    (h : ∀ β a w, Fence F L β → RelT F.n L β tm a → Den β L u F.k F.N w → ∃ β' w', (execOp a.eval o).run P w = .ok .skip w' ∧ Fence F L' β' ∧ RelT F.n L' β' tm a ∧ Den β' L' u' F.k F.N w')
    (next : St F tm L' u' (fun a w => wpList P l.toArray Q r a w)) : St F tm L u (fun a w => wpList P l.toArray Q (o :: r) a w) := by
  intro β a w hf ht hd
  obtain ⟨β', w', h1, h2, h3, h4⟩ := h β a w hf ht hd
  show (if _ then _ else _)
  rw [if_pos (wantE_ok hw ht)]
  refine .inl ?_
  unfold Oper.wp
  rw [h1, Oper.upon_skip, ho]
  exact next β' _ w' h2 h3 h4
theorem r_pure (hT : TOK P T) {q : Md} {l : List Oper} {o : Oper} {r : List Oper} {d : Nat} {s : SV} (hw : wantE l tm o = some true) (ho : o.dst = some d) (hn : Nat.blt d F.n.z = true) (h : pev T tm L o.op = some s)
    (next : Run P Q F ((d, s) :: tm) L u q l r) : Run P Q F tm L u q l (o :: r) :=
  op_pure hw ho hn (fun _ _ _ ht hd => pev_ok hT rfl h ht hd) next
/-- It does not come up. -/
theorem r_off {q : Md} {l : List Oper} {o : Oper} {r : List Oper} {d : Nat} (hw : wantE l tm o = some false) (ho : o.dst = some d) (hn : Nat.blt d F.n.z = true)
    (next : Run P Q F ((d, .v undef) :: tm) L u q l r) : Run P Q F tm L u q l (o :: r) := by
  cases q <;>
  · intro β a w hf ht hd
    show (if _ then _ else _)
    rw [if_neg (by rw [wantE_ok hw ht]; simp), ho]
    exact next β _ w hf (put_rel (s := .v undef) hn ht rfl) hd
theorem r_off' {q : Md} {l : List Oper} {o : Oper} {r : List Oper} (hw : wantE l tm o = some false) (ho : o.dst = none)
    (next : Run P Q F tm L u q l r) : Run P Q F tm L u q l (o :: r) := by
  cases q <;>
  · intro β a w hf ht hd
    show (if _ then _ else _)
    rw [if_neg (by rw [wantE_ok hw ht]; simp), ho]
    exact next β _ w hf ht hd
/-- A slot's bool is known from here on. -/
theorem r_case {Φ : Act → World → Prop} (d : Nat) {b : Bool} (hd : kget tm d = some (.v (.bool b))) (h1 : b = true → St F ((d, .v (.bool true)) :: tm) L u Φ) (h2 : b = false → St F ((d, .v (.bool false)) :: tm) L u Φ) : St F tm L u Φ := by
  intro β a w hf ht hD
  have key : ∀ c, b = c → RelT F.n L β ((d, .v (.bool c)) :: tm) a := fun c hc => by
    refine ⟨ht.size, ht.defers, ht.dok, fun t s hs => ?_⟩
    rw [kget_cons] at hs
    split at hs
    · rename_i e; subst e
      have h' := Option.some.inj hs; subst h'
      have := ht.get d _ hd
      rw [hc] at this; exact this
    · exact ht.get t s hs
  cases hb : b with
  | true => exact h1 hb β a w hf (key _ hb) hD
  | false => exact h2 hb β a w hf (key _ hb) hD
theorem q_case {q : Md} {l r : List Oper} (d : Nat) {b : Bool} (hd : kget tm d = some (.v (.bool b))) (h1 : b = true → Run P Q F ((d, .v (.bool true)) :: tm) L u q l r) (h2 : b = false → Run P Q F ((d, .v (.bool false)) :: tm) L u q l r) : Run P Q F tm L u q l r := by
  cases q with
  | seq => exact r_case d hd h1 h2
  | _ =>
    intro β a w hf ht hD
    have key : ∀ c, b = c → RelT F.n L β ((d, .v (.bool c)) :: tm) a := fun c hc => by
      refine ⟨ht.size, ht.defers, ht.dok, fun t s hs => ?_⟩
      rw [kget_cons] at hs
      split at hs
      · rename_i e; subst e
        have h' := Option.some.inj hs; subst h'
        have := ht.get d _ hd
        rw [hc] at this; exact this
      · exact ht.get t s hs
    cases hb : b with
    | true => exact h1 hb β a w hf (key _ hb) hD
    | false => exact h2 hb β a w hf (key _ hb) hD
theorem r_new (hT : TOK P T) {l : List Oper} {o : Oper} {r : List Oper} {d : Nat} {s : SV} {L' : Lm} (hw : wantE l tm o = some true) (ho : o.dst = some d) (hn : Nat.blt d F.n.z = true) (h : hev T tm L d o.op = some (s, L'))
    (next : Run P Q F ((d, s) :: tm) L' u .seq l r) : Run P Q F tm L u .seq l (o :: r) := by
  refine op_value hw ho hn (fun β a w hf ht hd => ?_) next
  unfold hev at h
  split at h
  · rename_i t hop
    split at h
    · cases h
    · rename_i hk
      split at h
      · cases h
      · rename_i ti hti
        split at h
        · cases h
        · rename_i cs hcs
          have h' := Option.some.inj h
          simp only [Prod.mk.injEq] at h'
          obtain ⟨rfl, rfl⟩ := h'
          obtain ⟨z, hz, hzc⟩ := run_zero (hT t ti hti) w
          obtain ⟨g1, g2⟩ := zcells_eq β L hcs
          refine ⟨bup β d w.heap.size, _, ?_, fence_new hk hf _, rel_new hk ht _, den_new (B := ⟨none, cs, t⟩) rfl g2 hk hd (o := .cells (SV.dens β cs).toArray t (0, 0)) rfl, ?_⟩
          · simp [execOp, hop, Instr.alloc, hz, newVar, newRow, newObj, Sem.run, hzc, g1, SV.den, bup_here]
          · simp [SV.ok, kget_cons]
  · rename_i t x hop
    split at h
    · cases h
    · rename_i hk
      split at h
      · cases h
      · rename_i ti hti
        split at h
        · cases h
        · rename_i s' hs
          split at h
          · cases h
          · rename_i cs hcs
            have h' := Option.some.inj h
            simp only [Prod.mk.injEq] at h'
            obtain ⟨rfl, rfl⟩ := h'
            obtain ⟨g1, g2⟩ := cellsE_ok (β := β) hcs (ev_oks ht hs)
            refine ⟨bup β d w.heap.size, _, ?_, fence_new hk hf _, rel_new hk ht _, den_new (B := ⟨none, cs, t⟩) rfl g2 hk hd (o := .cells (SV.dens β cs).toArray t (0, 0)) rfl, ?_⟩
            · simp [execOp, hop, Instr.box, newVar, newRow, newObj, Sem.run, ev_ok ht hs, g1, SV.den, bup_here]
            · simp [SV.ok, kget_cons]
  · cases h
theorem r_write (hT : TOK P T) {l : List Oper} {o : Oper} {r : List Oper} {L' : Lm} (hw : wantE l tm o = some true) (ho : o.dst = none) (h : wev T tm L o.op = some L')
    (next : Run P Q F tm L' u .seq l r) : Run P Q F tm L u .seq l (o :: r) := by
  refine op_skip hw ho (fun β a w hf ht hd => ?_) next
  unfold wev at h
  split at h
  · rename_i t x y hop
    split at h
    · cases h
    · rename_i ti hti
      split at h
      · rename_i i off hx
        split at h
        · cases h
        · rename_i nm cells ty hB
          split at h
          · cases h
          · rename_i s hs
            split at h
            · cases h
            · rename_i cs hcs
              split at h
              · cases h
              · rename_i hlen
                split at h
                · cases h
                · rename_i hone
                  split at h
                  · cases h
                  · rename_i rr hr
                    obtain ⟨g1, g2⟩ := cellsE_ok (β := β) hcs (ev_oks ht hs)
                    obtain ⟨e1, rfl⟩ := setE_eq _ _ _ _ hr
                    obtain ⟨b1, b2, b3⟩ := hd.loc i _ hB
                    have hl := lenIs_eq hlen
                    obtain ⟨w', hr', hu⟩ := run_storeVar (P := P) (off := off) (vs := SV.dens β cs) (hT t ti hti) b1 g1 (by rw [dens_map]; simpa using hl) (by rw [dens_map, dens_map]; simpa using e1) (onesE_ok β hone)
                    have hset : SV.dens β (setL cells off cs) = setL (SV.dens β cells) off (SV.dens β cs) := by simp [dens_map, setL]
                    have hok : SV.oks L (setL cells off cs) = true := by
                      rw [oks_all] at *
                      refine List.all_eq_true.2 fun x hx => ?_
                      simp only [setL, List.mem_append] at hx
                      rcases hx with hx | hx | hx
                      · exact List.all_eq_true.1 b3 x (List.mem_of_mem_take hx)
                      · exact List.all_eq_true.1 g2 x hx
                      · exact List.all_eq_true.1 b3 x (List.mem_of_mem_drop hx)
                    have hL := ksetE_get h
                    have hmore : ∀ j, (kget L j).isSome = true → (kget L' j).isSome = true := fun j hj => by rw [hL]; split <;> simp_all
                    refine ⟨β, w', ?_, fun j hj => ⟨(hf j hj).1, hmore j (hf j hj).2⟩, ⟨ht.size, ht.defers, dvs_more hmore ht.dok, fun t s hs => ⟨(ht.get t s hs).1, ok_more hmore s (ht.get t s hs).2⟩⟩, den_set hB hok hd hL (by rw [hset]; simpa using hu)⟩
                    simp [execOp, hop, ev_ok ht hx, ev_ok ht hs, SV.den, Instr.storeAt, Instr.sureAddr, hr']
      · cases h
  · cases h
end
end Go.Sy
