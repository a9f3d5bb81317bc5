/- The walk by a symbolic frame: a few rules more. -/
import Derived.Test.YtkamfnmbidnhdaaDoorSqAD
set_option linter.unusedVariables false
set_option linter.unusedSimpArgs false
set_option linter.unusedSectionVars false
namespace Go.Sy
set_option linter.unusedSimpArgs false
section
variable {P : Program} {T : List (Nat × TI)} {F : Fr} {tm : Tm} {L : Lm} {u : Hp} {n : FN} {N : World} {β : Nat → Nat} {k : Hp} {a : Act} {w : World} {Q : Exit → Act → World → Prop}
theorem c_yes {c : Operand} {x y : Code} {p : Prop} [Decidable p] (hc : ev tm c = some (.v (.bool (decide p)))) (hp : p) (h1 : St F tm L u (fun a w => x.wp P Q a w)) : St F tm L u (fun a w => (Code.cond c x y).wp P Q a w) :=
  r_cond_dec hc (fun _ => h1) (fun h => absurd hp h)
theorem c_no {c : Operand} {x y : Code} {p : Prop} [Decidable p] (hc : ev tm c = some (.v (.bool (decide p)))) (hp : ¬ p) (h1 : St F tm L u (fun a w => y.wp P Q a w)) : St F tm L u (fun a w => (Code.cond c x y).wp P Q a w) :=
  r_cond_dec hc (fun h => absurd h hp) (fun _ => h1)
/-- not p -/
theorem c_not {c : Operand} {x y : Code} {p : Prop} [Decidable p] (hc : ev tm c = some (.v (.bool (!decide p)))) (h1 : ¬ p → St F tm L u (fun a w => x.wp P Q a w)) (h2 : p → St F tm L u (fun a w => y.wp P Q a w)) :
    St F tm L u (fun a w => (Code.cond c x y).wp P Q a w) :=
  r_cond hc (fun e => h1 (by simpa using e)) (fun e => h2 (by simpa using e))
theorem Den.weak (hd : Den β L u k N w) {v : Hp} (hl : Le v u) : Den β L v k N w :=
  ⟨hd.loc, hd.inj, fun b o hb => hd.ext b o (hl b o hb), fun b o hb => ⟨(hd.hid b o hb).1, (by
    cases hv : v b with
    | none => rfl
    | some o' => (have := hl b o' hv; rw [(hd.hid b o hb).2.1] at this; cases this)), (hd.hid b o hb).2.2⟩, hd.size⟩
/-- Fewer blocks beyond the frame. -/
theorem St.weak {Φ : Act → World → Prop} {v : Hp} (hl : Le v u) (h : St F tm L v Φ) : St F tm L u Φ := fun β a w hf ht hd => h β a w hf ht (hd.weak hl)
/-- In a region whose order is drawn: a call that leaves all that is known, and always answers the same. -/
theorem q_call {l : List Oper} {o : Oper} {r : List Oper} {d : Nat} {c : Call} {f : FuncId} {svs args : List SV} {vs : List Value} {Y : Type} {val : Y → SV} {ψ : Y → Hp → Prop} (y0 : Y)
    (htri : TriS P f args [] u val (fun _ => []) ψ) (hψ : ∀ y u', ψ y u' → y = y0 ∧ Le u u') (hw : wantE l tm o = some true) (ho : o.dst = some d) (hn : Nat.blt d F.n.z = true) (hop : o.op = .call c) (hcal : calleeE tm c = some (f, svs)) (hc : callable P f = true)
    (hvs' : valsE [] args = some vs) (hvs : valsE L svs = some vs) (hok : (val y0).ok [] = true) (next : Run P Q F ((d, val y0) :: tm) L u .quiet l r) : Run P Q F tm L u .quiet l (o :: r) := by
  intro β a w hf ht hd
  show (if _ then _ else _)
  rw [if_pos (wantE_ok hw ht)]
  have hk' : (val y0).ok L = true := ok_more (fun i hi => by simp [kget] at hi) _ hok
  refine ⟨(val y0).den β, fun w' hw' => ?_, ?_⟩
  · unfold Oper.quietAt
    rw [calleeE_ok hop hcal hc ht hw', valsE_den hw'.bn hvs]
    refine ⟨rfl, (htri List.nodup_nil (fun b hb => by simp [names] at hb) vs u hvs' rfl _ _ w' (den0_of hw')).mono ?_⟩
    rintro e w'' ⟨v, h'', rfl, ⟨y, h', h1, h2, h3, h4⟩, h5⟩
    simp only [addsE, Option.some.injEq] at h2; subst h2
    obtain ⟨rfl, hle⟩ := hψ y h' h4
    refine ⟨?_, (den_back hw' h5).weak hle⟩
    rw [valE_den (L := []) (β := β) (fun i B b hB => by simp [kget] at hB) h1]
  · rw [ho]; exact next β _ w hf (put_rel hn ht hk') hd
theorem own_set {u : Hp} {b off n c : Nat} {e : TypeId} {sz o : Nat} {cs vs : List Value} {arr : Array Value} (h : Own u (some ⟨b, off, none⟩) n c e sz cs) (hb : u b = some (.cells arr e (0, 0))) (hl : o + vs.length ≤ cs.length) :
    Own (upd u b (.cells (setL arr.toList (off + o) vs).toArray e (0, 0))) (some ⟨b, off, none⟩) n c e sz (setL cs o vs) := by
  obtain ⟨_, arr', g1, g2, g3⟩ := h.row _ rfl
  simp only at g1 g2 g3
  rw [hb] at g1
  have e1 := Option.some.inj g1
  simp only [Obj.cells.injEq] at e1
  obtain ⟨rfl, _, _⟩ := e1
  have hfit : off + o + vs.length ≤ arr.toList.length := by
    have := h.len; have := Nat.mul_le_mul_right sz h.cap; simp; omega
  refine ⟨by rw [setL_length _ _ _ hl]; exact h.len, h.cap, fun h => (by cases h), fun a ha => ?_⟩
  have e2 := Option.some.inj ha; subst e2
  refine ⟨rfl, _, upd_here .., by simpa [setL_length _ _ _ hfit] using g2, fun j v hj => ?_⟩
  simp only [List.getElem?_toArray]
  rw [setL_get _ _ _ hl] at hj
  rw [setL_get _ _ _ hfit]
  split at hj
  · rename_i hc; rw [if_pos (by omega), show off + j - (off + o) = j - o by omega]; exact hj
  · rename_i hc; rw [if_neg (by omega)]; simpa using g3 j v hj
theorem valsE_length : ∀ {l : List SV} {r : List Value}, valsE L l = some r → r.length = l.length
  | [], r, h => by simp only [valsE, Option.some.injEq] at h; subst h; rfl
  | s :: l, r, h => by
    simp only [valsE] at h
    split at h
    · split at h
      · rename_i l' hl'; have e := Option.some.inj h; subst e; simp [valsE_length hl']
      · cases h
    · cases h
/-- make([]T, n), n a count -/
theorem r_makeN (hT : TOK P T) {l : List Oper} {o : Oper} {r : List Oper} {d : Nat} {t e : TypeId} {ti te : TI} {x y : Operand} {kx ky : IntKind} {i : Nat}
    (hw : wantE l tm o = some true) (ho : o.dst = some d) (hn : Nat.blt d F.n.z = true) (hop : o.op = .makeSlice t x y) (ht : kget T t = some ti) (hk : ti.kind = .slice e) (he : kget T e = some te) (hz0 : te.zero ≠ [])
    (hx : ev tm x = some (.v (.int kx (i : Int)))) (hy : ev tm y = some (.v (.int ky (i : Int)))) (hb : te.bytes * i ≤ 281474976710656) (h63 : i ≤ 9223372036854775807)
    (next : ∀ b, u b = none → Run P Q F ((d, .v (.slice (some ⟨b, 0, none⟩) i i)) :: tm) L (upd u b (.cells (reps i (te.zero.map ZV.val)).toArray e (0, 0))) .seq l r) :
    Run P Q F tm L u .seq l (o :: r) :=
  r_make hT hw ho hn hop ht hk he hz0 hx hy (Int.natCast_nonneg i) (by have : ((te.bytes * i : Nat) : Int) ≤ 281474976710656 := by omega
                                                                       simpa using this) (by omega) (fun b hb => by simpa using next b hb)
theorem own_made {u : Hp} {b m : Nat} {e : TypeId} {z : List Value} {sz : Nat} (hz : z.length = sz) : Own (upd u b (.cells (reps m z).toArray e (0, 0))) (some ⟨b, 0, none⟩) m m e sz (reps m z) :=
  ⟨by rw [reps_length, hz], Nat.le_refl _, fun h => (by cases h), fun a ha => by
    have e := Option.some.inj ha; subst e
    exact ⟨rfl, _, upd_here .., by simp [reps_length, hz], fun j v hj => by simpa using hj⟩⟩
/-- A store into a row of its own. -/
theorem r_store_own (hT : TOK P T) {l : List Oper} {op : Oper} {r : List Oper} {t e : TypeId} {ti : TI} {x y : Operand} {b off o o' n c sz : Nat} {s : SV} {cs : List SV} {vs ws : List Value}
    (hO : Own u (some ⟨b, off, none⟩) n c e sz ws) (hw : wantE l tm op = some true) (hdst : op.dst = none) (hop : op.op = .store t x y) (hx : ev tm x = some (.v (.pointer (some ⟨b, o', none⟩)))) (hoo : o' = off + o)
    (hy : ev tm y = some s) (ht : kget T t = some ti) (hc : cellsE ti.kind.agg s = some cs) (hl : lenIs cs ti.size = true) (ho1 : onesE cs = true) (hv : valsE L cs = some vs) (hlt : o + ti.size ≤ ws.length)
    (next : ∀ u', Own u' (some ⟨b, off, none⟩) n c e sz (setL ws o vs) → (∀ x, x ≠ b → u' x = u x) → Run P Q F tm L u' .seq l r) : Run P Q F tm L u .seq l (op :: r) := by
  obtain ⟨_, arr, g1, g2, g3⟩ := hO.row _ rfl
  simp only at g1 g2 g3
  subst hoo
  have hlen := lenIs_eq hl
  have hvl : vs.length = ti.size := by rw [valsE_length hv, hlen]
  have hfit : off + o + ti.size ≤ arr.size := by
    have := hO.len; have := Nat.mul_le_mul_right sz hO.cap; omega
  exact r_store hT hw hdst hop hx hy ht hc hl ho1 hv g1 hfit (next _ (own_set hO g1 (by rw [hvl]; exact hlt)) (fun x hx => upd_ne hx))
theorem r_ld0 (hT : TOK P T) {q : Md} {l : List Oper} {op : Oper} {r : List Oper} {d : Nat} {t : TypeId} {ti : TI} {x : Operand} {b o : Nat} {cs ds' : List Value} {s : SV} (hat : At u b o cs)
    (hw : wantE l tm op = some true) (hdst : op.dst = some d) (hn : Nat.blt d F.n.z = true) (hop : op.op = .load t x) (hx : ev tm x = some (.v (.pointer (some ⟨b, o, none⟩)))) (ht : kget T t = some ti)
    (hds' : takeE ti.size cs = some ds') (hs : svl ti.kind.agg ds' = some s) (h1 : Nat.beq ti.size 0 = false) (next : Run P Q F ((d, s) :: tm) L u q l r) : Run P Q F tm L u q l (op :: r) :=
  r_load hT hat hw hdst hn hop hx (Nat.add_zero _).symm ht rfl hds' hs h1 next
theorem r_ld1 (hT : TOK P T) {q : Md} {l : List Oper} {op : Oper} {r : List Oper} {d : Nat} {t : TypeId} {ti : TI} {x : Operand} {b o f : Nat} {cs ds ds' : List Value} {s : SV} (hat : At u b o cs)
    (hw : wantE l tm op = some true) (hdst : op.dst = some d) (hn : Nat.blt d F.n.z = true) (hop : op.op = .load t x) (hx : ev tm x = some (.v (.pointer (some ⟨b, o + f, none⟩)))) (ht : kget T t = some ti)
    (hds : dropE f cs = some ds) (hds' : takeE ti.size ds = some ds') (hs : svl ti.kind.agg ds' = some s) (h1 : Nat.beq ti.size 0 = false) (next : Run P Q F ((d, s) :: tm) L u q l r) : Run P Q F tm L u q l (op :: r) :=
  r_load hT hat hw hdst hn hop hx rfl ht hds hds' hs h1 next
theorem r_ld2 (hT : TOK P T) {q : Md} {l : List Oper} {op : Oper} {r : List Oper} {d : Nat} {t : TypeId} {ti : TI} {x : Operand} {b o f g : Nat} {cs ds ds' : List Value} {s : SV} (hat : At u b o cs)
    (hw : wantE l tm op = some true) (hdst : op.dst = some d) (hn : Nat.blt d F.n.z = true) (hop : op.op = .load t x) (hx : ev tm x = some (.v (.pointer (some ⟨b, o + f + g, none⟩)))) (ht : kget T t = some ti)
    (hds : dropE (f + g) cs = some ds) (hds' : takeE ti.size ds = some ds') (hs : svl ti.kind.agg ds' = some s) (h1 : Nat.beq ti.size 0 = false) (next : Run P Q F ((d, s) :: tm) L u q l r) : Run P Q F tm L u q l (op :: r) :=
  r_load hT hat hw hdst hn hop hx (Nat.add_assoc _ _ _) ht hds hds' hs h1 next
theorem own_some {A : Option Addr} {n c : Nat} {e : TypeId} {sz i : Nat} {cs : List Value} (h : Own u A n c e sz cs) (hi : i < n) : ∃ b off, A = some ⟨b, off, none⟩ := by
  cases A with
  | none => have := h.nil rfl; have := h.cap; omega
  | some a => obtain ⟨b, o, sp⟩ := a; have := (h.row _ rfl).1; simp only at this; subst this; exact ⟨b, o, rfl⟩
def ovr : List Value → List Value → Option (List Value)
  | [], l => some l
  | y :: ys, l => match l with
    | [] => none
    | _ :: l => match ovr ys l with
      | some r => some (y :: r)
      | none => none
def setV : Nat → List Value → List Value → Option (List Value)
  | 0, l, ys => ovr ys l
  | n + 1, l, ys => match l with
    | [] => none
    | x :: l => match setV n l ys with
      | some r => some (x :: r)
      | none => none
theorem ovr_eq : ∀ (ys l r : List Value), ovr ys l = some r → ys.length ≤ l.length ∧ r = setL l 0 ys
  | [], l, r, h => by simp only [ovr, Option.some.injEq] at h; subst h; simp [setL_nil]
  | y :: ys, [], r, h => by simp [ovr] at h
  | y :: ys, x :: l, r, h => by
    simp only [ovr] at h
    split at h
    · rename_i r' hr
      obtain ⟨h1, h2⟩ := ovr_eq ys l r' hr
      have h' := Option.some.inj h; subst h'; subst h2
      exact ⟨by simp; omega, by simp [setL]⟩
    · cases h
theorem setV_eq : ∀ (n : Nat) (l ys r : List Value), setV n l ys = some r → n + ys.length ≤ l.length ∧ r = setL l n ys
  | 0, l, ys, r, h => by have := ovr_eq ys l r h; simpa using this
  | n + 1, [], ys, r, h => by simp [setV] at h
  | n + 1, x :: l, ys, r, h => by
    simp only [setV] at h
    split at h
    · rename_i r' hr
      obtain ⟨h1, h2⟩ := setV_eq n l ys r' hr
      have h' := Option.some.inj h; subst h'; subst h2
      refine ⟨by simp at h1 ⊢; omega, ?_⟩
      simp only [setL, List.take_succ_cons, List.cons_append]
      rw [show n + 1 + ys.length = (n + ys.length) + 1 by omega, List.drop_succ_cons]
    · cases h
theorem setL_pre {α : Type} (pre l : List α) (o : Nat) (vs : List α) : setL (pre ++ l) (pre.length + o) vs = pre ++ setL l o vs := by
  simp only [setL]
  rw [List.take_append, List.take_of_length_le (by omega), show pre.length + o - pre.length = o by omega, List.append_assoc, List.drop_append, List.drop_eq_nil_of_le (by omega), List.nil_append,
    show pre.length + o + vs.length - pre.length = o + vs.length by omega]
/-- A store into a row of its own, at the place behind 'pre', f1 + f2 cells on; all else is as in w0. -/
theorem r_store_row2 (hT : TOK P T) {l : List Oper} {op : Oper} {r : List Oper} {t e : TypeId} {ti : TI} {x y : Operand} {b off q f1 f2 n c sz : Nat} {s : SV} {cs : List SV} {vs pre l1 l2 : List Value} {w0 : Hp}
    (hO : Own u (some ⟨b, off, none⟩) n c e sz (pre ++ l1)) (hK : ∀ x, x ≠ b → u x = w0 x) (hw : wantE l tm op = some true) (hdst : op.dst = none) (hop : op.op = .store t x y) (hx : ev tm x = some (.v (.pointer (some ⟨b, q + f1 + f2, none⟩)))) (hq : q = off + pre.length)
    (hy : ev tm y = some s) (ht : kget T t = some ti) (hc : cellsE ti.kind.agg s = some cs) (hl : lenIs cs ti.size = true) (ho1 : onesE cs = true) (hv : valsE L cs = some vs) (hset : setV (f1 + f2) l1 vs = some l2)
    (next : ∀ u', Own u' (some ⟨b, off, none⟩) n c e sz (pre ++ l2) → (∀ x, x ≠ b → u' x = w0 x) → Run P Q F tm L u' .seq l r) : Run P Q F tm L u .seq l (op :: r) := by
  obtain ⟨g1, g2⟩ := setV_eq _ _ _ _ hset
  have hvl : vs.length = ti.size := by rw [valsE_length hv, lenIs_eq hl]
  refine r_store_own hT hO hw hdst hop hx (o := pre.length + (f1 + f2)) (by omega) hy ht hc hl ho1 hv (by simp; omega) (fun u' h1 h2 => ?_)
  rw [setL_pre, ← g2] at h1
  exact next u' h1 (fun x hx => (h2 x hx).trans (hK x hx))
end
/-- A call that answers r and leaves the heap as it is. -/
abbrev Pur (P : Program) (f : FuncId) (args : List SV) (h : Hp) {Y : Type} (val : Y → SV) (r : Y) : Prop := TriS P f args [] h val (fun _ => []) (fun y h' => y = r ∧ h' = h)
theorem p_call {P : Program} {F : Fr} {tm : Tm} {L : Lm} {u : Hp} {Q : Exit → Act → World → Prop} {q : Md} {l : List Oper} {o : Oper} {r : List Oper} {d : Nat} {c : Call} {f : FuncId} {svs args : List SV} {vs : List Value} {Y : Type} {val : Y → SV} {y0 : Y}
    (htri : Pur P f args u val y0) (hw : wantE l tm o = some true) (ho : o.dst = some d) (hn : Nat.blt d F.n.z = true) (hop : o.op = .call c) (hcal : calleeE tm c = some (f, svs)) (hc : callable P f = true)
    (hvs' : valsE [] args = some vs) (hvs : valsE L svs = some vs) (hok : (val y0).ok [] = true) (next : Run P Q F ((d, val y0) :: tm) L u q l r) (hq : q = .seq ∨ q = .quiet := by first | exact .inl rfl | exact .inr rfl) : Run P Q F tm L u q l (o :: r) := by
  rcases hq with rfl | rfl
  · exact r_call htri hw ho hn hop hcal hc hvs' hvs (fun y u' ⟨h1, h2⟩ => by subst h1; subst h2; exact next)
  · exact q_call y0 htri (fun y u' ⟨h1, h2⟩ => ⟨h1, h2 ▸ Le.refl _⟩) hw ho hn hop hcal hc hvs' hvs hok next
end Go.Sy
/- The data of the graphs, as cells. -/
namespace Go.Sy
theorem flat_get {α : Type} {c : α → List Value} {sz : Nat} (hc : ∀ x, (c x).length = sz) : ∀ (xs : List α) (i : Nat) (x : α), xs[i]? = some x → ∀ j v, (c x)[j]? = some v → (xs.flatMap c)[i * sz + j]? = some v
  | [], i, x, h, _, _, _ => by simp at h
  | y :: r, 0, x, h, j, v, hj => by
    simp only [List.getElem?_cons_zero, Option.some.injEq] at h; subst h
    have : j < (c y).length := (List.getElem?_eq_some_iff.1 hj).1
    simp only [Nat.zero_mul, Nat.zero_add, List.flatMap_cons]
    rw [List.getElem?_append_left this]; exact hj
  | y :: r, i + 1, x, h, j, v, hj => by
    simp only [List.getElem?_cons_succ] at h
    have ih := flat_get hc r i x h j v hj
    simp only [List.flatMap_cons]
    rw [List.getElem?_append_right (by rw [hc, Nat.add_mul]; omega), hc, show (i + 1) * sz + j - sz = i * sz + j by rw [Nat.add_mul]; omega]; exact ih
theorem flat_length {α : Type} {c : α → List Value} {sz : Nat} (hc : ∀ x, (c x).length = sz) : ∀ xs : List α, (xs.flatMap c).length = xs.length * sz
  | [] => by simp
  | y :: r => by simp [flat_length hc r, hc, Nat.add_mul, Nat.add_comm]
/-- A slice whose elements' cells are 'c x'. -/
def Rd {α : Type} (c : α → List Value) (sz : Nat) (u : Hp) (A : Option Addr) (n : Nat) (xs : List α) : Prop := n = xs.length ∧ Sl u A n sz (xs.flatMap c)
theorem Rd.le {α : Type} {c : α → List Value} {sz : Nat} {u u' : Hp} {A : Option Addr} {n : Nat} {xs : List α} (h : Rd c sz u A n xs) (hl : Le u u') : Rd c sz u' A n xs := ⟨h.1, h.2.le hl⟩
theorem Rd.elem {α : Type} {c : α → List Value} {sz : Nat} (hc : ∀ x, (c x).length = sz) {u : Hp} {A : Option Addr} {n : Nat} {xs : List α} (h : Rd c sz u A n xs) {i : Nat} (hi : i < xs.length) :
    ∃ b off x, A = some ⟨b, off, none⟩ ∧ xs.drop i = x :: xs.drop (i + 1) ∧ xs[i]? = some x ∧ x ∈ xs ∧ At u b (off + i * sz) (c x) := by
  obtain ⟨h1, h2⟩ := h
  cases A with
  | none => have := h2.nil rfl; omega
  | some ad =>
    obtain ⟨e1, hat⟩ := h2.at_ ad rfl (by omega)
    obtain ⟨b, off, sp⟩ := ad
    simp only at e1; subst e1
    refine ⟨b, off, xs[i], rfl, List.drop_eq_getElem_cons hi, List.getElem?_eq_getElem hi, List.getElem_mem hi, hat.sub (i * sz) fun j v hj => ?_⟩
    exact flat_get hc xs i xs[i] (List.getElem?_eq_getElem hi) j v hj
theorem set_snoc {α : Type} {c : α → List Value} {sz : Nat} (hc : ∀ x, (c x).length = sz) {z : List Value} (hz : z.length = sz) {xs : List α} {i : Nat} (x : α) (hl : xs.length = i) {n : Nat} (hn : i < n) :
    setL (xs.flatMap c ++ reps (n - i) z) (i * sz) (c x) = (xs ++ [x]).flatMap c ++ reps (n - (i + 1)) z := by
  have h1 : (xs.flatMap c).length = i * sz := by rw [flat_length hc, hl]
  have h2 : n - i = (n - (i + 1)) + 1 := by omega
  rw [h2]
  simp only [reps, setL, List.flatMap_append, List.flatMap_cons, List.flatMap_nil, List.append_nil]
  rw [List.take_left' h1, List.append_assoc]
  congr 2
  rw [List.drop_append, List.drop_eq_nil_of_le (by omega), List.nil_append, h1, hc]
  rw [show i * sz + sz - i * sz = sz by omega, List.drop_left' hz]
theorem take_snoc {α : Type} {xs : List α} {i : Nat} {x : α} (hx : xs[i]? = some x) : xs.take (i + 1) = xs.take i ++ [x] := by rw [List.take_add_one, hx]; rfl
theorem set_next {α : Type} {c : α → List Value} {sz : Nat} (hc : ∀ x, (c x).length = sz) {z : List Value} (hz : z.length = sz) {xs : List α} {i : Nat} {x : α} (hx : xs[i]? = some x) {n : Nat} (hn : n = xs.length) :
    setL ((xs.take i).flatMap c ++ reps (n - i) z) (i * sz) (c x) = (xs.take (i + 1)).flatMap c ++ reps (n - (i + 1)) z := by
  have hi : i < xs.length := (List.getElem?_eq_some_iff.1 hx).1
  rw [take_snoc hx]
  exact set_snoc hc hz x (by simp [Nat.min_eq_left (Nat.le_of_lt hi)]) (by omega)
structure V where
  k : Int
  n : Int
  s : ByteArray
  a : Int
structure Pr where
  key : V
  val : V
def V.c (v : V) : List Value := [.int .i64 v.k, .int .i64 v.n, .string v.s, .int .i64 v.a]
def V.sv (v : V) : List SV := [.v (.int .i64 v.k), .v (.int .i64 v.n), .v (.string v.s), .v (.int .i64 v.a)]
def Pr.c (p : Pr) : List Value := [.int .i64 p.key.k, .int .i64 p.key.n, .string p.key.s, .int .i64 p.key.a, .int .i64 p.val.k, .int .i64 p.val.n, .string p.val.s, .int .i64 p.val.a]
def Pr.sv (p : Pr) : List SV := [.v (.int .i64 p.key.k), .v (.int .i64 p.key.n), .v (.string p.key.s), .v (.int .i64 p.key.a), .v (.int .i64 p.val.k), .v (.int .i64 p.val.n), .v (.string p.val.s), .v (.int .i64 p.val.a)]
/-- What the texts, tables and lists are bounded by. -/
def V.okS (v : V) : Prop := v.s.size ≤ 9223372036854775807
def Pr.okS (p : Pr) : Prop := p.key.okS ∧ p.val.okS
def okPs (ps : List Pr) : Prop := ps.length ≤ 9223372036854775807 ∧ ∀ p ∈ ps, p.okS
def okTs (ts : List (List Pr)) : Prop := ts.length ≤ 9223372036854775807 ∧ ∀ t ∈ ts, okPs t
def gsv (v : V) (A : Option Addr) (n c : Nat) : List SV := [.v (.int .i64 v.k), .v (.int .i64 v.n), .v (.string v.s), .v (.int .i64 v.a), .v (.slice A n c)]
def zP : List Value := List.map ZV.val [.int .i64, .int .i64, .str, .int .i64, .int .i64, .int .i64, .str, .int .i64]
def zT : List Value := List.map ZV.val [.sl]
theorem V.c_len (v : V) : v.c.length = 4 := rfl
theorem Pr.c_len (p : Pr) : p.c.length = 8 := rfl
/-- A slice's header. -/
structure Hd where
  A : Option Addr
  n : Nat
  c : Nat
def Hd.v (h : Hd) : List Value := [.slice h.A h.n h.c]
theorem Hd.v_len (h : Hd) : h.v.length = 1 := rfl
abbrev Pairs (u : Hp) (A : Option Addr) (n : Nat) (ps : List Pr) : Prop := Rd Pr.c 8 u A n ps
/-- A slice of slices of pairs. -/
def Tabs (u : Hp) (A : Option Addr) (n : Nat) (ts : List (List Pr)) : Prop :=
  ∃ hs : List Hd, hs.length = ts.length ∧ Rd Hd.v 1 u A n hs ∧ ∀ (i : Nat) (h : Hd) (t : List Pr), hs[i]? = some h → ts[i]? = some t → h.n ≤ h.c ∧ Pairs u h.A h.n t
theorem Tabs.le {u u' : Hp} {A : Option Addr} {n : Nat} {ts : List (List Pr)} (h : Tabs u A n ts) (hl : Le u u') : Tabs u' A n ts :=
  let ⟨hs, h1, h2, h3⟩ := h; ⟨hs, h1, h2.le hl, fun i x t hx ht => ⟨(h3 i x t hx ht).1, (h3 i x t hx ht).2.le hl⟩⟩
theorem Tabs.len {u : Hp} {A : Option Addr} {n : Nat} {ts : List (List Pr)} (h : Tabs u A n ts) : n = ts.length := let ⟨_, h1, h2, _⟩ := h; h2.1.trans h1
theorem Tabs.elem {u : Hp} {A : Option Addr} {n : Nat} {ts : List (List Pr)} (h : Tabs u A n ts) {i : Nat} (hi : i < ts.length) :
    ∃ b off A' n' c' t, A = some ⟨b, off, none⟩ ∧ ts.drop i = t :: ts.drop (i + 1) ∧ ts[i]? = some t ∧ t ∈ ts ∧ At u b (off + i * 1) [.slice A' n' c'] ∧ n' ≤ c' ∧ Pairs u A' n' t := by
  obtain ⟨hs, h1, h2, h3⟩ := h
  obtain ⟨b, off, x, e1, e2, e3, e4, e5⟩ := h2.elem Hd.v_len (i := i) (by omega)
  have ht := List.getElem?_eq_getElem hi
  obtain ⟨g1, g2⟩ := h3 i x ts[i] e3 ht
  exact ⟨b, off, x.A, x.n, x.c, ts[i], e1, List.drop_eq_getElem_cons hi, ht, List.getElem_mem hi, e5, g1, g2⟩
theorem Own.live {u : Hp} {A : Option Addr} {n c : Nat} {e : TypeId} {sz : Nat} {cs : List Value} (h : Own u A n c e sz cs) {b : Nat} (hb : blk A = some b) : u b ≠ none := by
  cases A with
  | none => cases hb
  | some a =>
    obtain ⟨_, arr, g, _⟩ := h.row a rfl
    have e := Option.some.inj hb; subst e
    rw [g]; exact fun h => by cases h
/-- Rows of their own, all apart, none the block X. -/
structure ORows (u : Hp) (eP : TypeId) (X : Option Nat) (hs : List Hd) (ts : List (List Pr)) : Prop where
  len : hs.length = ts.length
  rows : ∀ (i : Nat) (x : Hd) (t : List Pr), hs[i]? = some x → ts[i]? = some t → x.n = t.length ∧ Own u x.A x.n x.c eP 8 (t.flatMap Pr.c)
  apart : ∀ (i : Nat) (x : Hd) (b : Nat), hs[i]? = some x → blk x.A = some b → X ≠ some b ∧ ∀ (j : Nat) (y : Hd), hs[j]? = some y → blk y.A = some b → i = j
theorem ORows.nil {u : Hp} {eP : TypeId} {X : Option Nat} : ORows u eP X [] [] := ⟨rfl, fun i x t h => by simp at h, fun i x b h => by simp at h⟩
theorem ORows.live {u : Hp} {eP : TypeId} {X : Option Nat} {hs : List Hd} {ts : List (List Pr)} (h : ORows u eP X hs ts) {x : Hd} (hx : x ∈ hs) {b : Nat} (hb : blk x.A = some b) : u b ≠ none := by
  obtain ⟨i, hi, e⟩ := List.getElem_of_mem hx
  have h1 : hs[i]? = some x := by rw [List.getElem?_eq_getElem hi, e]
  have h2 : i < ts.length := by have := h.len; omega
  exact (h.rows i x ts[i] h1 (List.getElem?_eq_getElem h2)).2.live hb
theorem ORows.keep {u u' : Hp} {eP : TypeId} {X : Option Nat} {hs : List Hd} {ts : List (List Pr)} (h : ORows u eP X hs ts) (hl : ∀ b o, (∃ x ∈ hs, blk x.A = some b) → u b = some o → u' b = some o) : ORows u' eP X hs ts :=
  ⟨h.len, fun i x t hx ht => ⟨(h.rows i x t hx ht).1, (h.rows i x t hx ht).2.le fun b o hb => hl b o ⟨x, List.mem_of_getElem? hx, hb⟩⟩, h.apart⟩
theorem ORows.snoc {u u' : Hp} {eP : TypeId} {X : Option Nat} {hs : List Hd} {ts : List (List Pr)} (h : ORows u eP X hs ts) (hl : ∀ b o, (∃ x ∈ hs, blk x.A = some b) → u b = some o → u' b = some o) {y : Hd} {t : List Pr} (hn : y.n = t.length)
    (hy : Own u' y.A y.n y.c eP 8 (t.flatMap Pr.c)) (hX : ∀ b, blk y.A = some b → X ≠ some b ∧ u b = none) : ORows u' eP X (hs ++ [y]) (ts ++ [t]) := by
  have hk := h.keep hl
  have hlen := h.len
  have hcase : ∀ {i : Nat} {x : Hd}, (hs ++ [y])[i]? = some x → (i < hs.length ∧ hs[i]? = some x) ∨ (i = hs.length ∧ x = y) := fun {i x} hx => by
    by_cases hi : i < hs.length
    · rw [List.getElem?_append_left hi] at hx; exact .inl ⟨hi, hx⟩
    · have h1 : i < (hs ++ [y]).length := (List.getElem?_eq_some_iff.1 hx).1
      simp at h1
      have : i = hs.length := by omega
      subst this
      simp at hx
      exact .inr ⟨rfl, hx.symm⟩
  refine ⟨by simp [hlen], fun i x t' hx ht => ?_, fun i x b hx hb => ?_⟩
  · rcases hcase hx with ⟨hi, hx⟩ | ⟨hi, rfl⟩
    · rw [List.getElem?_append_left (by omega)] at ht; exact hk.rows i x t' hx ht
    · rw [hi, hlen] at ht; simp at ht; subst ht; exact ⟨hn, hy⟩
  · rcases hcase hx with ⟨hi, hx1⟩ | ⟨hi, rfl⟩
    · refine ⟨(h.apart i x b hx1 hb).1, fun j z hz hzb => ?_⟩
      rcases hcase hz with ⟨hj, hz1⟩ | ⟨hj, rfl⟩
      · exact (h.apart i x b hx1 hb).2 j z hz1 hzb
      · exact absurd (hX b hzb).2 (h.live (List.mem_of_getElem? hx1) hb)
    · refine ⟨(hX b hb).1, fun j z hz hzb => ?_⟩
      rcases hcase hz with ⟨hj, hz1⟩ | ⟨hj, rfl⟩
      · exact absurd (hX b hb).2 (h.live (List.mem_of_getElem? hz1) hzb)
      · rw [hi, hj]
/-- Owned tables: the row of headers, and each table's own row, all apart. -/
structure OT (u : Hp) (eT eP : TypeId) (A : Option Addr) (n c : Nat) (hs : List Hd) (ts : List (List Pr)) : Prop where
  num : n = ts.length
  own : Own u A n c eT 1 (hs.flatMap Hd.v)
  rows : ORows u eP (blk A) hs ts
def OffAll (h : Hp) (A : Option Addr) (hs : List Hd) : Prop := Off h A ∧ ∀ x ∈ hs, Off h x.A
theorem OT.tabs {u : Hp} {eT eP : TypeId} {A : Option Addr} {n c : Nat} {hs : List Hd} {ts : List (List Pr)} (h : OT u eT eP A n c hs ts) : Tabs u A n ts :=
  ⟨hs, h.rows.len, ⟨by rw [h.num, h.rows.len], h.own.sl⟩, fun i x t hx ht => ⟨(h.rows.rows i x t hx ht).2.cap, (h.rows.rows i x t hx ht).1, (h.rows.rows i x t hx ht).2.sl⟩⟩
theorem OT.keep {u u' : Hp} {eT eP : TypeId} {A : Option Addr} {n c : Nat} {hs : List Hd} {ts : List (List Pr)} (h : OT u eT eP A n c hs ts) (hl : ∀ b o, (blk A = some b ∨ ∃ x ∈ hs, blk x.A = some b) → u b = some o → u' b = some o) : OT u' eT eP A n c hs ts :=
  ⟨h.num, h.own.le fun b o hb => hl b o (.inl hb), h.rows.keep fun b o hb => hl b o (.inr hb)⟩
theorem OT.le {u u' : Hp} {eT eP : TypeId} {A : Option Addr} {n c : Nat} {hs : List Hd} {ts : List (List Pr)} (h : OT u eT eP A n c hs ts) (hl : Le u u') : OT u' eT eP A n c hs ts := h.keep fun b o _ => hl b o
theorem OT.elem {u : Hp} {eT eP : TypeId} {A : Option Addr} {n c : Nat} {hs : List Hd} {ts : List (List Pr)} (h : OT u eT eP A n c hs ts) {i : Nat} (hi : i < ts.length) :
    ∃ b off y t, A = some ⟨b, off, none⟩ ∧ ts.drop i = t :: ts.drop (i + 1) ∧ hs[i]? = some y ∧ ts[i]? = some t ∧ t ∈ ts ∧ At u b (off + i * 1) [.slice y.A y.n y.c] ∧ y.n = t.length ∧ Own u y.A y.n y.c eP 8 (t.flatMap Pr.c) := by
  have hR : Rd Hd.v 1 u A n hs := ⟨by rw [h.num, h.rows.len], h.own.sl⟩
  obtain ⟨b, off, y, e1, e2, e3, e4, e5⟩ := hR.elem Hd.v_len (i := i) (by rw [h.rows.len]; exact hi)
  have ht := List.getElem?_eq_getElem hi
  obtain ⟨g1, g2⟩ := h.rows.rows i y ts[i] e3 ht
  exact ⟨b, off, y, ts[i], e1, List.drop_eq_getElem_cons hi, e3, ht, List.getElem_mem hi, e5, g1, g2⟩
/-- One row is another now. -/
theorem OT.set {u u' : Hp} {eT eP : TypeId} {A : Option Addr} {n c : Nat} {hs : List Hd} {pre post : List (List Pr)} {t t' : List Pr} {y : Hd} (h : OT u eT eP A n c hs (pre ++ t :: post)) (hy : hs[pre.length]? = some y) (hl : t'.length = t.length)
    (hO : Own u' y.A y.n y.c eP 8 (t'.flatMap Pr.c)) (hu : ∀ b, blk y.A ≠ some b → u' b = u b) : OT u' eT eP A n c hs (pre ++ t' :: post) := by
  refine ⟨by have := h.num; simp at this ⊢; omega, h.own.le fun b o hb ho => ?_, ⟨by have := h.rows.len; simp at this ⊢; omega, fun i x s hx hs' => ?_, h.rows.apart⟩⟩
  · rw [hu b (fun e => (h.rows.apart _ y b hy e).1 hb)]; exact ho
  · by_cases hi : i = pre.length
    · subst hi
      rw [hy] at hx
      have e := Option.some.inj hx; subst e
      simp at hs'
      subst hs'
      have := (h.rows.rows pre.length y t hy (by simp)).1
      exact ⟨by rw [this, hl], hO⟩
    · have hs2 : (pre ++ t :: post)[i]? = some s := by
        rw [List.getElem?_append] at hs' ⊢
        split
        · rename_i hlt; rw [if_pos hlt] at hs'; exact hs'
        · rename_i hlt; rw [if_neg hlt] at hs'
          rw [List.getElem?_cons] at hs' ⊢
          have : i - pre.length ≠ 0 := by omega
          rw [if_neg this] at hs' ⊢; exact hs'
      obtain ⟨g1, g2⟩ := h.rows.rows i x s hx hs2
      refine ⟨g1, g2.le fun b o hb ho => ?_⟩
      rw [hu b (fun e => hi ((h.rows.apart i x b hx hb).2 pre.length y hy e))]; exact ho
end Go.Sy
