/- The walk by a symbolic frame: a few rules more. -/
import Derived.Test.YtkamfnmbidnhdaaDoorSyIK
set_option linter.unusedVariables false
set_option linter.unusedSimpArgs false
set_option linter.unusedSectionVars false
namespace Go.Sy
set_option linter.unusedSimpArgs false
section
variable {P : Program} {T : List (Nat × TI)} {F : Fr} {tm : Tm} {L : Lm} {u : Hp} {n : FN} {N : World} {β : Nat → Nat} {k : Hp} {a : Act} {w : World} {Q : Exit → Act → World → Prop}
theorem c_yes {c : Operand} {x y : Code} {p : Prop} [Decidable p] (hc : ev tm c = some (.v (.bool (decide p)))) (hp : p) (h1 : St F tm L u (fun a w => x.wp P Q a w)) : St F tm L u (fun a w => (Code.cond c x y).wp P Q a w) :=
  r_cond_dec hc (fun _ => h1) (fun h => absurd hp h)
theorem c_no {c : Operand} {x y : Code} {p : Prop} [Decidable p] (hc : ev tm c = some (.v (.bool (decide p)))) (hp : ¬ p) (h1 : St F tm L u (fun a w => y.wp P Q a w)) : St F tm L u (fun a w => (Code.cond c x y).wp P Q a w) :=
  r_cond_dec hc (fun h => absurd h hp) (fun _ => h1)
/-- not p -/
theorem c_not {c : Operand} {x y : Code} {p : Prop} [Decidable p] (hc : ev tm c = some (.v (.bool (!decide p)))) (h1 : ¬ p → St F tm L u (fun a w => x.wp P Q a w)) (h2 : p → St F tm L u (fun a w => y.wp P Q a w)) :
    St F tm L u (fun a w => (Code.cond c x y).wp P Q a w) :=
  r_cond hc (fun e => h1 (by simpa using e)) (fun e => h2 (by simpa using e))
theorem Den.weak (hd : Den β L u k N w) {v : Hp} (hl : Le v u) : Den β L v k N w :=
  ⟨hd.loc, hd.inj, fun b o hb => hd.ext b o (hl b o hb), fun b o hb => ⟨(hd.hid b o hb).1, (by
    cases hv : v b with
    | none => rfl
    | some o' => (have := hl b o' hv; rw [(hd.hid b o hb).2.1] at this; cases this)), (hd.hid b o hb).2.2⟩, hd.size⟩
/-- Fewer blocks beyond the frame. -/
theorem St.weak {Φ : Act → World → Prop} {v : Hp} (hl : Le v u) (h : St F tm L v Φ) : St F tm L u Φ := fun β a w hf ht hd => h β a w hf ht (hd.weak hl)
/-- In a region whose order is drawn: a call that leaves all that is known, and always answers the same. -/
theorem q_call {l : List Oper} {o : Oper} {r : List Oper} {d : Nat} {c : Call} {f : FuncId} {svs args : List SV} {vs : List Value} {Y : Type} {val : Y → SV} {ψ : Y → Hp → Prop} (y0 : Y)
    (htri : TriS P f args [] u val (fun _ => []) ψ) (hψ : ∀ y u', ψ y u' → y = y0 ∧ Le u u') (hw : wantE l tm o = some true) (ho : o.dst = some d) (hn : Nat.blt d F.n.z = true) (hop : o.op = .call c) (hcal : calleeE tm c = some (f, svs)) (hc : callable P f = true)
    (hvs' : valsE [] args = some vs) (hvs : valsE L svs = some vs) (hok : (val y0).ok [] = true) (next : Run P Q F ((d, val y0) :: tm) L u .quiet l r) : Run P Q F tm L u .quiet l (o :: r) := by
  intro β a w hf ht hd
  show (if _ then _ else _)
  rw [if_pos (wantE_ok hw ht)]
  have hk' : (val y0).ok L = true := ok_more (fun i hi => by simp [kget] at hi) _ hok
  refine ⟨(val y0).den β, fun w' hw' => ?_, ?_⟩
  · unfold Oper.quietAt
    rw [calleeE_ok hop hcal hc ht hw', valsE_den hw'.bn hvs]
    refine ⟨rfl, (htri List.nodup_nil (fun b hb => by simp [names] at hb) vs u hvs' rfl _ _ w' (den0_of hw')).mono ?_⟩
    rintro e w'' ⟨v, h'', rfl, ⟨y, h', h1, h2, h3, h4⟩, h5⟩
    simp only [addsE, Option.some.injEq] at h2; subst h2
    obtain ⟨rfl, hle⟩ := hψ y h' h4
    refine ⟨?_, (den_back hw' h5).weak hle⟩
    rw [valE_den (L := []) (β := β) (fun i B b hB => by simp [kget] at hB) h1]
  · rw [ho]; exact next β _ w hf (put_rel hn ht hk') hd
theorem own_set {u : Hp} {b off n c : Nat} {e : TypeId} {sz o : Nat} {cs vs : List Value} {arr : Array Value} (h : Own u (some ⟨b, off, none⟩) n c e sz cs) (hb : u b = some (.cells arr e (0, 0))) (hl : o + vs.length ≤ cs.length) :
    Own (upd u b (.cells (setL arr.toList (off + o) vs).toArray e (0, 0))) (some ⟨b, off, none⟩) n c e sz (setL cs o vs) := by
  obtain ⟨_, arr', g1, g2, g3⟩ := h.row _ rfl
  simp only at g1 g2 g3
  rw [hb] at g1
  have e1 := Option.some.inj g1
  simp only [Obj.cells.injEq] at e1
  obtain ⟨rfl, _, _⟩ := e1
  have hfit : off + o + vs.length ≤ arr.toList.length := by
    have := h.len; have := Nat.mul_le_mul_right sz h.cap; simp; omega
  refine ⟨by rw [setL_length _ _ _ hl]; exact h.len, h.cap, fun h => (by cases h), fun a ha => ?_⟩
  have e2 := Option.some.inj ha; subst e2
  refine ⟨rfl, _, upd_here .., by simpa [setL_length _ _ _ hfit] using g2, fun j v hj => ?_⟩
  simp only [List.getElem?_toArray]
  rw [setL_get _ _ _ hl] at hj
  rw [setL_get _ _ _ hfit]
  split at hj
  · rename_i hc; rw [if_pos (by omega), show off + j - (off + o) = j - o by omega]; exact hj
  · rename_i hc; rw [if_neg (by omega)]; simpa using g3 j v hj
theorem valsE_length : ∀ {l : List SV} {r : List Value}, valsE L l = some r → r.length = l.length
  | [], r, h => by simp only [valsE, Option.some.injEq] at h; subst h; rfl
  | s :: l, r, h => by
    simp only [valsE] at h
    split at h
    · split at h
      · rename_i l' hl'; have e := Option.some.inj h; subst e; simp [valsE_length hl']
      · cases h
    · cases h
/-- make([]T, n), n a count -/
theorem r_makeN (hT : TOK P T) {l : List Oper} {o : Oper} {r : List Oper} {d : Nat} {t e : TypeId} {ti te : TI} {x y : Operand} {kx ky : IntKind} {i : Nat}
    (hw : wantE l tm o = some true) (ho : o.dst = some d) (hn : Nat.blt d F.n.z = true) (hop : o.op = .makeSlice t x y) (ht : kget T t = some ti) (hk : ti.kind = .slice e) (he : kget T e = some te) (hz0 : te.zero ≠ [])
    (hx : ev tm x = some (.v (.int kx (i : Int)))) (hy : ev tm y = some (.v (.int ky (i : Int)))) (hb : te.bytes * i ≤ 281474976710656) (h63 : i ≤ 9223372036854775807)
    (next : ∀ b, u b = none → Run P Q F ((d, .v (.slice (some ⟨b, 0, none⟩) i i)) :: tm) L (upd u b (.cells (reps i (te.zero.map ZV.val)).toArray e (0, 0))) .seq l r) :
    Run P Q F tm L u .seq l (o :: r) :=
  r_make hT hw ho hn hop ht hk he hz0 hx hy (Int.natCast_nonneg i) (by have : ((te.bytes * i : Nat) : Int) ≤ 281474976710656 := by omega
                                                                       simpa using this) (by omega) (fun b hb => by simpa using next b hb)
theorem own_made {u : Hp} {b m : Nat} {e : TypeId} {z : List Value} {sz : Nat} (hz : z.length = sz) : Own (upd u b (.cells (reps m z).toArray e (0, 0))) (some ⟨b, 0, none⟩) m m e sz (reps m z) :=
  ⟨by rw [reps_length, hz], Nat.le_refl _, fun h => (by cases h), fun a ha => by
    have e := Option.some.inj ha; subst e
    exact ⟨rfl, _, upd_here .., by simp [reps_length, hz], fun j v hj => by simpa using hj⟩⟩
/-- A store into a row of its own. -/
theorem r_store_own (hT : TOK P T) {l : List Oper} {op : Oper} {r : List Oper} {t e : TypeId} {ti : TI} {x y : Operand} {b off o o' n c sz : Nat} {s : SV} {cs : List SV} {vs ws : List Value}
    (hO : Own u (some ⟨b, off, none⟩) n c e sz ws) (hw : wantE l tm op = some true) (hdst : op.dst = none) (hop : op.op = .store t x y) (hx : ev tm x = some (.v (.pointer (some ⟨b, o', none⟩)))) (hoo : o' = off + o)
    (hy : ev tm y = some s) (ht : kget T t = some ti) (hc : cellsE ti.kind.agg s = some cs) (hl : lenIs cs ti.size = true) (ho1 : onesE cs = true) (hv : valsE L cs = some vs) (hlt : o + ti.size ≤ ws.length)
    (next : ∀ u', Own u' (some ⟨b, off, none⟩) n c e sz (setL ws o vs) → (∀ x, x ≠ b → u' x = u x) → Run P Q F tm L u' .seq l r) : Run P Q F tm L u .seq l (op :: r) := by
  obtain ⟨_, arr, g1, g2, g3⟩ := hO.row _ rfl
  simp only at g1 g2 g3
  subst hoo
  have hlen := lenIs_eq hl
  have hvl : vs.length = ti.size := by rw [valsE_length hv, hlen]
  have hfit : off + o + ti.size ≤ arr.size := by
    have := hO.len; have := Nat.mul_le_mul_right sz hO.cap; omega
  exact r_store hT hw hdst hop hx hy ht hc hl ho1 hv g1 hfit (next _ (own_set hO g1 (by rw [hvl]; exact hlt)) (fun x hx => upd_ne hx))
theorem r_ld0 (hT : TOK P T) {q : Md} {l : List Oper} {op : Oper} {r : List Oper} {d : Nat} {t : TypeId} {ti : TI} {x : Operand} {b o : Nat} {cs ds' : List Value} {s : SV} (hat : At u b o cs)
    (hw : wantE l tm op = some true) (hdst : op.dst = some d) (hn : Nat.blt d F.n.z = true) (hop : op.op = .load t x) (hx : ev tm x = some (.v (.pointer (some ⟨b, o, none⟩)))) (ht : kget T t = some ti)
    (hds' : takeE ti.size cs = some ds') (hs : svl ti.kind.agg ds' = some s) (h1 : Nat.beq ti.size 0 = false) (next : Run P Q F ((d, s) :: tm) L u q l r) : Run P Q F tm L u q l (op :: r) :=
  r_load hT hat hw hdst hn hop hx (Nat.add_zero _).symm ht rfl hds' hs h1 next
theorem r_ld1 (hT : TOK P T) {q : Md} {l : List Oper} {op : Oper} {r : List Oper} {d : Nat} {t : TypeId} {ti : TI} {x : Operand} {b o f : Nat} {cs ds ds' : List Value} {s : SV} (hat : At u b o cs)
    (hw : wantE l tm op = some true) (hdst : op.dst = some d) (hn : Nat.blt d F.n.z = true) (hop : op.op = .load t x) (hx : ev tm x = some (.v (.pointer (some ⟨b, o + f, none⟩)))) (ht : kget T t = some ti)
    (hds : dropE f cs = some ds) (hds' : takeE ti.size ds = some ds') (hs : svl ti.kind.agg ds' = some s) (h1 : Nat.beq ti.size 0 = false) (next : Run P Q F ((d, s) :: tm) L u q l r) : Run P Q F tm L u q l (op :: r) :=
  r_load hT hat hw hdst hn hop hx rfl ht hds hds' hs h1 next
theorem r_ld2 (hT : TOK P T) {q : Md} {l : List Oper} {op : Oper} {r : List Oper} {d : Nat} {t : TypeId} {ti : TI} {x : Operand} {b o f g : Nat} {cs ds ds' : List Value} {s : SV} (hat : At u b o cs)
    (hw : wantE l tm op = some true) (hdst : op.dst = some d) (hn : Nat.blt d F.n.z = true) (hop : op.op = .load t x) (hx : ev tm x = some (.v (.pointer (some ⟨b, o + f + g, none⟩)))) (ht : kget T t = some ti)
    (hds : dropE (f + g) cs = some ds) (hds' : takeE ti.size ds = some ds') (hs : svl ti.kind.agg ds' = some s) (h1 : Nat.beq ti.size 0 = false) (next : Run P Q F ((d, s) :: tm) L u q l r) : Run P Q F tm L u q l (op :: r) :=
  r_load hT hat hw hdst hn hop hx (Nat.add_assoc _ _ _) ht hds hds' hs h1 next
theorem own_some {A : Option Addr} {n c : Nat} {e : TypeId} {sz i : Nat} {cs : List Value} (h : Own u A n c e sz cs) (hi : i < n) : ∃ b off, A = some ⟨b, off, none⟩ := by
  cases A with
  | none => have := h.nil rfl; have := h.cap; omega
  | some a => obtain ⟨b, o, sp⟩ := a; have := (h.row _ rfl).1; simp only at this; subst this; exact ⟨b, o, rfl⟩
def ovr : List Value → List Value → Option (List Value)
  | [], l => some l
  | y :: ys, l => match l with
    | [] => none
    | _ :: l => match ovr ys l with
      | some r => some (y :: r)
      | none => none
def setV : Nat → List Value → List Value → Option (List Value)
  | 0, l, ys => ovr ys l
  | n + 1, l, ys => match l with
    | [] => none
    | x :: l => match setV n l ys with
      | some r => some (x :: r)
      | none => none
theorem ovr_eq : ∀ (ys l r : List Value), ovr ys l = some r → ys.length ≤ l.length ∧ r = setL l 0 ys
  | [], l, r, h => by simp only [ovr, Option.some.injEq] at h; subst h; simp [setL_nil]
  | y :: ys, [], r, h => by simp [ovr] at h
  | y :: ys, x :: l, r, h => by
    simp only [ovr] at h
    split at h
    · rename_i r' hr
      obtain ⟨h1, h2⟩ := ovr_eq ys l r' hr
      have h' := Option.some.inj h; subst h'; subst h2
      exact ⟨by simp; omega, by simp [setL]⟩
    · cases h
theorem setV_eq : ∀ (n : Nat) (l ys r : List Value), setV n l ys = some r → n + ys.length ≤ l.length ∧ r = setL l n ys
  | 0, l, ys, r, h => by have := ovr_eq ys l r h; simpa using this
  | n + 1, [], ys, r, h => by simp [setV] at h
  | n + 1, x :: l, ys, r, h => by
    simp only [setV] at h
    split at h
    · rename_i r' hr
      obtain ⟨h1, h2⟩ := setV_eq n l ys r' hr
      have h' := Option.some.inj h; subst h'; subst h2
      refine ⟨by simp at h1 ⊢; omega, ?_⟩
      simp only [setL, List.take_succ_cons, List.cons_append]
      rw [show n + 1 + ys.length = (n + ys.length) + 1 by omega, List.drop_succ_cons]
    · cases h
theorem setL_pre {α : Type} (pre l : List α) (o : Nat) (vs : List α) : setL (pre ++ l) (pre.length + o) vs = pre ++ setL l o vs := by
  simp only [setL]
  rw [List.take_append, List.take_of_length_le (by omega), show pre.length + o - pre.length = o by omega, List.append_assoc, List.drop_append, List.drop_eq_nil_of_le (by omega), List.nil_append,
    show pre.length + o + vs.length - pre.length = o + vs.length by omega]
/-- A store into a row of its own, at the place behind 'pre', f1 + f2 cells on; all else is as in w0. -/
theorem r_store_row2 (hT : TOK P T) {l : List Oper} {op : Oper} {r : List Oper} {t e : TypeId} {ti : TI} {x y : Operand} {b off q f1 f2 n c sz : Nat} {s : SV} {cs : List SV} {vs pre l1 l2 : List Value} {w0 : Hp}
    (hO : Own u (some ⟨b, off, none⟩) n c e sz (pre ++ l1)) (hK : ∀ x, x ≠ b → u x = w0 x) (hw : wantE l tm op = some true) (hdst : op.dst = none) (hop : op.op = .store t x y) (hx : ev tm x = some (.v (.pointer (some ⟨b, q + f1 + f2, none⟩)))) (hq : q = off + pre.length)
    (hy : ev tm y = some s) (ht : kget T t = some ti) (hc : cellsE ti.kind.agg s = some cs) (hl : lenIs cs ti.size = true) (ho1 : onesE cs = true) (hv : valsE L cs = some vs) (hset : setV (f1 + f2) l1 vs = some l2)
    (next : ∀ u', Own u' (some ⟨b, off, none⟩) n c e sz (pre ++ l2) → (∀ x, x ≠ b → u' x = w0 x) → Run P Q F tm L u' .seq l r) : Run P Q F tm L u .seq l (op :: r) := by
  obtain ⟨g1, g2⟩ := setV_eq _ _ _ _ hset
  have hvl : vs.length = ti.size := by rw [valsE_length hv, lenIs_eq hl]
  refine r_store_own hT hO hw hdst hop hx (o := pre.length + (f1 + f2)) (by omega) hy ht hc hl ho1 hv (by simp; omega) (fun u' h1 h2 => ?_)
  rw [setL_pre, ← g2] at h1
  exact next u' h1 (fun x hx => (h2 x hx).trans (hK x hx))
end
/-- A call that answers r and leaves the heap as it is. -/
abbrev Pur (P : Program) (f : FuncId) (args : List SV) (h : Hp) {Y : Type} (val : Y → SV) (r : Y) : Prop := TriS P f args [] h val (fun _ => []) (fun y h' => y = r ∧ h' = h)
theorem p_call {P : Program} {F : Fr} {tm : Tm} {L : Lm} {u : Hp} {Q : Exit → Act → World → Prop} {q : Md} {l : List Oper} {o : Oper} {r : List Oper} {d : Nat} {c : Call} {f : FuncId} {svs args : List SV} {vs : List Value} {Y : Type} {val : Y → SV} {y0 : Y}
    (htri : Pur P f args u val y0) (hw : wantE l tm o = some true) (ho : o.dst = some d) (hn : Nat.blt d F.n.z = true) (hop : o.op = .call c) (hcal : calleeE tm c = some (f, svs)) (hc : callable P f = true)
    (hvs' : valsE [] args = some vs) (hvs : valsE L svs = some vs) (hok : (val y0).ok [] = true) (next : Run P Q F ((d, val y0) :: tm) L u q l r) (hq : q = .seq ∨ q = .quiet := by first | exact .inl rfl | exact .inr rfl) : Run P Q F tm L u q l (o :: r) := by
  rcases hq with rfl | rfl
  · exact r_call htri hw ho hn hop hcal hc hvs' hvs (fun y u' ⟨h1, h2⟩ => by subst h1; subst h2; exact next)
  · exact q_call y0 htri (fun y u' ⟨h1, h2⟩ => ⟨h1, h2 ▸ Le.refl _⟩) hw ho hn hop hcal hc hvs' hvs hok next
end Go.Sy
