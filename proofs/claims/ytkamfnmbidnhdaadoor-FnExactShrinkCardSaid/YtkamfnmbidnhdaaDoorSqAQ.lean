/- The walk by a symbolic frame: in a region that draws its order, operations that only read are taken first at any time. Over any program; no condition. -/
import Derived.Test.YtkamfnmbidnhdaaDoorSqAH
import Derived.Test.YtkamfnmbidnhdaaDoorSqAG
import Derived.Defers
import Derived.Recover
import Derived.Test.YtkamfnmbidnhdaaDoorSqAI
import Derived.Shelf.Small.Strs
import Derived.Test.YtkamfnmbidnhdaaDoorProg
set_option linter.unusedVariables false
set_option linter.unusedSimpArgs false
set_option linter.unusedSectionVars false
namespace Go.Sy
set_option linter.unusedVariables false
section
variable {P : Program} {T : List (Nat × TI)} {tm : Tm} {L : Lm} {u : Hp}
theorem RelT.moved {n : FN} {β β' : Nat → Nat} {a : Act} (hb : ∀ i, (kget L i).isSome = true → β' i = β i) (ht : RelT n L β tm a) : RelT n L β' tm a :=
  ⟨ht.size, by rw [ht.defers]; exact (dvs_same hb ht.dok).symm, ht.dok, fun t s hs => ⟨by rw [den_same hb s (ht.get t s hs).2]; exact (ht.get t s hs).1, (ht.get t s hs).2⟩⟩
theorem m_still {F0 : Fr} {u0 : Hp} {β0 : Nat → Nat} {pres : Nat → Bool} {Z : Act → World → Prop} {l lo : List Oper} {fuel : Nat} {lb lb' : List Bool} (π : List Nat) (hsel : Region.noSelect l.toArray = true) (hlo : selE l π = some lo)
    (hB : preB .any l.toArray pres π lb.toArray = true) (hl : lsB π lb = lb') (hu : Le u0 u) {fuel' : Nat} (hf' : Nat.beq fuel' (fuel + π.length) = true)
    (h : Run P (nf (fun a w => Cls F0 L u β0 w → ExL P l pres (Cls F0 L u0 β0) Z fuel lb' a w)) (fen F0 L β0) tm L u0 .still l lo) : St (fen F0 L β0) tm L u (ExL P l pres (Cls F0 L u0 β0) Z fuel' lb) := by
  obtain rfl := Nat.eq_of_beq_eq_true hf'
  intro β a w hf ht hd
  have hb : ∀ i, (kget L i).isSome = true → β0 i = β i := fun i hi => ((hf i (keysOf_get.2 hi)).1).symm
  have hd0 : Den β0 L u F0.k F0.N w := Den.moved hb hd
  have hfe : Fence (fen F0 L β0) L β0 := fun i hi => ⟨rfl, keysOf_get.1 hi⟩
  have hw : Den β0 L u0 F0.k F0.N w := hd0.weak hu
  have key := h β0 a w hfe (RelT.moved hb ht) hw
  subst hl
  refine wpAnyC_preW hsel π lo _ a w fuel hlo hB hw (wpStillC_imp (fun a' h' => ?_) key)
  have := h' w hw hd0
  rw [lsB_eq]
  exact this
theorem m_stillD {F0 : Fr} {u0 : Hp} {β0 : Nat → Nat} {pres : Nat → Bool} {Z : Act → World → Prop} {l lo : List Oper} {fuel : Nat} {lb lb' : List Bool} (π : List Nat) (hsel : Region.noSelect l.toArray = true) (hlo : selE l π = some lo)
    (hB : preD .any l.toArray pres π lb.toArray = true) (hl : lsB π lb = lb') (hu : Le u0 u) {fuel' : Nat} (hf' : Nat.beq fuel' (fuel + π.length) = true)
    (h : Run P (nf (fun a w => Cls F0 L u β0 w → ExL P l pres (Cls F0 L u0 β0) Z fuel lb' a w)) (fen F0 L β0) tm L u0 .still l lo) : St (fen F0 L β0) tm L u (ExL P l pres (Cls F0 L u0 β0) Z fuel' lb) := by
  obtain rfl := Nat.eq_of_beq_eq_true hf'
  intro β a w hf ht hd
  have hb : ∀ i, (kget L i).isSome = true → β0 i = β i := fun i hi => ((hf i (keysOf_get.2 hi)).1).symm
  have hd0 : Den β0 L u F0.k F0.N w := Den.moved hb hd
  have hfe : Fence (fen F0 L β0) L β0 := fun i hi => ⟨rfl, keysOf_get.1 hi⟩
  have hw : Den β0 L u0 F0.k F0.N w := hd0.weak hu
  have key := h β0 a w hfe (RelT.moved hb ht) hw
  subst hl
  refine wpAnyC_preDW hsel π lo _ a w fuel hlo hB hw (wpStillC_imp (fun a' h' => ?_) key)
  have := h' w hw hd0
  rw [lsB_eq]
  exact this
end
end Go.Sy
/- The walk by a symbolic frame: slices cut, nil compared, min, interfaces, deferred calls, panics. -/
namespace Go.Sy
set_option linter.unusedVariables false
set_option linter.unusedSimpArgs false
def subA (A : Option Addr) (c l sz : Nat) : Option Addr := if c = l then A else A.map (·.add (l * sz))
section
variable {P : Program} {T : List (Nat × TI)} {F : Fr} {tm : Tm} {L : Lm} {u : Hp} {n : FN} {N : World} {β : Nat → Nat} {k : Hp} {a : Act} {w : World} {Q : Exit → Act → World → Prop}
theorem Sl.sub {A : Option Addr} {m c sz l h : Nat} {cs : List Value} (hS : Sl u A m sz cs) (hl : l ≤ h) (hh : h ≤ m) (hc : m ≤ c) : Sl u (subA A c l sz) (h - l) sz ((cs.drop (l * sz)).take ((h - l) * sz)) := by
  have hlen := hS.len
  have hmul : h * sz ≤ m * sz := Nat.mul_le_mul_right _ hh
  have hsub : (h - l) * sz = h * sz - l * sz := Nat.sub_mul _ _ _
  have hml : l * sz ≤ h * sz := Nat.mul_le_mul_right _ hl
  refine ⟨by rw [List.length_take, List.length_drop, hlen]; omega, fun ha => ?_, fun a ha hne => ?_⟩
  · have : A = none := by
      unfold subA at ha
      split at ha
      · exact ha
      · simpa using ha
    have := hS.nil this
    omega
  · unfold subA at ha
    rw [if_neg (by omega)] at ha
    cases A with
    | none => simp at ha
    | some a0 =>
      simp only [Option.map_some, Option.some.injEq] at ha
      obtain ⟨h1, arr, t, fr, h2, h3⟩ := hS.at_ a0 rfl (by omega)
      obtain ⟨b, o, sp⟩ := a0
      simp only at h1; subst h1
      have hadd : (⟨b, o, none⟩ : Addr).add (l * sz) = ⟨b, o + l * sz, none⟩ := by simp only [Addr.add]; split <;> simp_all
      rw [hadd] at ha; subst ha
      refine ⟨rfl, arr, t, fr, h2, fun j v hj => ?_⟩
      rw [List.getElem?_take] at hj
      split at hj
      · rw [List.getElem?_drop] at hj
        have := h3 _ v hj
        rw [← Nat.add_assoc] at this; exact this
      · cases hj
theorem flat_drop {α : Type} {c : α → List Value} {sz : Nat} (hc : ∀ x, (c x).length = sz) : ∀ (i : Nat) (xs : List α), (xs.flatMap c).drop (i * sz) = (xs.drop i).flatMap c
  | 0, xs => by simp
  | i + 1, [] => by simp
  | i + 1, x :: xs => by
    rw [List.flatMap_cons, List.drop_succ_cons, ← flat_drop hc i xs, List.drop_append, List.drop_eq_nil_of_le (by rw [hc, Nat.add_mul]; omega), List.nil_append, hc]
    congr 1; rw [Nat.add_mul]; omega
theorem flat_take {α : Type} {c : α → List Value} {sz : Nat} (hc : ∀ x, (c x).length = sz) : ∀ (i : Nat) (xs : List α), (xs.flatMap c).take (i * sz) = (xs.take i).flatMap c
  | 0, xs => by simp
  | i + 1, [] => by simp
  | i + 1, x :: xs => by
    rw [List.flatMap_cons, List.take_succ_cons, List.flatMap_cons, ← flat_take hc i xs, List.take_append, List.take_of_length_le (by rw [hc, Nat.add_mul]; omega), hc]
    congr 2; rw [Nat.add_mul]; omega
theorem Rd.sub {α : Type} {c : α → List Value} {sz : Nat} (hc : ∀ x, (c x).length = sz) {A : Option Addr} {m cap l h : Nat} {xs : List α} (hS : Rd c sz u A m xs) (hl : l ≤ h) (hh : h ≤ m) (hcap : m ≤ cap) :
    Rd c sz u (subA A cap l sz) (h - l) ((xs.drop l).take (h - l)) := by
  obtain ⟨h1, h2⟩ := hS
  refine ⟨by rw [List.length_take, List.length_drop]; omega, ?_⟩
  have := h2.sub hl hh hcap
  rwa [flat_drop hc, flat_take hc] at this
theorem slice_run (hT : TOK P T) {t e : TypeId} {ti te : TI} (ht : kget T t = some ti) (hk : ti.kind = .slice e) (he : kget T e = some te) {A : Option Addr} {m c l h : Nat} {lo hi : Option Value} (hl : l ≤ h) (hh : h ≤ c)
    (h1 : (lo = none ∧ l = 0) ∨ ∃ kk, lo = some (.int kk (l : Int))) (h2 : (hi = none ∧ h = m) ∨ ∃ kk, hi = some (.int kk (h : Int))) :
    (Instr.sliceAt t (.slice A m c) lo hi none).run P w = .ok (.slice (subA A c l te.size) (h - l) (c - l)) w := by
  have hu := run_und (elem_of hT ht hk) w
  have hsz := run_size (hT e te he) w
  have hb : (Instr.sliceBounds true m c lo hi none).run P w = .ok (l, h, c) w := by
    rcases h1 with ⟨rfl, rfl⟩ | ⟨kk, rfl⟩ <;> rcases h2 with ⟨rfl, rfl⟩ | ⟨kk', rfl⟩ <;> simp [Instr.sliceBounds, Instr.sliceBound, asIntOf, hl, hh]
  unfold Instr.sliceAt Instr.slice
  simp only [Sem.run_bind, hu, Result.andThen_ok, hb, hsz, Sem.run_pure, subA]
/-- x[lo:hi] -/
theorem r_slice2 (hT : TOK P T) {q : Md} {l : List Oper} {o : Oper} {r : List Oper} {d : Nat} {t e : TypeId} {ti te : TI} {x y z : Operand} {A : Option Addr} {m c lo hi : Nat} {k1 k2 : IntKind}
    (hw : wantE l tm o = some true) (ho : o.dst = some d) (hn : Nat.blt d F.n.z = true) (hop : o.op = .slice t x (some y) (some z) none) (ht : kget T t = some ti) (hk : ti.kind = .slice e) (he : kget T e = some te)
    (hx : ev tm x = some (.v (.slice A m c))) (hy : ev tm y = some (.v (.int k1 (lo : Int)))) (hz : ev tm z = some (.v (.int k2 (hi : Int)))) (hl : lo ≤ hi) (hh : hi ≤ c)
    (next : Run P Q F ((d, .v (.slice (subA A c lo te.size) (hi - lo) (c - lo))) :: tm) L u q l r) : Run P Q F tm L u q l (o :: r) := by
  refine op_pure hw ho hn (fun β a w ht' hd => ⟨?_, rfl⟩) next
  have := slice_run (P := P) (w := w) hT ht hk he (A := A) (m := m) (c := c) (lo := some (.int k1 (lo : Int))) (hi := some (.int k2 (hi : Int))) hl hh (.inr ⟨_, rfl⟩) (.inr ⟨_, rfl⟩)
  simp [execOp, hop, ev_ok ht' hx, ev_ok ht' hy, ev_ok ht' hz, SV.den, this]
/-- x[lo:] -/
theorem r_slice1 (hT : TOK P T) {q : Md} {l : List Oper} {o : Oper} {r : List Oper} {d : Nat} {t e : TypeId} {ti te : TI} {x y : Operand} {A : Option Addr} {m c lo : Nat} {k1 : IntKind}
    (hw : wantE l tm o = some true) (ho : o.dst = some d) (hn : Nat.blt d F.n.z = true) (hop : o.op = .slice t x (some y) none none) (ht : kget T t = some ti) (hk : ti.kind = .slice e) (he : kget T e = some te)
    (hx : ev tm x = some (.v (.slice A m c))) (hy : ev tm y = some (.v (.int k1 (lo : Int)))) (hl : lo ≤ m) (hh : m ≤ c)
    (next : Run P Q F ((d, .v (.slice (subA A c lo te.size) (m - lo) (c - lo))) :: tm) L u q l r) : Run P Q F tm L u q l (o :: r) := by
  refine op_pure hw ho hn (fun β a w ht' hd => ⟨?_, rfl⟩) next
  have := slice_run (P := P) (w := w) hT ht hk he (A := A) (m := m) (c := c) (lo := some (.int k1 (lo : Int))) (hi := none) hl hh (.inr ⟨_, rfl⟩) (.inl ⟨rfl, rfl⟩)
  simp [execOp, hop, ev_ok ht' hx, ev_ok ht' hy, SV.den, this]
/-- x[:hi] -/
theorem r_slice0 (hT : TOK P T) {q : Md} {l : List Oper} {o : Oper} {r : List Oper} {d : Nat} {t e : TypeId} {ti te : TI} {x z : Operand} {A : Option Addr} {m c hi : Nat} {k2 : IntKind}
    (hw : wantE l tm o = some true) (ho : o.dst = some d) (hn : Nat.blt d F.n.z = true) (hop : o.op = .slice t x none (some z) none) (ht : kget T t = some ti) (hk : ti.kind = .slice e) (he : kget T e = some te)
    (hx : ev tm x = some (.v (.slice A m c))) (hz : ev tm z = some (.v (.int k2 (hi : Int)))) (hh : hi ≤ c)
    (next : Run P Q F ((d, .v (.slice (subA A c 0 te.size) (hi - 0) (c - 0))) :: tm) L u q l r) : Run P Q F tm L u q l (o :: r) := by
  refine op_pure hw ho hn (fun β a w ht' hd => ⟨?_, rfl⟩) next
  have := slice_run (P := P) (w := w) hT ht hk he (A := A) (m := m) (c := c) (l := 0) (lo := none) (hi := some (.int k2 (hi : Int))) (Nat.zero_le _) hh (.inl ⟨rfl, rfl⟩) (.inr ⟨_, rfl⟩)
  simp [execOp, hop, ev_ok ht' hx, ev_ok ht' hz, SV.den, this]
theorem r_min {q : Md} {l : List Oper} {o : Oper} {r : List Oper} {d : Nat} {x y : Operand} {ts : Array TypeId} {kk k2 : IntKind} {i j : Int}
    (hw : wantE l tm o = some true) (ho : o.dst = some d) (hn : Nat.blt d F.n.z = true) (hop : o.op = .call { callee := .builtin .min, args := #[x, y], argTypes := ts })
    (hx : ev tm x = some (.v (.int kk i))) (hy : ev tm y = some (.v (.int k2 j)))
    (next : Run P Q F ((d, .v (.int kk (if j < i then j else i))) :: tm) L u q l r) : Run P Q F tm L u q l (o :: r) := by
  refine op_pure hw ho hn (fun β a w ht' hd => ⟨?_, rfl⟩) next
  simp [execOp, hop, ev_ok ht' hx, ev_ok ht' hy, SV.den, resolve, invoke, builtin, Builtin.min_, Builtin.min2]
theorem r_minN {q : Md} {l : List Oper} {o : Oper} {r : List Oper} {d : Nat} {x y : Operand} {ts : Array TypeId} {kk k2 : IntKind} {i j : Nat}
    (hw : wantE l tm o = some true) (ho : o.dst = some d) (hn : Nat.blt d F.n.z = true) (hop : o.op = .call { callee := .builtin .min, args := #[x, y], argTypes := ts })
    (hx : ev tm x = some (.v (.int kk (i : Int)))) (hy : ev tm y = some (.v (.int k2 (j : Int))))
    (next : Run P Q F ((d, .v (.int kk ((min i j : Nat) : Int))) :: tm) L u q l r) : Run P Q F tm L u q l (o :: r) := by
  refine r_min hw ho hn hop hx hy ?_
  have : (if (j : Int) < (i : Int) then (j : Int) else (i : Int)) = ((min i j : Nat) : Int) := by split <;> omega
  rw [this]; exact next
def bopB (op : BinOp) (b : Bool) : Bool := match op with
  | .eql => b
  | _ => !b
theorem eqi_nn {t : TypeId} {ms : Array (String × TypeId)} (h : P.underlying t = some (.interface ms)) (d : Nat) : (Op.equalIn (d + 1) t .nilIface .nilIface).run P w = .ok true w := by simp [Op.equalIn, run_und h]
theorem eqi_in {t t2 : TypeId} {x : Value} {ms : Array (String × TypeId)} (h : P.underlying t = some (.interface ms)) (d : Nat) : (Op.equalIn (d + 1) t (.iface t2 x) .nilIface).run P w = .ok false w := by simp [Op.equalIn, run_und h]
theorem eqs_n {t e : TypeId} {A : Option Addr} {m c : Nat} (h : P.underlying t = some (.slice e)) (d : Nat) : (Op.equalIn (d + 1) t (.slice A m c) (.slice none 0 0)).run P w = .ok A.isNone w := by
  cases A <;> simp [Op.equalIn, run_und h]
theorem eq_nn {t : TypeId} {ms : Array (String × TypeId)} (h : P.underlying t = some (.interface ms)) : (Op.equal t .nilIface .nilIface).run P w = .ok true w := eqi_nn h 9999
theorem eq_in {t t2 : TypeId} {x : Value} {ms : Array (String × TypeId)} (h : P.underlying t = some (.interface ms)) : (Op.equal t (.iface t2 x) .nilIface).run P w = .ok false w := eqi_in h 9999
theorem eq_sn {t e : TypeId} {A : Option Addr} {m c : Nat} (h : P.underlying t = some (.slice e)) : (Op.equal t (.slice A m c) (.slice none 0 0)).run P w = .ok A.isNone w := eqs_n h 9999
/-- Is it nil? -/
def nilE : SV → Option Bool
  | .v .nilIface => some true
  | .v (.iface _ _) => some false
  | _ => none
theorem exec_bin {ρ : Operand → Value} {o : Oper} {op : BinOp} {t t' : TypeId} {x y : Operand} (h : o.op = .binOp op t x y t') : execOp ρ o = (do let v ← (do eqGuard op t x y (ρ x) (ρ y); binOp op t (ρ x) (ρ y) : Sem Value); pure (Next.value v) : Sem Next) := by
  cases o
  simp only at h
  subst h
  rfl
theorem ifnil_run {t : TypeId} {ms : Array (String × TypeId)} (h : P.underlying t = some (.interface ms)) {op : BinOp} (hb : op = .eql ∨ op = .neq) (x : Operand) {v : Value} {b : Bool} (hv : (v = .nilIface ∧ b = true) ∨ (∃ t2 y, v = .iface t2 y) ∧ b = false) :
    (do eqGuard op t x (.const .nilIface) v .nilIface; binOp op t v .nilIface : Sem Value).run P w = .ok (.bool (bopB op b)) w := by
  have hg : eqGuard op t x (.const .nilIface) v .nilIface = pure () := by
    rcases hb with rfl | rfl <;> rcases hv with ⟨rfl, rfl⟩ | ⟨⟨t2, y, rfl⟩, rfl⟩ <;> first | rfl | (cases x <;> rfl)
  have he : (Op.equal t v .nilIface).run P w = .ok b w := by
    rcases hv with ⟨rfl, rfl⟩ | ⟨⟨t2, y, rfl⟩, rfl⟩
    · exact eq_nn h
    · exact eq_in h
  rw [hg, Sem.run_bind, Sem.run_pure, Result.andThen_ok]
  rcases hb with rfl | rfl <;> rcases hv with ⟨rfl, rfl⟩ | ⟨⟨t2, y, rfl⟩, rfl⟩ <;> simp only [binOp, Sem.run_bind, he, Result.andThen_ok, Sem.run_pure] <;> rfl
theorem r_ifnil (hT : TOK P T) {q : Md} {l : List Oper} {o : Oper} {r : List Oper} {d : Nat} {op : BinOp} {t t' : TypeId} {ti : TI} {x : Operand} {s : SV} {b : Bool} (hw : wantE l tm o = some true) (ho : o.dst = some d) (hn : Nat.blt d F.n.z = true)
    (hop : o.op = .binOp op t x (.const .nilIface) t') (hb : op = .eql ∨ op = .neq) (ht : kget T t = some ti) (hk : ti.kind = .ifc) (hx : ev tm x = some s) (hs : nilE s = some b)
    (next : Run P Q F ((d, .v (.bool (bopB op b))) :: tm) L u q l r) : Run P Q F tm L u q l (o :: r) := by
  refine op_pure hw ho hn (fun β a w ht' hd => ⟨?_, rfl⟩) next
  obtain ⟨d1, e1, f1⟩ := desc_of hT ht
  rw [hk] at f1
  cases d1 <;> simp [kfits] at f1
  have hv : ((s.den β) = .nilIface ∧ b = true) ∨ (∃ t2 y, (s.den β) = .iface t2 y) ∧ b = false := by
    unfold nilE at hs
    split at hs
    · exact .inl ⟨rfl, (Option.some.inj hs).symm⟩
    · exact .inr ⟨⟨_, _, rfl⟩, (Option.some.inj hs).symm⟩
    · cases hs
  have hrun := ifnil_run (w := w) e1 hb x hv
  rw [exec_bin hop, ev_ok ht' hx]
  have hc : ∀ v, a.eval (.const v) = v := fun _ => rfl
  rw [hc, Sem.run_bind]
  erw [hrun]
  rfl
theorem slnil_run {t e : TypeId} {A : Option Addr} {m c : Nat} (h : P.underlying t = some (.slice e)) (x : Operand) :
    (do eqGuard .eql t x (.const (.slice none 0 0)) (.slice A m c) (.slice none 0 0); binOp .eql t (.slice A m c) (.slice none 0 0) : Sem Value).run P w = .ok (.bool A.isNone) w := by
  have hg : eqGuard .eql t x (.const (.slice none 0 0)) (.slice A m c) (.slice none 0 0) = pure () := rfl
  have he : (Op.equal t (.slice A m c) (.slice none 0 0)).run P w = .ok A.isNone w := eq_sn h
  rw [hg, Sem.run_bind, Sem.run_pure, Result.andThen_ok]
  simp only [binOp, Sem.run_bind, he, Result.andThen_ok, Sem.run_pure]
theorem r_slnil (hT : TOK P T) {q : Md} {l : List Oper} {o : Oper} {r : List Oper} {d : Nat} {t t' e : TypeId} {ti : TI} {x : Operand} {A : Option Addr} {m c : Nat} (hw : wantE l tm o = some true) (ho : o.dst = some d) (hn : Nat.blt d F.n.z = true)
    (hop : o.op = .binOp .eql t x (.const (.slice none 0 0)) t') (ht : kget T t = some ti) (hk : ti.kind = .slice e) (hx : ev tm x = some (.v (.slice A m c)))
    (next : Run P Q F ((d, .v (.bool A.isNone)) :: tm) L u q l r) : Run P Q F tm L u q l (o :: r) := by
  refine op_pure hw ho hn (fun β a w ht' hd => ⟨?_, rfl⟩) next
  have hrun := slnil_run (P := P) (w := w) (A := A) (m := m) (c := c) (elem_of hT ht hk) x
  rw [exec_bin hop, ev_ok ht' hx]
  have hc : ∀ v, a.eval (.const v) = v := fun _ => rfl
  rw [hc, Sem.run_bind]
  erw [hrun]
  rfl
theorem r_iface (hT : TOK P T) {q : Md} {l : List Oper} {o : Oper} {r : List Oper} {d : Nat} {t : TypeId} {ti : TI} {x : Operand} {s : SV} {v : Value} (hw : wantE l tm o = some true) (ho : o.dst = some d) (hn : Nat.blt d F.n.z = true)
    (hop : o.op = .makeInterface t x) (ht : kget T t = some ti) (hk : (match ti.kind with | .ifc => false | _ => true) = true) (hx : ev tm x = some s) (hv : valE L s = some v)
    (next : Run P Q F ((d, .v (.iface t v)) :: tm) L u q l r) : Run P Q F tm L u q l (o :: r) := by
  refine op_pure hw ho hn (fun β a w ht' hd => ⟨?_, rfl⟩) next
  obtain ⟨d1, e1, f1⟩ := desc_of hT ht
  have : (Instr.makeInterface t v).run P w = .ok (.iface t v) w := by
    unfold Instr.makeInterface
    rw [Sem.run_bind, run_und e1]
    cases d1 <;> first | rfl | (exfalso; cases hkk : ti.kind <;> rw [hkk] at f1 hk <;> simp [kfits] at f1 hk)
  simp [execOp, hop, ev_ok ht' hx, valE_den hd.bn hv, SV.den, this]
/-- v, ok := x.(T), T no interface, x of that type. -/
theorem r_assert (hT : TOK P T) {q : Md} {l : List Oper} {o : Oper} {r : List Oper} {d : Nat} {t0 t : TypeId} {ti : TI} {x : Operand} {v : Value} (s : SV) (hs : valE [] s = some v) (hw : wantE l tm o = some true) (ho : o.dst = some d) (hn : Nat.blt d F.n.z = true)
    (hop : o.op = .typeAssert x t0 t true) (ht : kget T t = some ti) (hk : (match ti.kind with | .ifc => false | _ => true) = true) (hx : ev tm x = some (.v (.iface t v)))
    (next : Run P Q F ((d, .tu [s, .v (.bool true)]) :: tm) L u q l r) : Run P Q F tm L u q l (o :: r) := by
  have hsk : s.ok L = true := ok_more (fun i hi => by simp [kget] at hi) _ (valE_ok hs)
  refine op_pure hw ho hn (fun β a w ht' hd => ⟨?_, by simp [SV.ok, SV.oks, hsk]⟩) next
  obtain ⟨d1, e1, f1⟩ := desc_of hT ht
  have : (Instr.typeAssert (.iface t v) t0 t true).run P w = .ok (.tuple #[v, .bool true]) w := by
    unfold Instr.typeAssert
    rw [Sem.run_bind, run_und e1]
    cases d1 <;> first | (simp; done) | (exfalso; cases hkk : ti.kind <;> rw [hkk] at f1 hk <;> simp [kfits] at f1 hk)
  have hden : s.den β = v := valE_den (L := []) (fun i B b h => by simp [kget] at h) hs
  simp [execOp, hop, ev_ok ht' hx, SV.den, SV.dens, this, hden]
/-- A call is deferred. -/
theorem r_defer {k : Hp} {N : World} {z : Nat} {D : List DV} {K : List Nat} {β0 : Nat → Nat} {l : List Oper} {o : Oper} {r : List Oper} {c : Call} {x : Operand} {f : Fn} {b : List SV} (hw : wantE l tm o = some true) (ho : o.dst = none)
    (hop : o.op = .defer c) (hc : c = { callee := .value x, args := #[], argTypes := #[] }) (hx : ev tm x = some (.fn f [] b))
    (next : Run P Q ⟨k, N, ⟨z, ⟨f, b, []⟩ :: D⟩, K, β0⟩ tm L u .seq l r) : Run P Q ⟨k, N, ⟨z, D⟩, K, β0⟩ tm L u .seq l (o :: r) := by
  intro β a w hf ht hd
  show (if _ then _ else _)
  rw [if_pos (wantE_ok hw ht)]
  refine .inl ?_
  subst hc
  have hok := ev_oks ht hx
  have hrun : (execOp a.eval o).run P w = .ok (.defer ⟨.fn f (SV.dens β b).toArray, #[]⟩) w := by
    simp [execOp, hop, resolve, ev_ok ht hx, SV.den, SV.dens, Deferred.ofValue]
  unfold Oper.wp
  rw [hrun, Oper.upon_defer, ho]
  refine next β _ w hf ⟨ht.size, ?_, ?_, ht.get⟩ hd
  · show _ :: a.defers = _
    rw [ht.defers]
    simp [DV.den, SV.dens]
  · have h1 := ht.dok
    simp only [dvs, List.all_cons, Bool.and_eq_true] at h1 ⊢
    refine ⟨?_, h1⟩
    simpa [DV.ok, SV.ok, SV.oks] using hok
/-- panic(x) -/
theorem r_panic {l : List Oper} {o : Oper} {r : List Oper} {x : Operand} {t : TypeId} {v : Value} (hw : wantE l tm o = some true) (hop : o.op = .panic x) (hx : ev tm x = some (.v (.iface t v)))
    (next : St F tm L u (Q (.panic [{ v := .iface t v, recovered := false }]))) : Run P Q F tm L u .seq l (o :: r) := by
  intro β a w hf ht hd
  show (if _ then _ else _)
  rw [if_pos (wantE_ok hw ht)]
  refine .inl ?_
  have hrun : (execOp a.eval o).run P w = .halt (.panic (.iface t v)) w := by
    simp [execOp, hop, ev_ok ht hx, SV.den, Instr.panic, goPanic, Sem.run]
  unfold Oper.wp
  rw [hrun, Oper.upon_panic]
  exact next β a w hf ht hd
theorem x_then_panic {Φ : Act → World → Prop} {ch : List PanicEntry} (h : St F tm L u (Q (.panic ch))) : St F tm L u (Exit.then Φ Q (.panic ch)) := h
theorem x_block_panic {id : Nat} {ch : List PanicEntry} (h : St F tm L u (Q (.panic ch))) : St F tm L u (Exit.inBlock id Q (.panic ch)) := h
end
end Go.Sy
/- The walk by a symbolic frame: a function that defers one closure, which may recover. -/
namespace Go.Sy
set_option linter.unusedVariables false
set_option linter.unusedSimpArgs false
theorem enterD {P : Program} {f : FuncId} {fn : Func} {c : Code} {args : List SV} {h : Hp} {Y : Type} {val : Y → SV} {ψ : Y → Hp → Prop}
    (hf : P.funcs[f]? = some fn) (hb : fn.body = some c) {n : Nat} (hn : fn.ntmps = n) (ha0 : Nat.ble args.length n = true)
    (H : ∀ k N, St ⟨k, N, ⟨n, []⟩, [], fun _ => 0⟩ (sargTm 0 args) [] h (fun a w => c.wp P (bodyPostD P fn (Post val (fun _ => []) ψ k N)) a w)) :
    TriS P f args [] h val (fun _ => []) ψ := by
  have ha : args.length ≤ n := Nat.le_of_ble_eq_true ha0
  intro _ _ vs h0 hvs hh0 k N w d
  simp only [addsE, Option.some.injEq] at hh0
  subst hh0
  have hden := valsE_den (L := []) (β := fun _ => 0) (fun i B b h => by simp [kget] at h) hvs
  rw [dens_map] at hden
  refine calls_of_wp_defers hf hb (H k N (fun _ => 0) _ w (fun i hi => absurd hi (by simp)) ⟨?_, rfl, rfl, ?_⟩ (Den.of0 d))
  · subst hn
    have : vs.length = args.length := by rw [← hden]; simp
    simp; omega
  · intro t s hs
    obtain ⟨_, hv⟩ := sargTm_get args 0 t s hs
    simp only [Nat.sub_zero] at hv
    have ht : t < args.length := (List.getElem?_eq_some_iff.1 hv).1
    have hvt : vs[t]? = some (s.den fun _ => 0) := by rw [← hden]; simp [hv]
    rw [Array.getElem?_append_left (by rw [← hden]; simpa using ht)]
    refine ⟨by simpa using hvt, ?_⟩
    have := valsE_ok hvs
    rw [oks_all] at this
    exact List.all_eq_true.1 this s (List.mem_of_getElem? hv)
section
variable {P : Program} {T : List (Nat × TI)} {F : Fr} {tm : Tm} {L : Lm} {u : Hp} {N : World} {β : Nat → Nat} {k : Hp} {a : Act} {w : World} {Q : Exit → Act → World → Prop}
theorem invoke_run {g : FuncId} (hc : callable P g = true) (cap : Array Value) (w : World) : (invoke (.fn (.func g) cap) #[]).run P w = .ok (.enter g cap) w := by
  unfold callable at hc
  split at hc
  · rename_i fn hfn
    simp only [Bool.and_eq_true, Bool.not_eq_true', beq_eq_false_iff_ne, ne_eq] at hc
    obtain ⟨cd, h2⟩ := Option.isSome_iff_exists.1 hc.2
    simp [invoke, callFunc, program, Sem.run, hfn, hc.1, h2]
  · cases hc
theorem fin_nil (hd : Den β L u k N w) {Y : Type} {val : Y → SV} {ψ : Y → Hp → Prop} (y : Y) {s : SV} {v : Value} (hv : valE [] s = some v) (hv' : valE [] (val y) = some v) (hψ : ψ y u) : Post val (fun _ => []) ψ k N (.returned (s.den β)) w :=
  ⟨v, u, by rw [valE_den (L := []) (fun i B b h => by simp [kget] at h) hv], ⟨y, u, hv', rfl, fun b hb => by simp [names] at hb, hψ⟩, ⟨fun b o hb => (hd.ext b o hb).1, fun b o hb => ⟨(hd.hid b o hb).1, (hd.hid b o hb).2.1⟩, hd.size⟩⟩
/-- All blocks stay. -/
structure Kept (w w' : World) : Prop where
  ge : Ge w w'
  old : ∀ (b : Nat) (o : Obj), w.heap[b]? = some o → w'.heap[b]? = some o
theorem Den.kept (hd : Den β L u k N w) {w' : World} (h : Kept w w') : Den β L u k N w' :=
  ⟨fun i B hB => ⟨h.old _ _ (hd.loc i B hB).1, (hd.loc i B hB).2⟩, hd.inj, fun b o hb => ⟨h.old _ _ (hd.ext b o hb).1, (hd.ext b o hb).2⟩, fun b o hb => ⟨h.old _ _ (hd.hid b o hb).1, (hd.hid b o hb).2⟩, hd.size.trans h.ge⟩
theorem den_all (w : World) : Den (fun _ => 0) [] (fun _ => none) (fun b => w.heap[b]?) w w := Den.of0 ⟨fun b o hb => (by cases hb), fun b o hb => ⟨hb, rfl⟩, Ge.refl w⟩
theorem kept_all {w w' : World} {u' : Hp} (hd : Den β L u' (fun b => w.heap[b]?) w w') : Kept w w' := ⟨hd.size, fun b o hb => (hd.hid b o hb).1⟩
/-- The regular end, past one deferred closure that does nothing. -/
theorem r_leave (hT : TOK P T) {fn : Func} {rs : List ResultVar} {Y : Type} {val : Y → SV} {ψ : Y → Hp → Prop} {g : FuncId} {cap : List SV} (hr : fn.results = rs.toArray) (hD : F.n.D = [⟨.func g, cap, []⟩]) (hcg : callable P g = true)
    (hidle : ∀ args w, CallsD P g (SV.dens args cap).toArray .returning w fun e u' w' => e = .returned (.tuple #[]) ∧ u' = .returning ∧ Kept w w') {s : SV} {v : Value} (y : Y)
    (h : resE T tm L rs = some s) (hv : valE [] s = some v) (hv' : valE [] (val y) = some v) (hψ : ψ y u) : St F tm L u (bodyPostD P fn (Post val (fun _ => []) ψ F.k F.N) .ret) := by
  intro β a w hf ht hd
  show Leaves P fn a.tmps _ a.defers .returning w
  rw [ht.defers, hD]
  refine leaves_cons (by simp) (invoke_run hcg _ _) ((hidle β w).mono ?_)
  rintro e u' w' ⟨rfl, rfl, hk⟩
  have hd' := hd.kept hk
  exact ⟨s.den β, resE_ok hT hr h ht hd', fin_nil hd' y hv hv' hψ⟩
/-- Blocks i and j are written, the heap has grown. -/
structure Rec (w w' : World) (bi bj : Nat) (xi xj : Value) (ti tj : TypeId) : Prop where
  ge : Ge w w'
  here : w'.heap[bi]? = some (.cells #[xi] ti (0, 0)) ∧ w'.heap[bj]? = some (.cells #[xj] tj (0, 0))
  other : ∀ b o, w.heap[b]? = some o → b ≠ bi → b ≠ bj → w'.heap[b]? = some o
theorem den_rec (hd : Den β L u k N w) {w' : World} {i j : Nat} {Bi Bj : Blk} (hi : kget L i = some Bi) (hj : kget L j = some Bj) (hij : i ≠ j) {xi xj : Value} (hr : Rec w w' (β i) (β j) xi xj Bi.ty Bj.ty) {L1 L2 : Lm}
    (h1 : ksetE L i ⟨Bi.name, [.v xi], Bi.ty⟩ = some L1) (h2 : ksetE L1 j ⟨Bj.name, [.v xj], Bj.ty⟩ = some L2) : Den β L2 u k N w' := by
  have g1 := ksetE_get h1
  have g2 := ksetE_get h2
  have hs : ∀ x, (kget L2 x).isSome = (kget L x).isSome := fun x => by
    rw [g2]; split
    · rename_i e; subst e; rw [hj]; rfl
    · rw [g1]; split
      · rename_i e; subst e; rw [hi]; rfl
      · rfl
  have hii : (kget L i).isSome = true := by rw [hi]; rfl
  have hjj : (kget L j).isSome = true := by rw [hj]; rfl
  refine ⟨fun x B hB => ?_, fun x y hx hy => hd.inj x y (by rwa [← hs]) (by rwa [← hs]), fun b o hb => ⟨?_, fun x hx => (hd.ext b o hb).2 x (by rwa [← hs])⟩, fun b o hb => ⟨?_, (hd.hid b o hb).2.1, fun x hx => (hd.hid b o hb).2.2 x (by rwa [← hs])⟩, hd.size.trans hr.ge⟩
  · rw [g2] at hB
    split at hB
    · rename_i e; subst e
      have e := Option.some.inj hB; subst e
      exact ⟨hr.here.2, (hd.loc j Bj hj).2.1, rfl⟩
    · rename_i e1
      rw [g1] at hB
      split at hB
      · rename_i e; subst e
        have e := Option.some.inj hB; subst e
        exact ⟨hr.here.1, (hd.loc i Bi hi).2.1, rfl⟩
      · rename_i e2
        obtain ⟨k1, k2, k3⟩ := hd.loc x B hB
        have hx : (kget L x).isSome = true := by rw [hB]; rfl
        exact ⟨hr.other _ _ k1 (fun e => e2 (hd.inj x i hx hii e).symm) (fun e => e1 (hd.inj x j hx hjj e).symm), k2, oks_more (fun z hz => by rw [hs]; exact hz) _ k3⟩
  · have := (hd.ext b o hb)
    exact hr.other b o this.1 (fun e => this.2 i hii e.symm) (fun e => this.2 j hjj e.symm)
  · have := (hd.hid b o hb)
    exact hr.other b o this.1 (fun e => this.2.2 i hii e.symm) (fun e => this.2.2 j hjj e.symm)
/-- The end of a deferred closure. -/
theorem r_endS (hT : TOK P T) {fn : Func} {rs : List ResultVar} {c₀ : Frame} {cs cs' : List Frame} {R : Ending → FrameMode → World → Prop} {u' : FrameMode} {s : SV} (hr : fn.results = rs.toArray) (hcs : cs' = { c₀ with mode := u' } :: cs) (h : resE T tm L rs = some s)
    (hR : ∀ β w, Den β L u F.k F.N w → R (.returned (s.den β)) u' w) (hD : F.n.D = [] := by rfl) : St F tm L u (fun a w => bodyPostS P fn c₀ cs R .normal a cs' w) := by
  intro β a w hf ht hd
  exact ⟨by rw [ht.defers, hD]; rfl, u', hcs, s.den β, resE_ok hT hr h ht hd, hR β w hd⟩
/-- The heap without all but two blocks. -/
def twoOf (w : World) (bi bj : Nat) : Hp := fun b => if b = bi ∨ b = bj then w.heap[b]? else none
def restOf (w : World) (bi bj : Nat) : Hp := fun b => if b = bi ∨ b = bj then none else w.heap[b]?
theorem den_two (w : World) (bi bj : Nat) : Den (fun _ => 0) [] (twoOf w bi bj) (restOf w bi bj) w w :=
  Den.of0 ⟨fun b o hb => (by
    unfold twoOf at hb
    split at hb
    · exact hb
    · cases hb), fun b o hb => (by
    unfold restOf at hb
    split at hb
    · cases hb
    · rename_i h
      exact ⟨hb, by unfold twoOf; rw [if_neg h]⟩), Ge.refl w⟩
theorem rel_args (n : Nat) (vs : List Value) (hn : vs.length ≤ n) (β : Nat → Nat) : RelT ⟨n, []⟩ [] β (argTm 0 vs) { tmps := vs.toArray ++ Array.replicate (n - vs.length) undef, defers := [] } := by
  refine ⟨by simp; omega, rfl, rfl, fun t s hs => ?_⟩
  obtain ⟨_, v, hv, rfl⟩ := argTm_get vs 0 t s hs
  simp only [Nat.sub_zero] at hv
  have ht : t < vs.length := (List.getElem?_eq_some_iff.1 hv).1
  rw [Array.getElem?_append_left (by simpa using ht)]
  exact ⟨by simpa [SV.den] using hv, rfl⟩
/-- r := recover() -/
theorem wpS_recover {id : Nat} {o0 o1 : Oper} {d0 d1 : Nat} {a : Act} {cs cs' : List Frame} {w : World} {v : Value} {Q : Exit → Act → List Frame → World → Prop} (h0 : o0.op = .call { callee := .builtin .recover, args := #[], argTypes := #[] }) (g0 : o0.guard = none) (e0 : o0.dst = some d0)
    (h1 : o1.op = .assign (.tmp d0)) (g1 : o1.guard = none) (e1 : o1.dst = some d1) (hr : (recoverD cs).getD (.nilIface, cs) = (v, cs')) (hd : d0 < a.tmps.size) (next : Q .normal ((a.put (some d0) v).put (some d1) v) cs' w) : (Code.region id #[o0, o1] false).wpS P Q a cs w := by
  apply wpS_region
  show wpOpsS P #[o0, o1] Q [0, 1] a cs w
  have w0 : ∀ y, Region.wanted o0 y = true := fun y => by simp [Region.wanted, g0]
  have w1 : ∀ y, Region.wanted o1 y = true := fun y => by simp [Region.wanted, g1]
  have x0 : (execOp a.eval o0).run P w = .ok .recover w := by simp [execOp, h0, resolve, invoke, builtin]
  have hv : ∀ b : Act, b = a.put (some d0) v → (execOp b.eval o1).run P w = .ok (.value v) w := fun b hb => by
    subst hb
    have : (a.put (some d0) v).eval (.tmp d0) = v := by simp [Act.eval, Act.put, hd]
    simp [execOp, h1, this]
  have k1 : wpOpsS P #[o0, o1] Q [1] (a.put (some d0) v) cs' w := by
    simp only [wpOpsS]
    simp only [List.getElem?_toArray, List.getElem?_cons_succ, List.getElem?_cons_zero, w1, if_true, hv _ rfl, Oper.upon, e1]
    exact next
  rw [wpOpsS]
  simp only [List.getElem?_toArray, List.getElem?_cons_zero, w0, if_true, x0, e0]
  cases hrd : recoverD cs with
  | none => rw [hrd] at hr; simp only [Option.getD_none, Prod.mk.injEq] at hr; obtain ⟨rfl, rfl⟩ := hr; exact k1
  | some p => rw [hrd] at hr; simp only [Option.getD_some] at hr; subst hr; exact k1
theorem rec_two {w w' : World} {bi bj : Nat} {xi xj : Value} {ti tj : TypeId} {β : Nat → Nat} {L : Lm} {u' : Hp} (hd : Den β L u' (restOf w bi bj) w w') (h1 : u' bi = some (.cells #[xi] ti (0, 0))) (h2 : u' bj = some (.cells #[xj] tj (0, 0))) : Rec w w' bi bj xi xj ti tj :=
  ⟨hd.size, ⟨(hd.ext _ _ h1).1, (hd.ext _ _ h2).1⟩, fun b o hb hi hj => (hd.hid b o (by unfold restOf; rw [if_neg (by simp [hi, hj])]; exact hb)).1⟩
/-- A panic that the deferred closure recovers: it writes xi and xj into blocks i and j. -/
theorem r_recover (hT : TOK P T) {fn : Func} {rs : List ResultVar} {Y : Type} {val : Y → SV} {ψ : Y → Hp → Prop} {g : FuncId} {i j : Nat} {pv xi xj : Value} {ti tj : TypeId} {Bi Bj : Blk} {ci cj : SV} (hr : fn.results = rs.toArray)
    (hD : F.n.D = [⟨.func g, [.p i 0, .p j 0], []⟩]) (hcg : callable P g = true) (hi : kget L i = some Bi) (hj : kget L j = some Bj) (hij : i ≠ j) (hci : Bi.cells = [ci]) (hcj : Bj.cells = [cj]) (hti : Bi.ty = ti) (htj : Bj.ty = tj)
    (hrec : ∀ (w : World) (bi bj : Nat) (x y : Value), bi ≠ bj → w.heap[bi]? = some (.cells #[x] ti (0, 0)) → w.heap[bj]? = some (.cells #[y] tj (0, 0)) →
      CallsD P g #[.pointer (some ⟨bi, 0, none⟩), .pointer (some ⟨bj, 0, none⟩)] (.panicking [{ v := pv, recovered := false }]) w fun e u' w' => e = .returned (.tuple #[]) ∧ u' = .panicking [{ v := pv, recovered := true }] ∧ Rec w w' bi bj xi xj ti tj)
    {L1 L2 : Lm} (h1 : ksetE L i ⟨Bi.name, [.v xi], Bi.ty⟩ = some L1) (h2 : ksetE L1 j ⟨Bj.name, [.v xj], Bj.ty⟩ = some L2) {s : SV} {v : Value} (y : Y)
    (h : resE T tm L2 rs = some s) (hv : valE [] s = some v) (hv' : valE [] (val y) = some v) (hψ : ψ y u) : St F tm L u (bodyPostD P fn (Post val (fun _ => []) ψ F.k F.N) (.panic [{ v := pv, recovered := false }])) := by
  intro β a w hf ht hd
  show Leaves P fn a.tmps _ a.defers (.panicking _) w
  rw [ht.defers, hD]
  have e1 := (hd.loc i Bi hi).1
  have e2 := (hd.loc j Bj hj).1
  rw [hci, hti] at e1
  rw [hcj, htj] at e2
  have hne : β i ≠ β j := fun e => hij (hd.inj i j (by rw [hi]; rfl) (by rw [hj]; rfl) e)
  refine leaves_cons (by simp) (invoke_run hcg _ _) ((hrec w (β i) (β j) _ _ hne e1 e2).mono ?_)
  rintro e u' w' ⟨rfl, rfl, hrc⟩
  subst hti; subst htj
  have hd' := den_rec hd hi hj hij hrc h1 h2
  have hs : ∀ x, (kget L x).isSome = true → (kget L2 x).isSome = true := fun x hx => by
    rw [ksetE_get h2]; split
    · rfl
    · rw [ksetE_get h1]; split
      · rfl
      · exact hx
  have ht' : RelT F.n L2 β tm a := ⟨ht.size, ht.defers, dvs_more hs ht.dok, fun t s hx => ⟨(ht.get t s hx).1, ok_more hs s (ht.get t s hx).2⟩⟩
  show ∃ v, (results fn a.tmps).run P w' = .ok v w' ∧ _
  exact ⟨s.den β, resE_ok hT hr h ht' hd', fin_nil hd' y hv hv' hψ⟩
end
end Go.Sy
/- The walk by a symbolic frame: stores into a row of its own, at an element and at a field of one; rows of whole numbers. -/
namespace Go.Sy
set_option linter.unusedVariables false
section
variable {P : Program} {T : List (Nat × TI)} {F : Fr} {tm : Tm} {L : Lm} {u : Hp} {Q : Exit → Act → World → Prop}
theorem r_store_row1 (hT : TOK P T) {l : List Oper} {op : Oper} {r : List Oper} {t e : TypeId} {ti : TI} {x y : Operand} {b off q f1 n c sz : Nat} {s : SV} {cs : List SV} {vs pre l1 l2 : List Value} {w0 : Hp}
    (hO : Own u (some ⟨b, off, none⟩) n c e sz (pre ++ l1)) (hK : ∀ x, x ≠ b → u x = w0 x) (hw : wantE l tm op = some true) (hdst : op.dst = none) (hop : op.op = .store t x y) (hx : ev tm x = some (.v (.pointer (some ⟨b, q + f1, none⟩)))) (hq : q = off + pre.length)
    (hy : ev tm y = some s) (ht : kget T t = some ti) (hc : cellsE ti.kind.agg s = some cs) (hl : lenIs cs ti.size = true) (ho1 : onesE cs = true) (hv : valsE L cs = some vs) (hset : setV f1 l1 vs = some l2)
    (next : ∀ u', Own u' (some ⟨b, off, none⟩) n c e sz (pre ++ l2) → (∀ x, x ≠ b → u' x = w0 x) → Run P Q F tm L u' .seq l r) : Run P Q F tm L u .seq l (op :: r) :=
  r_store_row2 (f1 := f1) (f2 := 0) hT hO hK hw hdst hop hx hq hy ht hc hl ho1 hv hset next
theorem r_store_row0 (hT : TOK P T) {l : List Oper} {op : Oper} {r : List Oper} {t e : TypeId} {ti : TI} {x y : Operand} {b off q n c sz : Nat} {s : SV} {cs : List SV} {vs pre l1 l2 : List Value} {w0 : Hp}
    (hO : Own u (some ⟨b, off, none⟩) n c e sz (pre ++ l1)) (hK : ∀ x, x ≠ b → u x = w0 x) (hw : wantE l tm op = some true) (hdst : op.dst = none) (hop : op.op = .store t x y) (hx : ev tm x = some (.v (.pointer (some ⟨b, q, none⟩)))) (hq : q = off + pre.length)
    (hy : ev tm y = some s) (ht : kget T t = some ti) (hc : cellsE ti.kind.agg s = some cs) (hl : lenIs cs ti.size = true) (ho1 : onesE cs = true) (hv : valsE L cs = some vs) (hset : setV 0 l1 vs = some l2)
    (next : ∀ u', Own u' (some ⟨b, off, none⟩) n c e sz (pre ++ l2) → (∀ x, x ≠ b → u' x = w0 x) → Run P Q F tm L u' .seq l r) : Run P Q F tm L u .seq l (op :: r) :=
  r_store_row2 (f1 := 0) (f2 := 0) hT hO hK hw hdst hop hx hq hy ht hc hl ho1 hv hset next
end
/-- A whole number's cell; two. -/
def Ic (x : Int) : List Value := [.int .i64 x]
def Ac (p : Int × Int) : List Value := [.int .i64 p.1, .int .i64 p.2]
theorem Ic_len (x : Int) : (Ic x).length = 1 := rfl
theorem Ac_len (p : Int × Int) : (Ac p).length = 2 := rfl
abbrev Ints (u : Hp) (A : Option Addr) (n : Nat) (xs : List Int) : Prop := Rd Ic 1 u A n xs
abbrev Asks (u : Hp) (A : Option Addr) (n : Nat) (xs : List (Int × Int)) : Prop := Rd Ac 2 u A n xs
abbrev Mat (u : Hp) (A : Option Addr) (n : Nat) (ts : List (List Int)) : Prop := TabG Ic 1 u A n ts
/-- How much is left. -/
def szI (n : Nat) (l : Int) : Int := if l - n < 0 then -1 else l - n
def szIs : List (List Int) → Int → Int
  | [], l => l
  | t :: r, l => if szI t.length l < 0 then -1 else szIs r (szI t.length l)
def szII (ts : List (List Int)) (l : Int) : Int := if l - ts.length < 0 then -1 else szIs ts (l - ts.length)
theorem szI_le (n : Nat) (l : Int) (h : 0 ≤ l) : -1 ≤ szI n l ∧ szI n l ≤ l := by unfold szI; split <;> omega
theorem szIs_len : ∀ (ts : List (List Int)) (l : Int), 0 ≤ szIs ts l → 0 ≤ l → ∀ t ∈ ts, (t.length : Int) ≤ l
  | [], l, _, _, t, ht => by cases ht
  | s :: r, l, h, h0, t, ht => by
    have h1 := szI_le s.length l h0
    have h2 : 0 ≤ szI s.length l ∧ 0 ≤ szIs r (szI s.length l) := by
      simp only [szIs] at h
      split at h
      · omega
      · exact ⟨by omega, h⟩
    rcases List.mem_cons.1 ht with rfl | ht
    · have h3 := h2.1
      unfold szI at h3
      split at h3 <;> omega
    · have := szIs_len r _ h2.2 h2.1 t ht
      omega
theorem szII_len {ts : List (List Int)} {l : Int} (h0 : 0 ≤ l) (h : 0 ≤ szII ts l) : (ts.length : Int) ≤ l ∧ ∀ t ∈ ts, (t.length : Int) ≤ l := by
  unfold szII at h
  split at h
  · omega
  · refine ⟨by omega, fun t ht => ?_⟩
    have := szIs_len ts _ h (by omega) t ht
    omega
/-- Marks. -/
def mkI (n : Nat) (x : Int) : List Int := (List.range n).map fun i : Nat => x + i
theorem mkI_succ (n : Nat) (x : Int) : mkI (n + 1) x = mkI n x ++ [x + n] := by simp [mkI, List.range_succ]
theorem mkI_len (n : Nat) (x : Int) : (mkI n x).length = n := by simp [mkI]
theorem mkI_get {n : Nat} {x : Int} {i : Nat} {p : Int} (h : (mkI n x)[i]? = some p) : p = x + i := by
  have hi : i < n := by have := (List.getElem?_eq_some_iff.1 h).1; rwa [mkI_len] at this
  simp [mkI, hi] at h
  exact h.symm
def mkA (n : Nat) (x : Int) : List (Int × Int) := (List.range n).map fun i : Nat => (x + 2 * i, x + 2 * i + 1)
theorem mkA_succ (n : Nat) (x : Int) : mkA (n + 1) x = mkA n x ++ [(x + 2 * n, x + 2 * n + 1)] := by simp [mkA, List.range_succ]
theorem mkA_len (n : Nat) (x : Int) : (mkA n x).length = n := by simp [mkA]
theorem mkA_get {n : Nat} {x : Int} {i : Nat} {p : Int × Int} (h : (mkA n x)[i]? = some p) : p = (x + 2 * i, x + 2 * i + 1) := by
  have hi : i < n := by have := (List.getElem?_eq_some_iff.1 h).1; rwa [mkA_len] at this
  simp [mkA, hi] at h
  exact h.symm
def cntI : List (List Int) → Nat
  | [] => 0
  | t :: r => t.length + cntI r
def mkII : List (List Int) → Int → List (List Int)
  | [], _ => []
  | t :: r, x => mkI t.length x :: mkII r (x + t.length)
theorem cntI_snoc (t : List Int) : ∀ l, cntI (l ++ [t]) = cntI l + t.length
  | [] => by simp [cntI]
  | s :: r => by simp [cntI, cntI_snoc t r]; omega
theorem mkII_snoc (t : List Int) : ∀ (l : List (List Int)) (x : Int), mkII (l ++ [t]) x = mkII l x ++ [mkI t.length (x + cntI l)]
  | [], x => by simp [mkII, cntI]
  | s :: r, x => by simp only [List.cons_append, mkII, mkII_snoc t r, cntI]; congr 4; push_cast; omega
theorem mkII_len : ∀ (l : List (List Int)) (x : Int), (mkII l x).length = l.length
  | [], _ => rfl
  | s :: r, x => by simp [mkII, mkII_len r]
theorem cntI_take (ts : List (List Int)) (i : Nat) {t : List Int} (h : ts[i]? = some t) : cntI (ts.take i) + t.length ≤ cntI ts := by
  have h1 : ∀ l m : List (List Int), cntI (l ++ m) = cntI l + cntI m := fun l m => by induction l with
    | nil => simp [cntI]
    | cons a r ih => simp [cntI, ih]; omega
  have h2 : ts = ts.take i ++ t :: ts.drop (i + 1) := by
    have hi : i < ts.length := (List.getElem?_eq_some_iff.1 h).1
    have : ts[i] = t := (List.getElem?_eq_some_iff.1 h).2
    rw [← this, ← List.drop_eq_getElem_cons hi, List.take_append_drop]
  have h3 := congrArg cntI h2
  rw [h1, cntI] at h3; omega
theorem cntI_le : ∀ (ts : List (List Int)) (m : Nat), (∀ t ∈ ts, t.length ≤ m) → cntI ts ≤ ts.length * m
  | [], m, _ => by simp [cntI]
  | t :: r, m, h => by
    have h1 := cntI_le r m (fun s hs => h s (.tail _ hs))
    have h2 := h t (.head _)
    simp only [cntI, List.length_cons, Nat.add_mul]; omega
end Go.Sy
/- strings.Compare by the shelf's own theorem: written by the kit's lay-plain. No condition. -/
namespace Go.Proofs
open Go.Shelf
def Tryd.lays106_ren : Go.Shelf.Ren := ⟨fun | 106 => 124 | 213 => 157 | 265 => 183 | n => n, fun | 9 => 9 | 3 => 3 | n => n, fun | n => n⟩
theorem Tryd.lays106 : Go.Proofs.Lays.n106 Tryd.prog Tryd.lays106_ren := {
  mixed := by kernel_rfl
  f106 := Tryd.func124.trans (congrArg some (by kernel_rfl))
  f213 := Tryd.func157.trans (congrArg some (by kernel_rfl))
  f265 := Tryd.func183.trans (congrArg some (by kernel_rfl))
  t3 := Tryd.underlying3
  a3 := Tryd.isAgg3
  z3 := Tryd.sizeOf3
  v3 := Tryd.zeroValue3
  t9 := Tryd.underlying9
  a9 := Tryd.isAgg9
  z9 := Tryd.sizeOf9
  v9 := Tryd.zeroValue9 }
open Go.RowKit in
/-- strings.Compare -/
theorem Tryd.strings_Compare (a b : ByteArray) (w : World) :
    Calls Tryd.prog 124 #[.string a, .string b] w fun e w' => e = .returned (.int .i64 (Lib.compareBytes a.data.toList b.data.toList)) ∧ w' = w := Any.strings_Compare Tryd.lays106 a b w
end Go.Proofs
