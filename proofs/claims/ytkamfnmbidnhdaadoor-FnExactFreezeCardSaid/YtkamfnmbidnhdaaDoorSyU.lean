/- The walk by a symbolic frame: slices cut, nil compared, min, interfaces, deferred calls, panics. -/
import Derived.Test.YtkamfnmbidnhdaaDoorSyS
import Derived.Defers
import Derived.Recover
set_option linter.unusedVariables false
set_option linter.unusedSimpArgs false
set_option linter.unusedSectionVars false
namespace Go.Sy
set_option linter.unusedVariables false
set_option linter.unusedSimpArgs false
def subA (A : Option Addr) (c l sz : Nat) : Option Addr := if c = l then A else A.map (·.add (l * sz))
section
variable {P : Program} {T : List (Nat × TI)} {F : Fr} {tm : Tm} {L : Lm} {u : Hp} {n : FN} {N : World} {β : Nat → Nat} {k : Hp} {a : Act} {w : World} {Q : Exit → Act → World → Prop}
theorem Sl.sub {A : Option Addr} {m c sz l h : Nat} {cs : List Value} (hS : Sl u A m sz cs) (hl : l ≤ h) (hh : h ≤ m) (hc : m ≤ c) : Sl u (subA A c l sz) (h - l) sz ((cs.drop (l * sz)).take ((h - l) * sz)) := by
  have hlen := hS.len
  have hmul : h * sz ≤ m * sz := Nat.mul_le_mul_right _ hh
  have hsub : (h - l) * sz = h * sz - l * sz := Nat.sub_mul _ _ _
  have hml : l * sz ≤ h * sz := Nat.mul_le_mul_right _ hl
  refine ⟨by rw [List.length_take, List.length_drop, hlen]; omega, fun ha => ?_, fun a ha hne => ?_⟩
  · have : A = none := by
      unfold subA at ha
      split at ha
      · exact ha
      · simpa using ha
    have := hS.nil this
    omega
  · unfold subA at ha
    rw [if_neg (by omega)] at ha
    cases A with
    | none => simp at ha
    | some a0 =>
      simp only [Option.map_some, Option.some.injEq] at ha
      obtain ⟨h1, arr, t, fr, h2, h3⟩ := hS.at_ a0 rfl (by omega)
      obtain ⟨b, o, sp⟩ := a0
      simp only at h1; subst h1
      have hadd : (⟨b, o, none⟩ : Addr).add (l * sz) = ⟨b, o + l * sz, none⟩ := by simp only [Addr.add]; split <;> simp_all
      rw [hadd] at ha; subst ha
      refine ⟨rfl, arr, t, fr, h2, fun j v hj => ?_⟩
      rw [List.getElem?_take] at hj
      split at hj
      · rw [List.getElem?_drop] at hj
        have := h3 _ v hj
        rw [← Nat.add_assoc] at this; exact this
      · cases hj
theorem flat_drop {α : Type} {c : α → List Value} {sz : Nat} (hc : ∀ x, (c x).length = sz) : ∀ (i : Nat) (xs : List α), (xs.flatMap c).drop (i * sz) = (xs.drop i).flatMap c
  | 0, xs => by simp
  | i + 1, [] => by simp
  | i + 1, x :: xs => by
    rw [List.flatMap_cons, List.drop_succ_cons, ← flat_drop hc i xs, List.drop_append, List.drop_eq_nil_of_le (by rw [hc, Nat.add_mul]; omega), List.nil_append, hc]
    congr 1; rw [Nat.add_mul]; omega
theorem flat_take {α : Type} {c : α → List Value} {sz : Nat} (hc : ∀ x, (c x).length = sz) : ∀ (i : Nat) (xs : List α), (xs.flatMap c).take (i * sz) = (xs.take i).flatMap c
  | 0, xs => by simp
  | i + 1, [] => by simp
  | i + 1, x :: xs => by
    rw [List.flatMap_cons, List.take_succ_cons, List.flatMap_cons, ← flat_take hc i xs, List.take_append, List.take_of_length_le (by rw [hc, Nat.add_mul]; omega), hc]
    congr 2; rw [Nat.add_mul]; omega
theorem Rd.sub {α : Type} {c : α → List Value} {sz : Nat} (hc : ∀ x, (c x).length = sz) {A : Option Addr} {m cap l h : Nat} {xs : List α} (hS : Rd c sz u A m xs) (hl : l ≤ h) (hh : h ≤ m) (hcap : m ≤ cap) :
    Rd c sz u (subA A cap l sz) (h - l) ((xs.drop l).take (h - l)) := by
  obtain ⟨h1, h2⟩ := hS
  refine ⟨by rw [List.length_take, List.length_drop]; omega, ?_⟩
  have := h2.sub hl hh hcap
  rwa [flat_drop hc, flat_take hc] at this
theorem slice_run (hT : TOK P T) {t e : TypeId} {ti te : TI} (ht : kget T t = some ti) (hk : ti.kind = .slice e) (he : kget T e = some te) {A : Option Addr} {m c l h : Nat} {lo hi : Option Value} (hl : l ≤ h) (hh : h ≤ c)
    (h1 : (lo = none ∧ l = 0) ∨ ∃ kk, lo = some (.int kk (l : Int))) (h2 : (hi = none ∧ h = m) ∨ ∃ kk, hi = some (.int kk (h : Int))) :
    (Instr.sliceAt t (.slice A m c) lo hi none).run P w = .ok (.slice (subA A c l te.size) (h - l) (c - l)) w := by
  have hu := run_und (elem_of hT ht hk) w
  have hsz := run_size (hT e te he) w
  have hb : (Instr.sliceBounds true m c lo hi none).run P w = .ok (l, h, c) w := by
    rcases h1 with ⟨rfl, rfl⟩ | ⟨kk, rfl⟩ <;> rcases h2 with ⟨rfl, rfl⟩ | ⟨kk', rfl⟩ <;> simp [Instr.sliceBounds, Instr.sliceBound, asIntOf, hl, hh]
  unfold Instr.sliceAt Instr.slice
  simp only [Sem.run_bind, hu, Result.andThen_ok, hb, hsz, Sem.run_pure, subA]
/-- x[lo:hi] -/
theorem r_slice2 (hT : TOK P T) {q : Md} {l : List Oper} {o : Oper} {r : List Oper} {d : Nat} {t e : TypeId} {ti te : TI} {x y z : Operand} {A : Option Addr} {m c lo hi : Nat} {k1 k2 : IntKind}
    (hw : wantE l tm o = some true) (ho : o.dst = some d) (hn : Nat.blt d F.n.z = true) (hop : o.op = .slice t x (some y) (some z) none) (ht : kget T t = some ti) (hk : ti.kind = .slice e) (he : kget T e = some te)
    (hx : ev tm x = some (.v (.slice A m c))) (hy : ev tm y = some (.v (.int k1 (lo : Int)))) (hz : ev tm z = some (.v (.int k2 (hi : Int)))) (hl : lo ≤ hi) (hh : hi ≤ c)
    (next : Run P Q F ((d, .v (.slice (subA A c lo te.size) (hi - lo) (c - lo))) :: tm) L u q l r) : Run P Q F tm L u q l (o :: r) := by
  refine op_pure hw ho hn (fun β a w ht' hd => ⟨?_, rfl⟩) next
  have := slice_run (P := P) (w := w) hT ht hk he (A := A) (m := m) (c := c) (lo := some (.int k1 (lo : Int))) (hi := some (.int k2 (hi : Int))) hl hh (.inr ⟨_, rfl⟩) (.inr ⟨_, rfl⟩)
  simp [execOp, hop, ev_ok ht' hx, ev_ok ht' hy, ev_ok ht' hz, SV.den, this]
/-- x[lo:] -/
theorem r_slice1 (hT : TOK P T) {q : Md} {l : List Oper} {o : Oper} {r : List Oper} {d : Nat} {t e : TypeId} {ti te : TI} {x y : Operand} {A : Option Addr} {m c lo : Nat} {k1 : IntKind}
    (hw : wantE l tm o = some true) (ho : o.dst = some d) (hn : Nat.blt d F.n.z = true) (hop : o.op = .slice t x (some y) none none) (ht : kget T t = some ti) (hk : ti.kind = .slice e) (he : kget T e = some te)
    (hx : ev tm x = some (.v (.slice A m c))) (hy : ev tm y = some (.v (.int k1 (lo : Int)))) (hl : lo ≤ m) (hh : m ≤ c)
    (next : Run P Q F ((d, .v (.slice (subA A c lo te.size) (m - lo) (c - lo))) :: tm) L u q l r) : Run P Q F tm L u q l (o :: r) := by
  refine op_pure hw ho hn (fun β a w ht' hd => ⟨?_, rfl⟩) next
  have := slice_run (P := P) (w := w) hT ht hk he (A := A) (m := m) (c := c) (lo := some (.int k1 (lo : Int))) (hi := none) hl hh (.inr ⟨_, rfl⟩) (.inl ⟨rfl, rfl⟩)
  simp [execOp, hop, ev_ok ht' hx, ev_ok ht' hy, SV.den, this]
/-- x[:hi] -/
theorem r_slice0 (hT : TOK P T) {q : Md} {l : List Oper} {o : Oper} {r : List Oper} {d : Nat} {t e : TypeId} {ti te : TI} {x z : Operand} {A : Option Addr} {m c hi : Nat} {k2 : IntKind}
    (hw : wantE l tm o = some true) (ho : o.dst = some d) (hn : Nat.blt d F.n.z = true) (hop : o.op = .slice t x none (some z) none) (ht : kget T t = some ti) (hk : ti.kind = .slice e) (he : kget T e = some te)
    (hx : ev tm x = some (.v (.slice A m c))) (hz : ev tm z = some (.v (.int k2 (hi : Int)))) (hh : hi ≤ c)
    (next : Run P Q F ((d, .v (.slice (subA A c 0 te.size) (hi - 0) (c - 0))) :: tm) L u q l r) : Run P Q F tm L u q l (o :: r) := by
  refine op_pure hw ho hn (fun β a w ht' hd => ⟨?_, rfl⟩) next
  have := slice_run (P := P) (w := w) hT ht hk he (A := A) (m := m) (c := c) (l := 0) (lo := none) (hi := some (.int k2 (hi : Int))) (Nat.zero_le _) hh (.inl ⟨rfl, rfl⟩) (.inr ⟨_, rfl⟩)
  simp [execOp, hop, ev_ok ht' hx, ev_ok ht' hz, SV.den, this]
theorem r_min {q : Md} {l : List Oper} {o : Oper} {r : List Oper} {d : Nat} {x y : Operand} {ts : Array TypeId} {kk k2 : IntKind} {i j : Int}
    (hw : wantE l tm o = some true) (ho : o.dst = some d) (hn : Nat.blt d F.n.z = true) (hop : o.op = .call { callee := .builtin .min, args := #[x, y], argTypes := ts })
    (hx : ev tm x = some (.v (.int kk i))) (hy : ev tm y = some (.v (.int k2 j)))
    (next : Run P Q F ((d, .v (.int kk (if j < i then j else i))) :: tm) L u q l r) : Run P Q F tm L u q l (o :: r) := by
  refine op_pure hw ho hn (fun β a w ht' hd => ⟨?_, rfl⟩) next
  simp [execOp, hop, ev_ok ht' hx, ev_ok ht' hy, SV.den, resolve, invoke, builtin, Builtin.min_, Builtin.min2]
theorem r_minN {q : Md} {l : List Oper} {o : Oper} {r : List Oper} {d : Nat} {x y : Operand} {ts : Array TypeId} {kk k2 : IntKind} {i j : Nat}
    (hw : wantE l tm o = some true) (ho : o.dst = some d) (hn : Nat.blt d F.n.z = true) (hop : o.op = .call { callee := .builtin .min, args := #[x, y], argTypes := ts })
    (hx : ev tm x = some (.v (.int kk (i : Int)))) (hy : ev tm y = some (.v (.int k2 (j : Int))))
    (next : Run P Q F ((d, .v (.int kk ((min i j : Nat) : Int))) :: tm) L u q l r) : Run P Q F tm L u q l (o :: r) := by
  refine r_min hw ho hn hop hx hy ?_
  have : (if (j : Int) < (i : Int) then (j : Int) else (i : Int)) = ((min i j : Nat) : Int) := by split <;> omega
  rw [this]; exact next
def bopB (op : BinOp) (b : Bool) : Bool := match op with
  | .eql => b
  | _ => !b
theorem eqi_nn {t : TypeId} {ms : Array (String × TypeId)} (h : P.underlying t = some (.interface ms)) (d : Nat) : (Op.equalIn (d + 1) t .nilIface .nilIface).run P w = .ok true w := by simp [Op.equalIn, run_und h]
theorem eqi_in {t t2 : TypeId} {x : Value} {ms : Array (String × TypeId)} (h : P.underlying t = some (.interface ms)) (d : Nat) : (Op.equalIn (d + 1) t (.iface t2 x) .nilIface).run P w = .ok false w := by simp [Op.equalIn, run_und h]
theorem eqs_n {t e : TypeId} {A : Option Addr} {m c : Nat} (h : P.underlying t = some (.slice e)) (d : Nat) : (Op.equalIn (d + 1) t (.slice A m c) (.slice none 0 0)).run P w = .ok A.isNone w := by
  cases A <;> simp [Op.equalIn, run_und h]
theorem eq_nn {t : TypeId} {ms : Array (String × TypeId)} (h : P.underlying t = some (.interface ms)) : (Op.equal t .nilIface .nilIface).run P w = .ok true w := eqi_nn h 9999
theorem eq_in {t t2 : TypeId} {x : Value} {ms : Array (String × TypeId)} (h : P.underlying t = some (.interface ms)) : (Op.equal t (.iface t2 x) .nilIface).run P w = .ok false w := eqi_in h 9999
theorem eq_sn {t e : TypeId} {A : Option Addr} {m c : Nat} (h : P.underlying t = some (.slice e)) : (Op.equal t (.slice A m c) (.slice none 0 0)).run P w = .ok A.isNone w := eqs_n h 9999
/-- Is it nil? -/
def nilE : SV → Option Bool
  | .v .nilIface => some true
  | .v (.iface _ _) => some false
  | _ => none
theorem exec_bin {ρ : Operand → Value} {o : Oper} {op : BinOp} {t t' : TypeId} {x y : Operand} (h : o.op = .binOp op t x y t') : execOp ρ o = (do let v ← (do eqGuard op t x y (ρ x) (ρ y); binOp op t (ρ x) (ρ y) : Sem Value); pure (Next.value v) : Sem Next) := by
  cases o
  simp only at h
  subst h
  rfl
theorem ifnil_run {t : TypeId} {ms : Array (String × TypeId)} (h : P.underlying t = some (.interface ms)) {op : BinOp} (hb : op = .eql ∨ op = .neq) (x : Operand) {v : Value} {b : Bool} (hv : (v = .nilIface ∧ b = true) ∨ (∃ t2 y, v = .iface t2 y) ∧ b = false) :
    (do eqGuard op t x (.const .nilIface) v .nilIface; binOp op t v .nilIface : Sem Value).run P w = .ok (.bool (bopB op b)) w := by
  have hg : eqGuard op t x (.const .nilIface) v .nilIface = pure () := by
    rcases hb with rfl | rfl <;> rcases hv with ⟨rfl, rfl⟩ | ⟨⟨t2, y, rfl⟩, rfl⟩ <;> first | rfl | (cases x <;> rfl)
  have he : (Op.equal t v .nilIface).run P w = .ok b w := by
    rcases hv with ⟨rfl, rfl⟩ | ⟨⟨t2, y, rfl⟩, rfl⟩
    · exact eq_nn h
    · exact eq_in h
  rw [hg, Sem.run_bind, Sem.run_pure, Result.andThen_ok]
  rcases hb with rfl | rfl <;> rcases hv with ⟨rfl, rfl⟩ | ⟨⟨t2, y, rfl⟩, rfl⟩ <;> simp only [binOp, Sem.run_bind, he, Result.andThen_ok, Sem.run_pure] <;> rfl
theorem r_ifnil (hT : TOK P T) {q : Md} {l : List Oper} {o : Oper} {r : List Oper} {d : Nat} {op : BinOp} {t t' : TypeId} {ti : TI} {x : Operand} {s : SV} {b : Bool} (hw : wantE l tm o = some true) (ho : o.dst = some d) (hn : Nat.blt d F.n.z = true)
    (hop : o.op = .binOp op t x (.const .nilIface) t') (hb : op = .eql ∨ op = .neq) (ht : kget T t = some ti) (hk : ti.kind = .ifc) (hx : ev tm x = some s) (hs : nilE s = some b)
    (next : Run P Q F ((d, .v (.bool (bopB op b))) :: tm) L u q l r) : Run P Q F tm L u q l (o :: r) := by
  refine op_pure hw ho hn (fun β a w ht' hd => ⟨?_, rfl⟩) next
  obtain ⟨d1, e1, f1⟩ := desc_of hT ht
  rw [hk] at f1
  cases d1 <;> simp [kfits] at f1
  have hv : ((s.den β) = .nilIface ∧ b = true) ∨ (∃ t2 y, (s.den β) = .iface t2 y) ∧ b = false := by
    unfold nilE at hs
    split at hs
    · exact .inl ⟨rfl, (Option.some.inj hs).symm⟩
    · exact .inr ⟨⟨_, _, rfl⟩, (Option.some.inj hs).symm⟩
    · cases hs
  have hrun := ifnil_run (w := w) e1 hb x hv
  rw [exec_bin hop, ev_ok ht' hx]
  have hc : ∀ v, a.eval (.const v) = v := fun _ => rfl
  rw [hc, Sem.run_bind]
  erw [hrun]
  rfl
theorem slnil_run {t e : TypeId} {A : Option Addr} {m c : Nat} (h : P.underlying t = some (.slice e)) (x : Operand) :
    (do eqGuard .eql t x (.const (.slice none 0 0)) (.slice A m c) (.slice none 0 0); binOp .eql t (.slice A m c) (.slice none 0 0) : Sem Value).run P w = .ok (.bool A.isNone) w := by
  have hg : eqGuard .eql t x (.const (.slice none 0 0)) (.slice A m c) (.slice none 0 0) = pure () := rfl
  have he : (Op.equal t (.slice A m c) (.slice none 0 0)).run P w = .ok A.isNone w := eq_sn h
  rw [hg, Sem.run_bind, Sem.run_pure, Result.andThen_ok]
  simp only [binOp, Sem.run_bind, he, Result.andThen_ok, Sem.run_pure]
theorem r_slnil (hT : TOK P T) {q : Md} {l : List Oper} {o : Oper} {r : List Oper} {d : Nat} {t t' e : TypeId} {ti : TI} {x : Operand} {A : Option Addr} {m c : Nat} (hw : wantE l tm o = some true) (ho : o.dst = some d) (hn : Nat.blt d F.n.z = true)
    (hop : o.op = .binOp .eql t x (.const (.slice none 0 0)) t') (ht : kget T t = some ti) (hk : ti.kind = .slice e) (hx : ev tm x = some (.v (.slice A m c)))
    (next : Run P Q F ((d, .v (.bool A.isNone)) :: tm) L u q l r) : Run P Q F tm L u q l (o :: r) := by
  refine op_pure hw ho hn (fun β a w ht' hd => ⟨?_, rfl⟩) next
  have hrun := slnil_run (P := P) (w := w) (A := A) (m := m) (c := c) (elem_of hT ht hk) x
  rw [exec_bin hop, ev_ok ht' hx]
  have hc : ∀ v, a.eval (.const v) = v := fun _ => rfl
  rw [hc, Sem.run_bind]
  erw [hrun]
  rfl
theorem r_iface (hT : TOK P T) {q : Md} {l : List Oper} {o : Oper} {r : List Oper} {d : Nat} {t : TypeId} {ti : TI} {x : Operand} {s : SV} {v : Value} (hw : wantE l tm o = some true) (ho : o.dst = some d) (hn : Nat.blt d F.n.z = true)
    (hop : o.op = .makeInterface t x) (ht : kget T t = some ti) (hk : (match ti.kind with | .ifc => false | _ => true) = true) (hx : ev tm x = some s) (hv : valE L s = some v)
    (next : Run P Q F ((d, .v (.iface t v)) :: tm) L u q l r) : Run P Q F tm L u q l (o :: r) := by
  refine op_pure hw ho hn (fun β a w ht' hd => ⟨?_, rfl⟩) next
  obtain ⟨d1, e1, f1⟩ := desc_of hT ht
  have : (Instr.makeInterface t v).run P w = .ok (.iface t v) w := by
    unfold Instr.makeInterface
    rw [Sem.run_bind, run_und e1]
    cases d1 <;> first | rfl | (exfalso; cases hkk : ti.kind <;> rw [hkk] at f1 hk <;> simp [kfits] at f1 hk)
  simp [execOp, hop, ev_ok ht' hx, valE_den hd.bn hv, SV.den, this]
/-- v, ok := x.(T), T no interface, x of that type. -/
theorem r_assert (hT : TOK P T) {q : Md} {l : List Oper} {o : Oper} {r : List Oper} {d : Nat} {t0 t : TypeId} {ti : TI} {x : Operand} {v : Value} (s : SV) (hs : valE [] s = some v) (hw : wantE l tm o = some true) (ho : o.dst = some d) (hn : Nat.blt d F.n.z = true)
    (hop : o.op = .typeAssert x t0 t true) (ht : kget T t = some ti) (hk : (match ti.kind with | .ifc => false | _ => true) = true) (hx : ev tm x = some (.v (.iface t v)))
    (next : Run P Q F ((d, .tu [s, .v (.bool true)]) :: tm) L u q l r) : Run P Q F tm L u q l (o :: r) := by
  have hsk : s.ok L = true := ok_more (fun i hi => by simp [kget] at hi) _ (valE_ok hs)
  refine op_pure hw ho hn (fun β a w ht' hd => ⟨?_, by simp [SV.ok, SV.oks, hsk]⟩) next
  obtain ⟨d1, e1, f1⟩ := desc_of hT ht
  have : (Instr.typeAssert (.iface t v) t0 t true).run P w = .ok (.tuple #[v, .bool true]) w := by
    unfold Instr.typeAssert
    rw [Sem.run_bind, run_und e1]
    cases d1 <;> first | (simp; done) | (exfalso; cases hkk : ti.kind <;> rw [hkk] at f1 hk <;> simp [kfits] at f1 hk)
  have hden : s.den β = v := valE_den (L := []) (fun i B b h => by simp [kget] at h) hs
  simp [execOp, hop, ev_ok ht' hx, SV.den, SV.dens, this, hden]
/-- A call is deferred. -/
theorem r_defer {k : Hp} {N : World} {z : Nat} {D : List DV} {K : List Nat} {β0 : Nat → Nat} {l : List Oper} {o : Oper} {r : List Oper} {c : Call} {x : Operand} {f : Fn} {b : List SV} (hw : wantE l tm o = some true) (ho : o.dst = none)
    (hop : o.op = .defer c) (hc : c = { callee := .value x, args := #[], argTypes := #[] }) (hx : ev tm x = some (.fn f [] b))
    (next : Run P Q ⟨k, N, ⟨z, ⟨f, b, []⟩ :: D⟩, K, β0⟩ tm L u .seq l r) : Run P Q ⟨k, N, ⟨z, D⟩, K, β0⟩ tm L u .seq l (o :: r) := by
  intro β a w hf ht hd
  show (if _ then _ else _)
  rw [if_pos (wantE_ok hw ht)]
  refine .inl ?_
  subst hc
  have hok := ev_oks ht hx
  have hrun : (execOp a.eval o).run P w = .ok (.defer ⟨.fn f (SV.dens β b).toArray, #[]⟩) w := by
    simp [execOp, hop, resolve, ev_ok ht hx, SV.den, SV.dens, Deferred.ofValue]
  unfold Oper.wp
  rw [hrun, Oper.upon_defer, ho]
  refine next β _ w hf ⟨ht.size, ?_, ?_, ht.get⟩ hd
  · show _ :: a.defers = _
    rw [ht.defers]
    simp [DV.den, SV.dens]
  · have h1 := ht.dok
    simp only [dvs, List.all_cons, Bool.and_eq_true] at h1 ⊢
    refine ⟨?_, h1⟩
    simpa [DV.ok, SV.ok, SV.oks] using hok
/-- panic(x) -/
theorem r_panic {l : List Oper} {o : Oper} {r : List Oper} {x : Operand} {t : TypeId} {v : Value} (hw : wantE l tm o = some true) (hop : o.op = .panic x) (hx : ev tm x = some (.v (.iface t v)))
    (next : St F tm L u (Q (.panic [{ v := .iface t v, recovered := false }]))) : Run P Q F tm L u .seq l (o :: r) := by
  intro β a w hf ht hd
  show (if _ then _ else _)
  rw [if_pos (wantE_ok hw ht)]
  refine .inl ?_
  have hrun : (execOp a.eval o).run P w = .halt (.panic (.iface t v)) w := by
    simp [execOp, hop, ev_ok ht hx, SV.den, Instr.panic, goPanic, Sem.run]
  unfold Oper.wp
  rw [hrun, Oper.upon_panic]
  exact next β a w hf ht hd
theorem x_then_panic {Φ : Act → World → Prop} {ch : List PanicEntry} (h : St F tm L u (Q (.panic ch))) : St F tm L u (Exit.then Φ Q (.panic ch)) := h
theorem x_block_panic {id : Nat} {ch : List PanicEntry} (h : St F tm L u (Q (.panic ch))) : St F tm L u (Exit.inBlock id Q (.panic ch)) := h
end
end Go.Sy
