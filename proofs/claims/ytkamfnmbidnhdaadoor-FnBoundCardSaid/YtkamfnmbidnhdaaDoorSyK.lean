/- The walk by a symbolic frame: rules for numbers, texts, structs. -/
import Derived.Test.YtkamfnmbidnhdaaDoorSyJ
set_option linter.unusedVariables false
set_option linter.unusedSimpArgs false
set_option linter.unusedSectionVars false
namespace Go.Sy
set_option linter.unusedSimpArgs false
def byt (s : ByteArray) (i : Nat) : Nat := (s.data.toList.getD i 0).toNat
def arithE (op : BinOp) (a b : Int) : Option Int :=
  match op with
  | .add => some (a + b)
  | .sub => some (a - b)
  | .mul => some (a * b)
  | _ => none
section
variable {P : Program} {T : List (Nat × TI)} {F : Fr} {tm : Tm} {L : Lm} {u : Hp} {n : FN} {N : World} {β : Nat → Nat} {k : Hp} {a : Act} {w : World} {Q : Exit → Act → World → Prop}
theorem r_arithw {qq : Md} {l : List Oper} {o : Oper} {r : List Oper} {d : Nat} {op : BinOp} {t t' : TypeId} {x y : Operand} {kk : IntKind} {p q c : Int} (hw : wantE l tm o = some true) (ho : o.dst = some d) (hn : Nat.blt d F.n.z = true)
    (hop : o.op = .binOp op t x y t') (hx : ev tm x = some (.v (.int kk p))) (hy : ev tm y = some (.v (.int kk q))) (hc : arithE op p q = some c)
    (next : Run P Q F ((d, .v (.int kk (kk.wrap c))) :: tm) L u qq l r) : Run P Q F tm L u qq l (o :: r) := by
  refine op_pure hw ho hn (fun β a w ht hd => ⟨?_, rfl⟩) next
  have hg : eqGuard op t x y (.int kk p) (.int kk q) = pure () := eqGuard_at_int ..
  cases op <;> simp [arithE] at hc <;> subst hc <;> simp [execOp, hop, ev_ok ht hx, ev_ok ht hy, SV.den, hg, binOp, Op.intArith]
theorem r_arith {qq : Md} {l : List Oper} {o : Oper} {r : List Oper} {d : Nat} {op : BinOp} {t t' : TypeId} {x y : Operand} {p q c : Int} (hw : wantE l tm o = some true) (ho : o.dst = some d) (hn : Nat.blt d F.n.z = true)
    (hop : o.op = .binOp op t x y t') (hx : ev tm x = some (.v (.int .i64 p))) (hy : ev tm y = some (.v (.int .i64 q))) (hc : arithE op p q = some c) (hr : -9223372036854775808 ≤ c ∧ c ≤ 9223372036854775807)
    (next : Run P Q F ((d, .v (.int .i64 c)) :: tm) L u qq l r) : Run P Q F tm L u qq l (o :: r) :=
  r_arithw hw ho hn hop hx hy hc (by rw [IntWalk.i64_in c hr]; exact next)
theorem r_quo {qq : Md} {l : List Oper} {o : Oper} {r : List Oper} {d : Nat} {t t' : TypeId} {x y : Operand} {kk : IntKind} {p q : Int} (hw : wantE l tm o = some true) (ho : o.dst = some d) (hn : Nat.blt d F.n.z = true)
    (hop : o.op = .binOp .quo t x y t') (hx : ev tm x = some (.v (.int kk p))) (hy : ev tm y = some (.v (.int kk q))) (hq : q ≠ 0)
    (next : Run P Q F ((d, .v (.int kk (kk.wrap (p.tdiv q)))) :: tm) L u qq l r) : Run P Q F tm L u qq l (o :: r) := by
  refine op_pure hw ho hn (fun β a w ht hd => ⟨?_, rfl⟩) next
  simp [execOp, hop, ev_ok ht hx, ev_ok ht hy, SV.den, eqGuard_quo, binOp, Op.intDiv, hq]
theorem r_rem {qq : Md} {l : List Oper} {o : Oper} {r : List Oper} {d : Nat} {t t' : TypeId} {x y : Operand} {kk : IntKind} {p q : Int} (hw : wantE l tm o = some true) (ho : o.dst = some d) (hn : Nat.blt d F.n.z = true)
    (hop : o.op = .binOp .rem t x y t') (hx : ev tm x = some (.v (.int kk p))) (hy : ev tm y = some (.v (.int kk q))) (hq : q ≠ 0)
    (next : Run P Q F ((d, .v (.int kk (p.tmod q))) :: tm) L u qq l r) : Run P Q F tm L u qq l (o :: r) := by
  refine op_pure hw ho hn (fun β a w ht hd => ⟨?_, rfl⟩) next
  simp [execOp, hop, ev_ok ht hx, ev_ok ht hy, SV.den, eqGuard_rem, binOp, Op.intDiv, hq]
theorem r_quoN {qq : Md} {l : List Oper} {o : Oper} {r : List Oper} {d : Nat} {t t' : TypeId} {x y : Operand} {p q : Nat} (hw : wantE l tm o = some true) (ho : o.dst = some d) (hn : Nat.blt d F.n.z = true)
    (hop : o.op = .binOp .quo t x y t') (hx : ev tm x = some (.v (.int .i64 (p : Int)))) (hy : ev tm y = some (.v (.int .i64 (q : Int)))) (hq : q ≠ 0) (hp : p ≤ 9223372036854775807)
    (next : Run P Q F ((d, .v (.int .i64 ((p / q : Nat) : Int))) :: tm) L u qq l r) : Run P Q F tm L u qq l (o :: r) := by
  refine r_quo hw ho hn hop hx hy (by omega) ?_
  have h1 : ((p : Int).tdiv (q : Int)) = ((p / q : Nat) : Int) := rfl
  have h2 : p / q ≤ p := Nat.div_le_self p q
  rw [h1]
  generalize p / q = z at h2 next
  rw [IntWalk.i64_in _ (by omega)]
  exact next
theorem r_remN {qq : Md} {l : List Oper} {o : Oper} {r : List Oper} {d : Nat} {t t' : TypeId} {x y : Operand} {kk : IntKind} {p q : Nat} (hw : wantE l tm o = some true) (ho : o.dst = some d) (hn : Nat.blt d F.n.z = true)
    (hop : o.op = .binOp .rem t x y t') (hx : ev tm x = some (.v (.int kk (p : Int)))) (hy : ev tm y = some (.v (.int kk (q : Int)))) (hq : q ≠ 0)
    (next : Run P Q F ((d, .v (.int kk ((p % q : Nat) : Int))) :: tm) L u qq l r) : Run P Q F tm L u qq l (o :: r) :=
  r_rem hw ho hn hop hx hy (by omega) next
theorem r_bits {qq : Md} {l : List Oper} {o : Oper} {r : List Oper} {d : Nat} {op : BinOp} {t t' : TypeId} {x y : Operand} {kk : IntKind} {p q c : Int} (hw : wantE l tm o = some true) (ho : o.dst = some d) (hn : Nat.blt d F.n.z = true)
    (hop : o.op = .binOp op t x y t') (hx : ev tm x = some (.v (.int kk p))) (hy : ev tm y = some (.v (.int kk q))) (hc : (Op.intBits op kk p q) = pure (.int kk c)) (hb : op = .and ∨ op = .or ∨ op = .xor ∨ op = .andNot)
    (next : Run P Q F ((d, .v (.int kk c)) :: tm) L u qq l r) : Run P Q F tm L u qq l (o :: r) := by
  refine op_pure hw ho hn (fun β a w ht hd => ⟨?_, rfl⟩) next
  have hg : eqGuard op t x y (.int kk p) (.int kk q) = pure () := eqGuard_at_int ..
  rcases hb with rfl | rfl | rfl | rfl <;> simp [execOp, hop, ev_ok ht hx, ev_ok ht hy, SV.den, hg, binOp, hc]
theorem r_shift {qq : Md} {l : List Oper} {o : Oper} {r : List Oper} {d : Nat} {op : BinOp} {t t' : TypeId} {x y : Operand} {kk ky : IntKind} {p q c : Int} (hw : wantE l tm o = some true) (ho : o.dst = some d) (hn : Nat.blt d F.n.z = true)
    (hop : o.op = .binOp op t x y t') (hx : ev tm x = some (.v (.int kk p))) (hy : ev tm y = some (.v (.int ky q))) (hb : op = .shl ∨ op = .shr) (hc : (Op.shift op kk p ky q) = pure (.int kk c))
    (next : Run P Q F ((d, .v (.int kk c)) :: tm) L u qq l r) : Run P Q F tm L u qq l (o :: r) := by
  refine op_pure hw ho hn (fun β a w ht hd => ⟨?_, rfl⟩) next
  have hg : eqGuard op t x y (.int kk p) (.int ky q) = pure () := eqGuard_at_int ..
  rcases hb with rfl | rfl <;> simp [execOp, hop, ev_ok ht hx, ev_ok ht hy, SV.den, hg, binOp, hc]
theorem r_neg {qq : Md} {l : List Oper} {o : Oper} {r : List Oper} {d : Nat} {t : TypeId} {x : Operand} {kk : IntKind} {p : Int} (hw : wantE l tm o = some true) (ho : o.dst = some d) (hn : Nat.blt d F.n.z = true)
    (hop : o.op = .unOp .neg t x) (hx : ev tm x = some (.v (.int kk p)))
    (next : Run P Q F ((d, .v (.int kk (kk.wrap (0 - p)))) :: tm) L u qq l r) : Run P Q F tm L u qq l (o :: r) := by
  refine op_pure hw ho hn (fun β a w ht hd => ⟨?_, rfl⟩) next
  simp [execOp, hop, ev_ok ht hx, SV.den, Op.unary, Op.intArith]
theorem desc_of (hT : TOK P T) {t : TypeId} {ti : TI} (h : kget T t = some ti) : ∃ d, P.underlying t = some d ∧ kfits P ti.kind d = true := chk_desc (hT t ti h)
/-- A whole number of another kind. -/
theorem r_convw (hT : TOK P T) {qq : Md} {l : List Oper} {o : Oper} {r : List Oper} {d : Nat} {t t' : TypeId} {ti ti' : TI} {x : Operand} {kk k2 : IntKind} {p : Int} (hw : wantE l tm o = some true) (ho : o.dst = some d) (hn : Nat.blt d F.n.z = true)
    (hop : o.op = .convert t t' x) (ht1 : kget T t = some ti) (ht2 : kget T t' = some ti') (hk : ti'.kind = .int k2) (hx : ev tm x = some (.v (.int kk p)))
    (next : Run P Q F ((d, .v (.int k2 (k2.wrap p))) :: tm) L u qq l r) : Run P Q F tm L u qq l (o :: r) := by
  refine op_pure hw ho hn (fun β a w ht hd => ⟨?_, rfl⟩) next
  obtain ⟨d1, e1, f1⟩ := desc_of hT ht1
  obtain ⟨d2, e2, f2⟩ := desc_of hT ht2
  rw [hk] at f2
  cases d2 <;> simp [kfits] at f2
  subst f2
  simp [execOp, hop, ev_ok ht hx, SV.den, convert, run_und e1, run_und e2, Conv.intToInt]
theorem r_conv (hT : TOK P T) {qq : Md} {l : List Oper} {o : Oper} {r : List Oper} {d : Nat} {t t' : TypeId} {ti ti' : TI} {x : Operand} {kk k2 : IntKind} {p : Int} (hw : wantE l tm o = some true) (ho : o.dst = some d) (hn : Nat.blt d F.n.z = true)
    (hop : o.op = .convert t t' x) (ht1 : kget T t = some ti) (ht2 : kget T t' = some ti') (hk : ti'.kind = .int k2) (hx : ev tm x = some (.v (.int kk p))) (hp : k2.wrap p = p)
    (next : Run P Q F ((d, .v (.int k2 p)) :: tm) L u qq l r) : Run P Q F tm L u qq l (o :: r) :=
  r_convw hT hw ho hn hop ht1 ht2 hk hx (by rw [hp]; exact next)
theorem r_concat {qq : Md} {l : List Oper} {o : Oper} {r : List Oper} {d : Nat} {t t' : TypeId} {x y : Operand} {p q : ByteArray} (hw : wantE l tm o = some true) (ho : o.dst = some d) (hn : Nat.blt d F.n.z = true)
    (hop : o.op = .binOp .add t x y t') (hx : ev tm x = some (.v (.string p))) (hy : ev tm y = some (.v (.string q))) (hs : p.size + q.size ≤ 9223372036854775807)
    (next : Run P Q F ((d, .v (.string (p ++ q))) :: tm) L u qq l r) : Run P Q F tm L u qq l (o :: r) := by
  refine op_pure hw ho hn (fun β a w ht hd => ⟨?_, rfl⟩) next
  have hs' : ¬ (p.size + q.size > 9223372036854775807) := by omega
  simp only [execOp, hop, ev_ok ht hx, ev_ok ht hy, SV.den, eqGuard_add, binOp, pure_bind, bind_pure, Sem.run_bind, run_string_add_if, if_neg hs', Result.andThen_ok, Sem.run_pure]
theorem r_str (hT : TOK P T) {qq : Md} {l : List Oper} {o : Oper} {r : List Oper} {d : Nat} {t t' e : TypeId} {ti ti' te : TI} {x : Operand} {A : Option Addr} {m c : Nat} {s : ByteArray} (hw : wantE l tm o = some true) (ho : o.dst = some d) (hn : Nat.blt d F.n.z = true)
    (hop : o.op = .convert t t' x) (ht1 : kget T t = some ti) (hk1 : ti.kind = .slice e) (he : kget T e = some te) (hke : te.kind = .int .u8) (ht2 : kget T t' = some ti') (hk : ti'.kind = .str) (hx : ev tm x = some (.v (.slice A m c)))
    (hS : Sl u A m 1 (byteCells s)) (next : Run P Q F ((d, .v (.string s)) :: tm) L u qq l r) : Run P Q F tm L u qq l (o :: r) := by
  refine op_pure hw ho hn (fun β a w ht hd => ⟨?_, rfl⟩) next
  obtain ⟨d2, e2, f2⟩ := desc_of hT ht2
  rw [hk] at f2
  cases d2 <;> simp [kfits] at f2
  obtain ⟨d3, e3, f3⟩ := desc_of hT he
  rw [hke] at f3
  cases d3 <;> simp [kfits] at f3
  subst f3
  have hc := run_convert_bytes_string (P := P) w t t' e A m c (elem_of hT ht1 hk1) e3 e2
  have hb : (Conv.bytesToString (.slice A m c)).run P w = .ok (.string s) w := by
    cases A with
    | none =>
      have := hS.nil rfl
      subst this
      have hl := hS.len
      rw [byteCells_length] at hl
      have : s = .empty := by
        have h0 : s.data.size = 0 := by simpa using hl
        obtain ⟨d⟩ := s
        simp at h0
        subst h0; rfl
      subst this
      simp [Conv.bytesToString]
    | some ad =>
      by_cases hm0 : m = 0
      · subst hm0
        have hl := hS.len
        rw [byteCells_length] at hl
        have : s = .empty := by
          have h0 : s.data.size = 0 := by simpa using hl
          obtain ⟨d⟩ := s
          simp at h0
          subst h0; rfl
        subst this
        have hrun := run_loadCells_list (P := P) w ad [] (fun j v hj => by simp at hj)
        rw [run_bytesToString w ad 0 c [] (by simpa using hrun)]
        rfl
      obtain ⟨e1, hat⟩ := hS.at_ ad rfl hm0
      obtain ⟨b, off, sp⟩ := ad
      simp only at e1; subst e1
      have hl := hS.len
      have hrun := run_loadCells_list (P := P) w ⟨b, off, none⟩ (byteCells s) (fun j v hj => by
        have : (⟨b, off, none⟩ : Addr).add j = ⟨b, off + j, none⟩ := by simp only [Addr.add]; split <;> simp_all
        rw [this]; exact hat.cell hd hj)
      rw [hl, Nat.mul_one] at hrun
      have hbc : byteCells s = (s.data.toList.map fun b => (b.toNat : Int)).map (Value.int .u8) := by simp [byteCells]
      rw [hbc] at hrun
      rw [run_bytesToString w ⟨b, off, none⟩ m c _ hrun]
      congr 2
      have key : ∀ (l : List UInt8) (acc : ByteArray), (l.map fun b => (b.toNat : Int)).foldl (fun r n => r.push (UInt8.ofNat n.toNat)) acc = ⟨acc.data ++ l.toArray⟩ := by
        intro l
        induction l with
        | nil => intro acc; simp
        | cons x l ih => intro acc; simp only [List.map_cons, List.foldl_cons, ih]; simp [ByteArray.push]
      rw [key]
      have h0 : (ByteArray.empty.data ++ s.data.toList.toArray) = s.data := by
        rw [Array.toArray_toList]
        show (#[] ++ s.data) = s.data
        exact Array.empty_append
      rw [h0]
  simp [execOp, hop, ev_ok ht hx, SV.den, hc, hb]
/-- s[i] -/
theorem r_byte (hT : TOK P T) {qq : Md} {l : List Oper} {o : Oper} {r : List Oper} {d : Nat} {t : TypeId} {ti : TI} {x y : Operand} {kk : IntKind} {s : ByteArray} {i : Nat} (hw : wantE l tm o = some true) (ho : o.dst = some d) (hn : Nat.blt d F.n.z = true)
    (hop : o.op = .index t x y) (ht1 : kget T t = some ti) (hk : ti.kind = .str) (hx : ev tm x = some (.v (.string s))) (hy : ev tm y = some (.v (.int kk (i : Int)))) (hi : i < s.size)
    (next : Run P Q F ((d, .v (.int .u8 (byt s i))) :: tm) L u qq l r) : Run P Q F tm L u qq l (o :: r) := by
  refine op_pure hw ho hn (fun β a w ht hd => ⟨?_, rfl⟩) next
  obtain ⟨d2, e2, f2⟩ := desc_of hT ht1
  rw [hk] at f2
  cases d2 <;> simp [kfits] at f2
  have h1 : s[i]? = some s[i] := getElem?_pos s i hi
  have h2 : (s[i] : UInt8).toNat = byt s i := by
    unfold byt
    have : i < s.data.toList.length := by simpa using hi
    rw [List.getD_eq_getElem?_getD, List.getElem?_eq_getElem this]
    rfl
  simp [execOp, hop, ev_ok ht hx, ev_ok ht hy, SV.den, Instr.index, asIntOf, run_und e2, h1, h2]
end
end Go.Sy
