/- The walk by a symbolic frame: stores into a row of its own, at an element and at a field of one; rows of whole numbers. -/
import Derived.Test.YtkamfnmbidnhdaaDoorSyV
import Derived.Test.YtkamfnmbidnhdaaDoorSyMG
set_option linter.unusedVariables false
set_option linter.unusedSimpArgs false
set_option linter.unusedSectionVars false
namespace Go.Sy
set_option linter.unusedVariables false
section
variable {P : Program} {T : List (Nat × TI)} {F : Fr} {tm : Tm} {L : Lm} {u : Hp} {Q : Exit → Act → World → Prop}
theorem r_store_row1 (hT : TOK P T) {l : List Oper} {op : Oper} {r : List Oper} {t e : TypeId} {ti : TI} {x y : Operand} {b off q f1 n c sz : Nat} {s : SV} {cs : List SV} {vs pre l1 l2 : List Value} {w0 : Hp}
    (hO : Own u (some ⟨b, off, none⟩) n c e sz (pre ++ l1)) (hK : ∀ x, x ≠ b → u x = w0 x) (hw : wantE l tm op = some true) (hdst : op.dst = none) (hop : op.op = .store t x y) (hx : ev tm x = some (.v (.pointer (some ⟨b, q + f1, none⟩)))) (hq : q = off + pre.length)
    (hy : ev tm y = some s) (ht : kget T t = some ti) (hc : cellsE ti.kind.agg s = some cs) (hl : lenIs cs ti.size = true) (ho1 : onesE cs = true) (hv : valsE L cs = some vs) (hset : setV f1 l1 vs = some l2)
    (next : ∀ u', Own u' (some ⟨b, off, none⟩) n c e sz (pre ++ l2) → (∀ x, x ≠ b → u' x = w0 x) → Run P Q F tm L u' .seq l r) : Run P Q F tm L u .seq l (op :: r) :=
  r_store_row2 (f1 := f1) (f2 := 0) hT hO hK hw hdst hop hx hq hy ht hc hl ho1 hv hset next
theorem r_store_row0 (hT : TOK P T) {l : List Oper} {op : Oper} {r : List Oper} {t e : TypeId} {ti : TI} {x y : Operand} {b off q n c sz : Nat} {s : SV} {cs : List SV} {vs pre l1 l2 : List Value} {w0 : Hp}
    (hO : Own u (some ⟨b, off, none⟩) n c e sz (pre ++ l1)) (hK : ∀ x, x ≠ b → u x = w0 x) (hw : wantE l tm op = some true) (hdst : op.dst = none) (hop : op.op = .store t x y) (hx : ev tm x = some (.v (.pointer (some ⟨b, q, none⟩)))) (hq : q = off + pre.length)
    (hy : ev tm y = some s) (ht : kget T t = some ti) (hc : cellsE ti.kind.agg s = some cs) (hl : lenIs cs ti.size = true) (ho1 : onesE cs = true) (hv : valsE L cs = some vs) (hset : setV 0 l1 vs = some l2)
    (next : ∀ u', Own u' (some ⟨b, off, none⟩) n c e sz (pre ++ l2) → (∀ x, x ≠ b → u' x = w0 x) → Run P Q F tm L u' .seq l r) : Run P Q F tm L u .seq l (op :: r) :=
  r_store_row2 (f1 := 0) (f2 := 0) hT hO hK hw hdst hop hx hq hy ht hc hl ho1 hv hset next
end
/-- A whole number's cell; two. -/
def Ic (x : Int) : List Value := [.int .i64 x]
def Ac (p : Int × Int) : List Value := [.int .i64 p.1, .int .i64 p.2]
theorem Ic_len (x : Int) : (Ic x).length = 1 := rfl
theorem Ac_len (p : Int × Int) : (Ac p).length = 2 := rfl
abbrev Ints (u : Hp) (A : Option Addr) (n : Nat) (xs : List Int) : Prop := Rd Ic 1 u A n xs
abbrev Asks (u : Hp) (A : Option Addr) (n : Nat) (xs : List (Int × Int)) : Prop := Rd Ac 2 u A n xs
abbrev Mat (u : Hp) (A : Option Addr) (n : Nat) (ts : List (List Int)) : Prop := TabG Ic 1 u A n ts
/-- How much is left. -/
def szI (n : Nat) (l : Int) : Int := if l - n < 0 then -1 else l - n
def szIs : List (List Int) → Int → Int
  | [], l => l
  | t :: r, l => if szI t.length l < 0 then -1 else szIs r (szI t.length l)
def szII (ts : List (List Int)) (l : Int) : Int := if l - ts.length < 0 then -1 else szIs ts (l - ts.length)
theorem szI_le (n : Nat) (l : Int) (h : 0 ≤ l) : -1 ≤ szI n l ∧ szI n l ≤ l := by unfold szI; split <;> omega
theorem szIs_len : ∀ (ts : List (List Int)) (l : Int), 0 ≤ szIs ts l → 0 ≤ l → ∀ t ∈ ts, (t.length : Int) ≤ l
  | [], l, _, _, t, ht => by cases ht
  | s :: r, l, h, h0, t, ht => by
    have h1 := szI_le s.length l h0
    have h2 : 0 ≤ szI s.length l ∧ 0 ≤ szIs r (szI s.length l) := by
      simp only [szIs] at h
      split at h
      · omega
      · exact ⟨by omega, h⟩
    rcases List.mem_cons.1 ht with rfl | ht
    · have h3 := h2.1
      unfold szI at h3
      split at h3 <;> omega
    · have := szIs_len r _ h2.2 h2.1 t ht
      omega
theorem szII_len {ts : List (List Int)} {l : Int} (h0 : 0 ≤ l) (h : 0 ≤ szII ts l) : (ts.length : Int) ≤ l ∧ ∀ t ∈ ts, (t.length : Int) ≤ l := by
  unfold szII at h
  split at h
  · omega
  · refine ⟨by omega, fun t ht => ?_⟩
    have := szIs_len ts _ h (by omega) t ht
    omega
/-- Marks. -/
def mkI (n : Nat) (x : Int) : List Int := (List.range n).map fun i : Nat => x + i
theorem mkI_succ (n : Nat) (x : Int) : mkI (n + 1) x = mkI n x ++ [x + n] := by simp [mkI, List.range_succ]
theorem mkI_len (n : Nat) (x : Int) : (mkI n x).length = n := by simp [mkI]
theorem mkI_get {n : Nat} {x : Int} {i : Nat} {p : Int} (h : (mkI n x)[i]? = some p) : p = x + i := by
  have hi : i < n := by have := (List.getElem?_eq_some_iff.1 h).1; rwa [mkI_len] at this
  simp [mkI, hi] at h
  exact h.symm
def mkA (n : Nat) (x : Int) : List (Int × Int) := (List.range n).map fun i : Nat => (x + 2 * i, x + 2 * i + 1)
theorem mkA_succ (n : Nat) (x : Int) : mkA (n + 1) x = mkA n x ++ [(x + 2 * n, x + 2 * n + 1)] := by simp [mkA, List.range_succ]
theorem mkA_len (n : Nat) (x : Int) : (mkA n x).length = n := by simp [mkA]
theorem mkA_get {n : Nat} {x : Int} {i : Nat} {p : Int × Int} (h : (mkA n x)[i]? = some p) : p = (x + 2 * i, x + 2 * i + 1) := by
  have hi : i < n := by have := (List.getElem?_eq_some_iff.1 h).1; rwa [mkA_len] at this
  simp [mkA, hi] at h
  exact h.symm
def cntI : List (List Int) → Nat
  | [] => 0
  | t :: r => t.length + cntI r
def mkII : List (List Int) → Int → List (List Int)
  | [], _ => []
  | t :: r, x => mkI t.length x :: mkII r (x + t.length)
theorem cntI_snoc (t : List Int) : ∀ l, cntI (l ++ [t]) = cntI l + t.length
  | [] => by simp [cntI]
  | s :: r => by simp [cntI, cntI_snoc t r]; omega
theorem mkII_snoc (t : List Int) : ∀ (l : List (List Int)) (x : Int), mkII (l ++ [t]) x = mkII l x ++ [mkI t.length (x + cntI l)]
  | [], x => by simp [mkII, cntI]
  | s :: r, x => by simp only [List.cons_append, mkII, mkII_snoc t r, cntI]; congr 4; push_cast; omega
theorem mkII_len : ∀ (l : List (List Int)) (x : Int), (mkII l x).length = l.length
  | [], _ => rfl
  | s :: r, x => by simp [mkII, mkII_len r]
theorem cntI_take (ts : List (List Int)) (i : Nat) {t : List Int} (h : ts[i]? = some t) : cntI (ts.take i) + t.length ≤ cntI ts := by
  have h1 : ∀ l m : List (List Int), cntI (l ++ m) = cntI l + cntI m := fun l m => by induction l with
    | nil => simp [cntI]
    | cons a r ih => simp [cntI, ih]; omega
  have h2 : ts = ts.take i ++ t :: ts.drop (i + 1) := by
    have hi : i < ts.length := (List.getElem?_eq_some_iff.1 h).1
    have : ts[i] = t := (List.getElem?_eq_some_iff.1 h).2
    rw [← this, ← List.drop_eq_getElem_cons hi, List.take_append_drop]
  have h3 := congrArg cntI h2
  rw [h1, cntI] at h3; omega
theorem cntI_le : ∀ (ts : List (List Int)) (m : Nat), (∀ t ∈ ts, t.length ≤ m) → cntI ts ≤ ts.length * m
  | [], m, _ => by simp [cntI]
  | t :: r, m, h => by
    have h1 := cntI_le r m (fun s hs => h s (.tail _ hs))
    have h2 := h t (.head _)
    simp only [cntI, List.length_cons, Nat.add_mul]; omega
end Go.Sy
