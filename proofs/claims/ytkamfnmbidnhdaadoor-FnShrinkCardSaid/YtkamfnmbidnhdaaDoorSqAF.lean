/- What the drawer draws, as functions of the bytes and the cursor. No program in sight; no condition. -/
import Derived.Test.YtkamfnmbidnhdaaDoorSqAC
import Derived.Test.YtkamfnmbidnhdaaDoorSqAE
import Derived.Lib.ItoaNum
set_option linter.unusedVariables false
set_option linter.unusedSimpArgs false
set_option linter.unusedSectionVars false
namespace Go.Sy
set_option linter.unusedVariables false
/-- The cursor: where it stands, and its seed. -/
abbrev DS := Nat × Int
def lo8 (st : Int) : Int := IntKind.i64.wrap (IntKind.u64.wrap (((BitVec.ofInt IntKind.u64.bits (st.fdiv (2 ^ 40)) &&& BitVec.ofInt IntKind.u64.bits 255).toNat : Nat) : Int))
def sd0 (st : Int) : Int := IntKind.u64.wrap (IntKind.u64.wrap (st * 6364136223846793005) + 1442695040888963407)
def sd1 (st x : Int) : Int := IntKind.u64.wrap (IntKind.u64.wrap (IntKind.u64.wrap (st * 6364136223846793005) + IntKind.u64.wrap x) + 1442695040888963407)
def nx (bs : List Int) (s : DS) : Int × DS := if s.1 < bs.length then (bs.getD s.1 0, (s.1 + 1, sd1 s.2 (bs.getD s.1 0))) else (lo8 (sd0 s.2), (s.1 + 1, sd0 s.2))
def pk (bs : List Int) (k : Nat) (s : DS) : Nat × DS :=
  if k ≤ 1 then (0, s) else if k ≤ 200 then ((nx bs s).1.toNat % k, (nx bs s).2) else (((nx bs s).1.toNat * 256 + (nx bs (nx bs s).2).1.toNat) % k, (nx bs (nx bs s).2).2)
theorem pk_lt (bs : List Int) {k : Nat} (s : DS) (h : 0 < k) : (pk bs k s).1 < k := by
  unfold pk
  split
  · exact h
  · split
    · exact Nat.mod_lt _ h
    · exact Nat.mod_lt _ h
theorem nx_at (bs : List Int) (s : DS) : (nx bs s).2.1 = s.1 + 1 := by unfold nx; split <;> rfl
theorem pk_at (bs : List Int) (k : Nat) (s : DS) : s.1 ≤ (pk bs k s).2.1 ∧ (pk bs k s).2.1 ≤ s.1 + 2 := by
  unfold pk
  split
  · exact ⟨Nat.le_refl _, Nat.le_add_right _ _⟩
  · split
    · rw [nx_at]; omega
    · rw [nx_at, nx_at]; omega
/-- whole -/
def whl (bs : List Int) (s : DS) : Int × DS :=
  let a := pk bs 6 s
  if a.1 = 0 then (9223372036854775807 - ((pk bs 3 a.2).1 : Int), (pk bs 3 a.2).2)
  else if a.1 = 1 then (-9223372036854775808 + ((pk bs 3 a.2).1 : Int), (pk bs 3 a.2).2)
  else if a.1 = 2 then (((pk bs 70000 a.2).1 : Int) - 35000, (pk bs 70000 a.2).2)
  else (((pk bs 12 a.2).1 : Int) - 3, (pk bs 12 a.2).2)
theorem whl_rng (bs : List Int) (s : DS) : -9223372036854775808 ≤ (whl bs s).1 ∧ (whl bs s).1 ≤ 9223372036854775807 := by
  unfold whl
  have h1 := pk_lt bs (k := 3) (pk bs 6 s).2 (by decide)
  have h2 := pk_lt bs (k := 70000) (pk bs 6 s).2 (by decide)
  have h3 := pk_lt bs (k := 12) (pk bs 6 s).2 (by decide)
  dsimp only
  split
  · dsimp only; omega
  · split
    · dsimp only; omega
    · split
      · dsimp only; omega
      · dsimp only; omega
/-- n bytes -/
def byD (bs : List Int) : Nat → DS → List UInt8 × DS
  | 0, s => ([], s)
  | n + 1, s => (UInt8.ofNat (nx bs s).1.toNat :: (byD bs n (nx bs s).2).1, (byD bs n (nx bs s).2).2)
theorem byD_len (bs : List Int) : ∀ (n : Nat) (s : DS), (byD bs n s).1.length = n
  | 0, _ => rfl
  | n + 1, s => by simp only [byD, List.length_cons, byD_len bs n]
theorem byD_at (bs : List Int) : ∀ (n : Nat) (s : DS), (byD bs n s).2.1 = s.1 + n
  | 0, _ => rfl
  | n + 1, s => by simp only [byD, byD_at bs n, nx_at]; omega
/-- one byte more -/
theorem byD_snoc (bs : List Int) : ∀ (n : Nat) (s : DS), byD bs (n + 1) s = ((byD bs n s).1 ++ [UInt8.ofNat (nx bs (byD bs n s).2).1.toNat], (nx bs (byD bs n s).2).2)
  | 0, s => rfl
  | n + 1, s => by
    rw [byD, byD_snoc bs n (nx bs s).2]
    rfl
def digT : List UInt8 := [48, 49, 50, 51, 52, 53, 54, 55, 56, 57]
def dbl : Nat → List UInt8
  | 0 => digT
  | n + 1 => dbl n ++ dbl n
theorem dbl_len : ∀ n, (dbl n).length = 10 * 2 ^ n
  | 0 => rfl
  | n + 1 => by rw [dbl, List.length_append, dbl_len n, Nat.pow_succ]; omega
/-- text -/
def txD (bs : List Int) (s : DS) : List UInt8 × DS :=
  let a := pk bs 30 s
  if a.1 = 0 then ((dbl 6).take (500 - (pk bs 2 a.2).1), (pk bs 2 a.2).2)
  else
    let b := pk bs 4 a.2
    if b.1 = 0 then ([], b.2)
    else if b.1 = 1 then byD bs (pk bs 4 b.2).1 (pk bs 4 b.2).2
    else ([UInt8.ofNat (97 + (pk bs 3 b.2).1)], (pk bs 3 b.2).2)
theorem txD_len (bs : List Int) (s : DS) : (txD bs s).1.length ≤ 500 := by
  unfold txD
  dsimp only
  split
  · rw [List.length_take]; omega
  · split
    · simp
    · split
      · rw [byD_len]
        have := pk_lt bs (k := 4) (pk bs 4 (pk bs 30 s).2).2 (by decide)
        omega
      · simp
theorem whl_at (bs : List Int) (s : DS) : s.1 ≤ (whl bs s).2.1 ∧ (whl bs s).2.1 ≤ s.1 + 4 := by
  unfold whl
  dsimp only
  have h0 := pk_at bs 6 s
  have h1 := pk_at bs 3 (pk bs 6 s).2
  have h2 := pk_at bs 70000 (pk bs 6 s).2
  have h3 := pk_at bs 12 (pk bs 6 s).2
  split
  · dsimp only; omega
  · split
    · dsimp only; omega
    · split <;> (dsimp only; omega)
theorem txD_at (bs : List Int) (s : DS) : s.1 ≤ (txD bs s).2.1 ∧ (txD bs s).2.1 ≤ s.1 + 12 := by
  unfold txD
  dsimp only
  have h0 := pk_at bs 30 s
  have h1 := pk_at bs 2 (pk bs 30 s).2
  have h2 := pk_at bs 4 (pk bs 30 s).2
  have h3 := pk_at bs 4 (pk bs 4 (pk bs 30 s).2).2
  have h4 := pk_at bs 3 (pk bs 4 (pk bs 30 s).2).2
  have h5 := pk_lt bs (k := 4) (pk bs 4 (pk bs 30 s).2).2 (by decide)
  split
  · dsimp only; omega
  · split
    · dsimp only; omega
    · split
      · rw [byD_at]; omega
      · dsimp only; omega
def inV (n : Int) : V := ⟨2, n, ⟨⟨[]⟩⟩, 0⟩
def boV (n : Int) : V := ⟨1, n, ⟨⟨[]⟩⟩, 0⟩
def teV (l : List UInt8) : V := ⟨3, 0, ⟨l.toArray⟩, 0⟩
def taV (a : Nat) : V := ⟨4, 0, ⟨⟨[]⟩⟩, (a : Int)⟩
/-- key -/
def kyD (bs : List Int) (s : DS) : V × DS :=
  let a := pk bs 4 s
  if a.1 = 0 then (boV ((pk bs 2 a.2).1 : Int), (pk bs 2 a.2).2)
  else if a.1 = 1 then (teV (txD bs a.2).1, (txD bs a.2).2)
  else if a.1 = 2 then
    let b := pk bs 6 a.2
    if b.1 = 0 then (inV (whl bs b.2).1, (whl bs b.2).2) else (inV ((pk bs 4 b.2).1 : Int), (pk bs 4 b.2).2)
  else (inV ((pk bs 4 a.2).1 : Int), (pk bs 4 a.2).2)
/-- val -/
def vaD (bs : List Int) (n : Nat) (s : DS) : V × DS :=
  if n = 0 then kyD bs s
  else
    let a := pk bs 3 s
    if a.1 = 0 then kyD bs a.2 else (taV (pk bs n a.2).1, (pk bs n a.2).2)
theorem kyD_at (bs : List Int) (s : DS) : s.1 ≤ (kyD bs s).2.1 ∧ (kyD bs s).2.1 ≤ s.1 + 20 := by
  unfold kyD
  dsimp only
  have h0 := pk_at bs 4 s
  have h1 := pk_at bs 2 (pk bs 4 s).2
  have h2 := txD_at bs (pk bs 4 s).2
  have h3 := pk_at bs 6 (pk bs 4 s).2
  have h4 := whl_at bs (pk bs 6 (pk bs 4 s).2).2
  have h5 := pk_at bs 4 (pk bs 6 (pk bs 4 s).2).2
  have h6 := pk_at bs 4 (pk bs 4 s).2
  split
  · dsimp only; omega
  · split
    · dsimp only; omega
    · split
      · split <;> (dsimp only; omega)
      · dsimp only; omega
theorem vaD_at (bs : List Int) (n : Nat) (s : DS) : s.1 ≤ (vaD bs n s).2.1 ∧ (vaD bs n s).2.1 ≤ s.1 + 30 := by
  unfold vaD
  have h0 := pk_at bs 3 s
  have h1 := kyD_at bs s
  have h2 := kyD_at bs (pk bs 3 s).2
  have h3 := pk_at bs n (pk bs 3 s).2
  split
  · omega
  · dsimp only
    split
    · omega
    · dsimp only; omega
/-- A key as the drawer makes it: of what kind, and how far. -/
structure DK (v : V) : Prop where
  form : (∃ n, v = boV n ∧ (n = 0 ∨ n = 1)) ∨ (∃ n, v = inV n ∧ -9223372036854775808 ≤ n ∧ n ≤ 9223372036854775807) ∨ ∃ l : List UInt8, v = teV l ∧ l.length ≤ 500
theorem kyD_ok (bs : List Int) (s : DS) : DK (kyD bs s).1 := by
  refine ⟨?_⟩
  unfold kyD
  dsimp only
  have h1 := pk_lt bs (k := 2) (pk bs 4 s).2 (by decide)
  have h2 := txD_len bs (pk bs 4 s).2
  have h4 := whl_rng bs (pk bs 6 (pk bs 4 s).2).2
  have h5 := pk_lt bs (k := 4) (pk bs 6 (pk bs 4 s).2).2 (by decide)
  have h6 := pk_lt bs (k := 4) (pk bs 4 s).2 (by decide)
  split
  · exact .inl ⟨_, rfl, by omega⟩
  · split
    · exact .inr (.inr ⟨_, rfl, h2⟩)
    · split
      · split
        · exact .inr (.inl ⟨_, rfl, h4⟩)
        · exact .inr (.inl ⟨_, rfl, by omega, by omega⟩)
      · exact .inr (.inl ⟨_, rfl, by omega, by omega⟩)
theorem vaD_ok (bs : List Int) (n : Nat) (s : DS) : DK (vaD bs n s).1 ∨ ∃ a, (vaD bs n s).1 = taV a ∧ a < n := by
  unfold vaD
  split
  · exact .inl (kyD_ok bs s)
  · dsimp only
    split
    · exact .inl (kyD_ok bs _)
    · exact .inr ⟨_, rfl, pk_lt bs _ (by omega)⟩
/-! ### a graph -/
def isK (t : List Pr) (k : V) : Bool := t.any fun p => decide (p.key.k = k.k ∧ p.key.n = k.n ∧ p.key.s = k.s ∧ p.key.a = k.a)
theorem isK_iff {t : List Pr} {k : V} : isK t k = true ↔ k ∈ t.map Pr.key := by
  unfold isK
  rw [List.any_eq_true, List.mem_map]
  constructor
  · rintro ⟨p, hp, h⟩
    refine ⟨p, hp, ?_⟩
    obtain ⟨h1, h2, h3, h4⟩ := of_decide_eq_true h
    cases hk : p.key; cases k
    rw [hk] at h1 h2 h3 h4
    simp only at h1 h2 h3 h4
    rw [h1, h2, h3, h4]
  · rintro ⟨p, hp, rfl⟩
    exact ⟨p, hp, decide_eq_true ⟨rfl, rfl, rfl, rfl⟩⟩
def nxP (bs : List Int) (n m k : Nat) (g : List Pr × DS) : List Pr × DS :=
  let a := kyD bs g.2
  let b := vaD bs n a.2
  let key := if m = 100 then inV (k : Int) else a.1
  (if isK g.1 key = true then g.1 else g.1 ++ [⟨key, b.1⟩], b.2)
/-- The first k pairs of m that are drawn. -/
def paD (bs : List Int) (n m : Nat) : Nat → DS → List Pr × DS
  | 0, s => ([], s)
  | k + 1, s => nxP bs n m k (paD bs n m k s)
def mD (bs : List Int) (s : DS) : Nat × DS :=
  let a := pk bs 4 s
  let b := pk bs 60 a.2
  (if b.1 = 0 then 100 else a.1, b.2)
def tbD (bs : List Int) (n : Nat) (s : DS) : List Pr × DS := paD bs n (mD bs s).1 (mD bs s).1 (mD bs s).2
/-- The first i tables of n. -/
def tsD (bs : List Int) (n : Nat) : Nat → DS → List (List Pr) × DS
  | 0, s => ([], s)
  | i + 1, s => ((tsD bs n i s).1 ++ [(tbD bs n (tsD bs n i s).2).1], (tbD bs n (tsD bs n i s).2).2)
def nD (bs : List Int) (s : DS) : Nat × DS :=
  let a := pk bs 9 s
  let b := pk bs 25 a.2
  (if b.1 = 0 then 200 else a.1, b.2)
/-- graph -/
def grD (bs : List Int) (s : DS) : (V × List (List Pr)) × DS :=
  let n := nD bs s
  let t := tsD bs n.1 n.1 n.2
  let v := vaD bs n.1 t.2
  if n.1 = 0 then ((v.1, t.1), v.2)
  else
    let a := pk bs 8 v.2
    ((if a.1 = 0 then v.1 else taV 0, t.1), a.2)
theorem mD_le (bs : List Int) (s : DS) : (mD bs s).1 ≤ 100 := by
  unfold mD
  have := pk_lt bs (k := 4) s (by decide)
  dsimp only
  split <;> omega
theorem nD_le (bs : List Int) (s : DS) : (nD bs s).1 ≤ 200 := by
  unfold nD
  have := pk_lt bs (k := 9) s (by decide)
  dsimp only
  split <;> omega
theorem mD_at (bs : List Int) (s : DS) : s.1 ≤ (mD bs s).2.1 ∧ (mD bs s).2.1 ≤ s.1 + 4 := by
  unfold mD
  have h1 := pk_at bs 4 s
  have h2 := pk_at bs 60 (pk bs 4 s).2
  dsimp only; omega
theorem nD_at (bs : List Int) (s : DS) : s.1 ≤ (nD bs s).2.1 ∧ (nD bs s).2.1 ≤ s.1 + 4 := by
  unfold nD
  have h1 := pk_at bs 9 s
  have h2 := pk_at bs 25 (pk bs 9 s).2
  dsimp only; omega
/-- A pair as the drawer makes it. -/
def DP (n : Nat) (p : Pr) : Prop := DK p.key ∧ (DK p.val ∨ ∃ a, p.val = taV a ∧ a < n)
structure DT (n : Nat) (t : List Pr) : Prop where
  ok : ∀ p ∈ t, DP n p
  nod : (t.map Pr.key).Nodup
theorem nodup_snoc {α : Type} {l : List α} {a : α} (h : l.Nodup) (ha : a ∉ l) : (l ++ [a]).Nodup :=
  List.nodup_append.2 ⟨h, by simp, fun x hx y hy e => ha (by rw [List.mem_singleton] at hy; rw [← hy, ← e]; exact hx)⟩
theorem paD_ok (bs : List Int) (n m : Nat) (s : DS) : ∀ k, k ≤ 100 → DT n (paD bs n m k s).1 ∧ (paD bs n m k s).1.length ≤ k ∧ s.1 ≤ (paD bs n m k s).2.1 ∧ (paD bs n m k s).2.1 ≤ s.1 + 50 * k
  | 0, _ => ⟨⟨fun p hp => (by cases hp), List.nodup_nil⟩, Nat.le_refl _, Nat.le_refl _, Nat.le_refl _⟩
  | k + 1, hk => by
    obtain ⟨h1, h2, h3, h4⟩ := paD_ok bs n m s k (by omega)
    have a1 := kyD_at bs (paD bs n m k s).2
    have a2 := vaD_at bs n (kyD bs (paD bs n m k s).2).2
    have hkey : DK (if m = 100 then inV (k : Int) else (kyD bs (paD bs n m k s).2).1) := by
      split
      · exact ⟨.inr (.inl ⟨_, rfl, by omega, by omega⟩)⟩
      · exact kyD_ok bs _
    simp only [paD, nxP]
    generalize (if m = 100 then inV (k : Int) else (kyD bs (paD bs n m k s).2).1) = key at hkey ⊢
    refine ⟨?_, ?_, by omega, by omega⟩
    · by_cases hm : isK (paD bs n m k s).1 key = true
      · rw [if_pos hm]; exact h1
      · rw [if_neg hm]
        refine ⟨fun p hp => ?_, ?_⟩
        · rcases List.mem_append.1 hp with hp | hp
          · exact h1.ok p hp
          · rw [List.mem_singleton] at hp; subst hp
            exact ⟨hkey, vaD_ok bs n _⟩
        · rw [List.map_append]
          exact nodup_snoc h1.nod fun e => hm (isK_iff.2 e)
    · split
      · omega
      · simp; omega
theorem tbD_ok (bs : List Int) (n : Nat) (s : DS) : DT n (tbD bs n s).1 ∧ (tbD bs n s).1.length ≤ 100 ∧ s.1 ≤ (tbD bs n s).2.1 ∧ (tbD bs n s).2.1 ≤ s.1 + 6000 := by
  have h1 := mD_le bs s
  have h2 := mD_at bs s
  obtain ⟨g1, g2, g3, g4⟩ := paD_ok bs n (mD bs s).1 (mD bs s).2 (mD bs s).1 h1
  unfold tbD
  exact ⟨g1, by omega, by omega, by omega⟩
theorem tsD_ok (bs : List Int) (n : Nat) (s : DS) : ∀ i, (tsD bs n i s).1.length = i ∧ (∀ t ∈ (tsD bs n i s).1, DT n t ∧ t.length ≤ 100) ∧ s.1 ≤ (tsD bs n i s).2.1 ∧ (tsD bs n i s).2.1 ≤ s.1 + 6000 * i
  | 0 => ⟨rfl, fun t ht => (by cases ht), Nat.le_refl _, Nat.le_refl _⟩
  | i + 1 => by
    obtain ⟨h1, h2, h3, h4⟩ := tsD_ok bs n s i
    obtain ⟨g1, g2, g3, g4⟩ := tbD_ok bs n (tsD bs n i s).2
    simp only [tsD]
    generalize 6000 = c6 at *
    have e6 : c6 * (i + 1) = c6 * i + c6 := Nat.mul_succ _ _
    refine ⟨by simp [h1], fun t ht => ?_, by omega, by omega⟩
    rcases List.mem_append.1 ht with ht | ht
    · exact h2 t ht
    · rw [List.mem_singleton] at ht; subst ht; exact ⟨g1, g2⟩
theorem grD_ok (bs : List Int) (s : DS) : (grD bs s).1.2.length ≤ 200 ∧ (DK (grD bs s).1.1 ∨ ∃ a, (grD bs s).1.1 = taV a ∧ a < (grD bs s).1.2.length) ∧ (∀ t ∈ (grD bs s).1.2, DT (grD bs s).1.2.length t ∧ t.length ≤ 100) ∧ s.1 ≤ (grD bs s).2.1 ∧ (grD bs s).2.1 ≤ s.1 + 2000000 := by
  have h1 := nD_le bs s
  have h2 := nD_at bs s
  obtain ⟨g1, g2, g3, g4⟩ := tsD_ok bs (nD bs s).1 (nD bs s).2 (nD bs s).1
  have h3 := vaD_ok bs (nD bs s).1 (tsD bs (nD bs s).1 (nD bs s).1 (nD bs s).2).2
  have h4 := vaD_at bs (nD bs s).1 (tsD bs (nD bs s).1 (nD bs s).1 (nD bs s).2).2
  have h5 := pk_at bs 8 (vaD bs (nD bs s).1 (tsD bs (nD bs s).1 (nD bs s).1 (nD bs s).2).2).2
  unfold grD
  dsimp only
  by_cases h0 : (nD bs s).1 = 0
  · rw [if_pos h0]
    dsimp only
    rw [g1]
    exact ⟨h1, h3, g2, by omega, by omega⟩
  · rw [if_neg h0]
    dsimp only
    rw [g1]
    refine ⟨h1, ?_, g2, by omega, by omega⟩
    split
    · exact h3
    · exact .inr ⟨0, rfl, by omega⟩
end Go.Sy
/- The drawer's cursor: next and pick. No condition. -/
namespace Go.Sy
theorem r_addM {P : Program} {F : Fr} {tm : Tm} {L : Lm} {u : Hp} {Q : Exit → Act → World → Prop} {qq : Md} {l : List Oper} {o : Oper} {r : List Oper} {d : Nat} {t t' : TypeId} {x y : Operand} {p q : Nat} (hw : wantE l tm o = some true) (ho : o.dst = some d) (hn : Nat.blt d F.n.z = true)
    (hop : o.op = .binOp .add t x y t') (hx : ev tm x = some (.v (.int .i64 (p : Int)))) (hy : ev tm y = some (.v (.int .i64 (q : Int)))) (h63 : ((p + q : Nat) : Int) ≤ 9223372036854775807)
    (next : Run P Q F ((d, .v (.int .i64 ((p + q : Nat) : Int))) :: tm) L u qq l r) : Run P Q F tm L u qq l (o :: r) := by
  refine r_arith (c := ((p + q : Nat) : Int)) hw ho hn hop hx hy rfl (by omega) next
section
variable {P : Program} {F : Fr} {tm : Tm} {L : Lm} {u : Hp} {Q : Exit → Act → World → Prop}
theorem r_cutD {γ : Type} {c : Operand} {x y : Code} {p : Prop} [Decidable p] (hc : ev tm c = some (.v (.bool (decide p)))) (I : γ → Prop) (Tf : γ → Tm) (M : γ → Lm) (U : γ → Hp) (h1 : p → St F tm L u (fun a w => x.wp P (CutQ F I Tf M U Q) a w)) (h2 : ¬ p → St F tm L u (fun a w => y.wp P (CutQ F I Tf M U Q) a w))
    (h3 : ∀ g, I g → St F (Tf g) (M g) (U g) (Q .normal)) : St F tm L u (fun a w => (Code.cond c x y).wp P Q a w) := r_cut I Tf M U (r_cond_dec hc h1 h2) h3
end
theorem upd_upd (h : Hp) (b : Nat) (o o' : Obj) : upd (upd h b o) b o' = upd h b o' := by
  funext x; unfold upd; split <;> rfl
def Bc (x : Int) : List Value := [.int .u8 x]
theorem Bc_len (x : Int) : (Bc x).length = 1 := rfl
abbrev Bys (u : Hp) (A : Option Addr) (n : Nat) (xs : List Int) : Prop := Rd Bc 1 u A n xs
end Go.Sy
namespace Go.Proofs.YtkamfnmbidnhdaaDoor
open Go.Sy
set_option maxRecDepth 100000
set_option maxHeartbeats 4000000
set_option linter.unusedVariables false
set_option linter.unusedSimpArgs false
def pt0 (b : Nat) : Value := .pointer (some ⟨b, 0, none⟩)
theorem atc {u : Hp} {b : Nat} {cs : List Value} {t : TypeId} {fr : Nat × Nat} (h : u b = some (.cells cs.toArray t fr)) : At u b 0 cs := ⟨_, _, _, h, fun j v hj => by simpa using hj⟩
def cuCells (A : Option Addr) (n c : Nat) (s : DS) : List Value := [.slice A n c, .int .i64 s.1, .int .u64 s.2]
def cuO (A : Option Addr) (n c : Nat) (s : DS) : Obj := .cells (cuCells A n c s).toArray 122 (0, 0)
/-- A heap, and the cursor in a block beside it. -/
abbrev Wc (h : Hp) (pb : Nat) (A : Option Addr) (n c : Nat) (s : DS) : Hp := upd h pb (cuO A n c s)
structure Cx (h : Hp) (pb : Nat) (A : Option Addr) (n : Nat) (bs : List Int) : Prop where
  hp : h pb = none
  row : Bys h A n bs
  byt : ∀ x ∈ bs, 0 ≤ x ∧ x ≤ 255
  max : n ≤ 1048576
section
variable {h h' : Hp} {pb : Nat} {A : Option Addr} {n c : Nat} {bs : List Int}
theorem Cx.le (hX : Cx h pb A n bs) (hl : Le h h') (hp : h' pb = none) : Cx h' pb A n bs := ⟨hp, hX.row.le hl, hX.byt, hX.max⟩
theorem wc_le (hp : h pb = none) (s : DS) : Le h (Wc h pb A n c s) := (Le.refl h).upd hp
end
theorem low8 (v : BitVec IntKind.u64.bits) : 0 ≤ IntKind.i64.wrap (IntKind.u64.wrap (((v &&& BitVec.ofInt IntKind.u64.bits 255).toNat : Nat) : Int)) ∧ IntKind.i64.wrap (IntKind.u64.wrap (((v &&& BitVec.ofInt IntKind.u64.bits 255).toNat : Nat) : Int)) ≤ 255 := by
  have h : (v &&& BitVec.ofInt IntKind.u64.bits 255).toNat ≤ 255 := by
    rw [BitVec.toNat_and]
    exact Nat.and_le_right
  generalize (v &&& BitVec.ofInt IntKind.u64.bits 255).toNat = z at h
  have e : IntKind.u64.wrap (z : Int) = z := by
    simp [IntKind.wrap, IntKind.bits, IntKind.signed]
    omega
  rw [e, IntWalk.i64_in _ (by omega)]
  omega
theorem nx_rng {bs : List Int} (hb : ∀ x ∈ bs, 0 ≤ x ∧ x ≤ 255) (s : DS) : 0 ≤ (nx bs s).1 ∧ (nx bs s).1 ≤ 255 := by
  unfold nx
  split
  · rename_i h
    dsimp only
    rw [List.getD_eq_getElem?_getD, List.getElem?_eq_getElem h]
    exact hb _ (List.getElem_mem h)
  · exact low8 _
theorem nextF (h : Hp) (pb : Nat) (A : Option Addr) (n c : Nat) (s : DS) (bs : List Int) (hX : Cx h pb A n bs) (hi : s.1 ≤ 1000000000) :
    TriS Tryd.prog 133 [.v (pt0 pb)] [] (Wc h pb A n c s) (fun _ : Unit => .v (.int .i64 (nx bs s).1)) (fun _ => []) (fun _ u' => u' = Wc h pb A n c (nx bs s).2) := by
  obtain ⟨i, st⟩ := s
  dsimp only at hi
  have hcell : (Wc h pb A n c (i, st)) pb = some (.cells (cuCells A n c (i, st)).toArray 122 (0, 0)) := upd_here ..
  have hat := atc hcell
  obtain rfl := hX.row.1
  refine enterS Tryd.func133 rfl (n := 68) rfl rfl (fun k N => ?_)
  by_cases hlt : i < bs.length
  · obtain ⟨b, off, x, rfl, hd, hix, hm, hatb⟩ := hX.row.elem Bc_len (i := i) hlt
    have hx := hX.byt x hm
    have hatb2 := hatb.le (wc_le (A := some ⟨b, off, none⟩) (n := bs.length) (c := c) hX.hp (i, st))
    have e : nx bs (i, st) = (x, (i + 1, sd1 st x)) := by
      unfold nx
      rw [if_pos hlt]
      simp only [List.getD_eq_getElem?_getD, hix, Option.getD_some]
    rw [e]
    repeat' (first | (refine r_pure hT rfl rfl rfl rfl ?_) | (refine r_new hT rfl rfl rfl rfl ?_) | (refine r_write hT rfl rfl rfl ?_) | (refine r_nil ?_) | (refine q_nil ?_) | (refine r_load hT hat rfl rfl rfl rfl rfl rfl rfl rfl rfl rfl rfl ?_) | (refine r_indexN hT rfl rfl rfl rfl rfl rfl rfl rfl rfl (by omega) ?_) | (refine r_load hT hatb2 rfl rfl rfl rfl rfl (Nat.add_zero _).symm rfl rfl rfl rfl rfl ?_) | (refine r_addM (q := 1) rfl rfl rfl rfl rfl rfl (by omega) ?_) | ((refine r_store hT rfl rfl rfl rfl rfl rfl rfl rfl rfl rfl hcell (Nat.le_succ 2) ?_ ; have hc2 : upd (Wc h pb (some ⟨b, off, none⟩) bs.length c (i, st)) pb (.cells (cuCells (some ⟨b, off, none⟩) bs.length c (i + 1, st)).toArray 122 (0, 0)) pb = _ := upd_here .. ; have hat2 := atc hc2)) | (refine r_arith rfl rfl rfl rfl rfl rfl rfl (by omega) ?_) | (with_reducible refine r_seq ?_) | (with_reducible refine x_then ?_) | (with_reducible refine r_region ?_) | (refine r_draw hM (by kernel_rfl) ?_) | (with_reducible refine r_skip ?_) | (with_reducible refine r_ret ?_) | (with_reducible refine x_then_ret ?_) | (with_reducible refine r_block ?_) | (with_reducible refine x_block ?_) | (with_reducible refine x_block_ret ?_) | (with_reducible refine r_exit ?_) | (with_reducible refine x_then_exit ?_) | (with_reducible refine x_block_here ?_) | (refine x_block_past rfl ?_) | (refine c_yes rfl (by omega) ?_) | (refine c_no rfl (by omega) ?_) | (refine c_no rfl (fun h => h rfl) ?_) | (refine r_cond_false rfl ?_) | (refine r_cond_true rfl ?_) | (refine r_cond_dec rfl (fun _ => ?_) (fun _ => ?_)) | (refine r_cond_true rfl ?_) | (refine r_cond_false rfl ?_) | (refine c_not rfl (fun _ => ?_) (fun _ => ?_)) | (refine r_off rfl rfl rfl ?_) | (refine q_guard rfl rfl (fun _ => ?_) (fun _ => ?_)) | (refine q_guardn rfl rfl (fun _ => ?_) (fun _ => ?_)))
    repeat' (first | (refine r_pure hT rfl rfl rfl rfl ?_) | (refine r_new hT rfl rfl rfl rfl ?_) | (refine r_write hT rfl rfl rfl ?_) | (refine r_nil ?_) | (refine q_nil ?_) | (refine r_load hT hat2 rfl rfl rfl rfl rfl rfl rfl rfl rfl rfl rfl ?_) | (refine r_conv hT rfl rfl rfl rfl rfl rfl rfl rfl (IntWalk.i64_in _ (by omega)) ?_) | (refine r_convw hT rfl rfl rfl rfl rfl rfl rfl rfl ?_) | (refine r_arithw rfl rfl rfl rfl rfl rfl rfl ?_) | (refine r_store hT rfl rfl rfl rfl rfl rfl rfl rfl rfl rfl hc2 (Nat.le_refl 3) ?_) | (refine r_arith rfl rfl rfl rfl rfl rfl rfl (by omega) ?_) | (with_reducible refine r_seq ?_) | (with_reducible refine x_then ?_) | (with_reducible refine r_region ?_) | (refine r_draw hM (by kernel_rfl) ?_) | (with_reducible refine r_skip ?_) | (with_reducible refine r_ret ?_) | (with_reducible refine x_then_ret ?_) | (with_reducible refine r_block ?_) | (with_reducible refine x_block ?_) | (with_reducible refine x_block_ret ?_) | (with_reducible refine r_exit ?_) | (with_reducible refine x_then_exit ?_) | (with_reducible refine x_block_here ?_) | (refine x_block_past rfl ?_) | (refine c_yes rfl (by omega) ?_) | (refine c_no rfl (by omega) ?_) | (refine c_no rfl (fun h => h rfl) ?_) | (refine r_cond_false rfl ?_) | (refine r_cond_true rfl ?_) | (refine r_cond_dec rfl (fun _ => ?_) (fun _ => ?_)) | (refine r_cond_true rfl ?_) | (refine r_cond_false rfl ?_) | (refine c_not rfl (fun _ => ?_) (fun _ => ?_)) | (refine r_off rfl rfl rfl ?_) | (refine q_guard rfl rfl (fun _ => ?_) (fun _ => ?_)) | (refine q_guardn rfl rfl (fun _ => ?_) (fun _ => ?_)))
    exact r_fin hT rfl () rfl rfl rfl trivial rfl ((upd_upd ..).trans (upd_upd ..))
  · have e : nx bs (i, st) = (lo8 (IntKind.u64.wrap (IntKind.u64.wrap (st * 6364136223846793005) + 1442695040888963407)), (i + 1, IntKind.u64.wrap (IntKind.u64.wrap (st * 6364136223846793005) + 1442695040888963407))) := by unfold nx; rw [if_neg hlt]; rfl
    rw [e]
    repeat' (first | (refine r_pure hT rfl rfl rfl rfl ?_) | (refine r_new hT rfl rfl rfl rfl ?_) | (refine r_write hT rfl rfl rfl ?_) | (refine r_nil ?_) | (refine q_nil ?_) | (refine r_load hT hat rfl rfl rfl rfl rfl rfl rfl rfl rfl rfl rfl ?_) | (refine r_arithw (kk := .u64) rfl rfl rfl rfl rfl rfl rfl ?_) | ((refine r_store hT rfl rfl rfl rfl rfl rfl rfl rfl rfl rfl hcell (Nat.le_refl 3) ?_ ; have hc2 : upd (Wc h pb A bs.length c (i, st)) pb (.cells (cuCells A bs.length c (i, IntKind.u64.wrap (IntKind.u64.wrap (st * 6364136223846793005) + 1442695040888963407))).toArray 122 (0, 0)) pb = _ := upd_here .. ; have hat2 := atc hc2)) | (refine r_arith rfl rfl rfl rfl rfl rfl rfl (by omega) ?_) | (with_reducible refine r_seq ?_) | (with_reducible refine x_then ?_) | (with_reducible refine r_region ?_) | (refine r_draw hM (by kernel_rfl) ?_) | (with_reducible refine r_skip ?_) | (with_reducible refine r_ret ?_) | (with_reducible refine x_then_ret ?_) | (with_reducible refine r_block ?_) | (with_reducible refine x_block ?_) | (with_reducible refine x_block_ret ?_) | (with_reducible refine r_exit ?_) | (with_reducible refine x_then_exit ?_) | (with_reducible refine x_block_here ?_) | (refine x_block_past rfl ?_) | (refine c_yes rfl (by omega) ?_) | (refine c_no rfl (by omega) ?_) | (refine c_no rfl (fun h => h rfl) ?_) | (refine r_cond_false rfl ?_) | (refine r_cond_true rfl ?_) | (refine r_cond_dec rfl (fun _ => ?_) (fun _ => ?_)) | (refine r_cond_true rfl ?_) | (refine r_cond_false rfl ?_) | (refine c_not rfl (fun _ => ?_) (fun _ => ?_)) | (refine r_off rfl rfl rfl ?_) | (refine q_guard rfl rfl (fun _ => ?_) (fun _ => ?_)) | (refine q_guardn rfl rfl (fun _ => ?_) (fun _ => ?_)))
    generalize IntKind.u64.wrap (IntKind.u64.wrap (st * 6364136223846793005) + 1442695040888963407) = s2 at *
    repeat' (first | (refine r_pure hT rfl rfl rfl rfl ?_) | (refine r_new hT rfl rfl rfl rfl ?_) | (refine r_write hT rfl rfl rfl ?_) | (refine r_nil ?_) | (refine q_nil ?_) | (refine r_load hT hat2 rfl rfl rfl rfl rfl rfl rfl rfl rfl rfl rfl ?_) | (refine r_addM (q := 1) rfl rfl rfl rfl rfl rfl (by omega) ?_) | ((refine r_store hT rfl rfl rfl rfl rfl rfl rfl rfl rfl rfl hc2 (Nat.le_succ 2) ?_ ; skip)) | (refine r_arith rfl rfl rfl rfl rfl rfl rfl (by omega) ?_) | (with_reducible refine r_seq ?_) | (with_reducible refine x_then ?_) | (with_reducible refine r_region ?_) | (refine r_draw hM (by kernel_rfl) ?_) | (with_reducible refine r_skip ?_) | (with_reducible refine r_ret ?_) | (with_reducible refine x_then_ret ?_) | (with_reducible refine r_block ?_) | (with_reducible refine x_block ?_) | (with_reducible refine x_block_ret ?_) | (with_reducible refine r_exit ?_) | (with_reducible refine x_then_exit ?_) | (with_reducible refine x_block_here ?_) | (refine x_block_past rfl ?_) | (refine c_yes rfl (by omega) ?_) | (refine c_no rfl (by omega) ?_) | (refine c_no rfl (fun h => h rfl) ?_) | (refine r_cond_false rfl ?_) | (refine r_cond_true rfl ?_) | (refine r_cond_dec rfl (fun _ => ?_) (fun _ => ?_)) | (refine r_cond_true rfl ?_) | (refine r_cond_false rfl ?_) | (refine c_not rfl (fun _ => ?_) (fun _ => ?_)) | (refine r_off rfl rfl rfl ?_) | (refine q_guard rfl rfl (fun _ => ?_) (fun _ => ?_)) | (refine q_guardn rfl rfl (fun _ => ?_) (fun _ => ?_)))
    have hat3 : At (upd (upd (Wc h pb A bs.length c (i, st)) pb (.cells (cuCells A bs.length c (i, s2)).toArray 122 (0, 0))) pb (.cells (cuCells A bs.length c (i + 1, s2)).toArray 122 (0, 0))) pb 0 (cuCells A bs.length c (i + 1, s2)) := atc (upd_here ..)
    repeat' (first | (refine r_pure hT rfl rfl rfl rfl ?_) | (refine r_new hT rfl rfl rfl rfl ?_) | (refine r_write hT rfl rfl rfl ?_) | (refine r_nil ?_) | (refine q_nil ?_) | (refine r_load hT hat3 rfl rfl rfl rfl rfl rfl rfl rfl rfl rfl rfl ?_) | (refine r_shift rfl rfl rfl rfl rfl rfl (.inr rfl) rfl ?_) | (refine r_bits rfl rfl rfl rfl rfl rfl rfl (.inl rfl) ?_) | (refine r_convw hT rfl rfl rfl rfl rfl rfl rfl rfl ?_) | (refine r_arith rfl rfl rfl rfl rfl rfl rfl (by omega) ?_) | (with_reducible refine r_seq ?_) | (with_reducible refine x_then ?_) | (with_reducible refine r_region ?_) | (refine r_draw hM (by kernel_rfl) ?_) | (with_reducible refine r_skip ?_) | (with_reducible refine r_ret ?_) | (with_reducible refine x_then_ret ?_) | (with_reducible refine r_block ?_) | (with_reducible refine x_block ?_) | (with_reducible refine x_block_ret ?_) | (with_reducible refine r_exit ?_) | (with_reducible refine x_then_exit ?_) | (with_reducible refine x_block_here ?_) | (refine x_block_past rfl ?_) | (refine c_yes rfl (by omega) ?_) | (refine c_no rfl (by omega) ?_) | (refine c_no rfl (fun h => h rfl) ?_) | (refine r_cond_false rfl ?_) | (refine r_cond_true rfl ?_) | (refine r_cond_dec rfl (fun _ => ?_) (fun _ => ?_)) | (refine r_cond_true rfl ?_) | (refine r_cond_false rfl ?_) | (refine c_not rfl (fun _ => ?_) (fun _ => ?_)) | (refine r_off rfl rfl rfl ?_) | (refine q_guard rfl rfl (fun _ => ?_) (fun _ => ?_)) | (refine q_guardn rfl rfl (fun _ => ?_) (fun _ => ?_)))
    exact r_fin hT rfl () rfl rfl rfl trivial rfl ((upd_upd ..).trans (upd_upd ..))
theorem pickF (h : Hp) (pb : Nat) (A : Option Addr) (n c : Nat) (s : DS) (bs : List Int) (k0 : Nat) (hX : Cx h pb A n bs) (hi : s.1 ≤ 900000000) (hk : k0 ≤ 100000) :
    TriS Tryd.prog 97 [.v (pt0 pb), .v (.int .i64 (k0 : Int))] [] (Wc h pb A n c s) (fun _ : Unit => .v (.int .i64 ((pk bs k0 s).1 : Int))) (fun _ => []) (fun _ u' => u' = Wc h pb A n c (pk bs k0 s).2) := by
  refine enterS Tryd.func97 rfl (n := 20) rfl rfl (fun k N => ?_)
  have h1 := nx_at bs s
  have r1 := nx_rng hX.byt s
  have r2 := nx_rng hX.byt (nx bs s).2
  by_cases hk1 : k0 ≤ 1
  · have e : pk bs k0 s = (0, s) := by unfold pk; rw [if_pos hk1]
    rw [e]
    repeat' (first | (refine r_pure hT rfl rfl rfl rfl ?_) | (refine r_new hT rfl rfl rfl rfl ?_) | (refine r_write hT rfl rfl rfl ?_) | (refine r_nil ?_) | (refine q_nil ?_) | (refine r_arith rfl rfl rfl rfl rfl rfl rfl (by omega) ?_) | (with_reducible refine r_seq ?_) | (with_reducible refine x_then ?_) | (with_reducible refine r_region ?_) | (refine r_draw hM (by kernel_rfl) ?_) | (with_reducible refine r_skip ?_) | (with_reducible refine r_ret ?_) | (with_reducible refine x_then_ret ?_) | (with_reducible refine r_block ?_) | (with_reducible refine x_block ?_) | (with_reducible refine x_block_ret ?_) | (with_reducible refine r_exit ?_) | (with_reducible refine x_then_exit ?_) | (with_reducible refine x_block_here ?_) | (refine x_block_past rfl ?_) | (refine c_yes rfl (by omega) ?_) | (refine c_no rfl (by omega) ?_) | (refine c_no rfl (fun h => h rfl) ?_) | (refine r_cond_false rfl ?_) | (refine r_cond_true rfl ?_) | (refine r_cond_dec rfl (fun _ => ?_) (fun _ => ?_)) | (refine r_cond_true rfl ?_) | (refine r_cond_false rfl ?_) | (refine c_not rfl (fun _ => ?_) (fun _ => ?_)) | (refine r_off rfl rfl rfl ?_) | (refine q_guard rfl rfl (fun _ => ?_) (fun _ => ?_)) | (refine q_guardn rfl rfl (fun _ => ?_) (fun _ => ?_)))
    exact r_fin hT rfl () rfl rfl rfl trivial rfl rfl
  by_cases hk2 : k0 ≤ 200
  · have e : pk bs k0 s = ((nx bs s).1.toNat % k0, (nx bs s).2) := by unfold pk; rw [if_neg hk1, if_pos hk2]
    rw [e]
    have hcall := nextF h pb A n c s bs hX (by omega)
    generalize nx bs s = y at *
    have e2 : ((y.1.toNat % k0 : Nat) : Int) = y.1.tmod k0 := by
      rw [Int.tmod_eq_emod_of_nonneg r1.1]; push_cast; rw [Int.toNat_of_nonneg r1.1]
    repeat' (first | (refine r_pure hT rfl rfl rfl rfl ?_) | (refine r_new hT rfl rfl rfl rfl ?_) | (refine r_write hT rfl rfl rfl ?_) | (refine r_nil ?_) | (refine q_nil ?_) | ((refine r_call hcall rfl rfl rfl rfl rfl (hC _ rfl) rfl rfl (fun y0 u1 hy => ?_) ; subst hy)) | (refine r_rem rfl rfl rfl rfl rfl rfl (by omega) ?_) | (refine r_arith rfl rfl rfl rfl rfl rfl rfl (by omega) ?_) | (with_reducible refine r_seq ?_) | (with_reducible refine x_then ?_) | (with_reducible refine r_region ?_) | (refine r_draw hM (by kernel_rfl) ?_) | (with_reducible refine r_skip ?_) | (with_reducible refine r_ret ?_) | (with_reducible refine x_then_ret ?_) | (with_reducible refine r_block ?_) | (with_reducible refine x_block ?_) | (with_reducible refine x_block_ret ?_) | (with_reducible refine r_exit ?_) | (with_reducible refine x_then_exit ?_) | (with_reducible refine x_block_here ?_) | (refine x_block_past rfl ?_) | (refine c_yes rfl (by omega) ?_) | (refine c_no rfl (by omega) ?_) | (refine c_no rfl (fun h => h rfl) ?_) | (refine r_cond_false rfl ?_) | (refine r_cond_true rfl ?_) | (refine r_cond_dec rfl (fun _ => ?_) (fun _ => ?_)) | (refine r_cond_true rfl ?_) | (refine r_cond_false rfl ?_) | (refine c_not rfl (fun _ => ?_) (fun _ => ?_)) | (refine r_off rfl rfl rfl ?_) | (refine q_guard rfl rfl (fun _ => ?_) (fun _ => ?_)) | (refine q_guardn rfl rfl (fun _ => ?_) (fun _ => ?_)))
    exact r_fin hT rfl () rfl rfl (congrArg (fun z : Int => some (Value.int .i64 z)) e2) trivial rfl rfl
  · have e : pk bs k0 s = (((nx bs s).1.toNat * 256 + (nx bs (nx bs s).2).1.toNat) % k0, (nx bs (nx bs s).2).2) := by unfold pk; rw [if_neg hk1, if_neg hk2]
    rw [e]
    have hcall := nextF h pb A n c s bs hX (by omega)
    have hcall2 := nextF h pb A n c (nx bs s).2 bs hX (by omega)
    generalize nx bs s = y at *
    generalize nx bs y.2 = z at *
    have e2 : (((y.1.toNat * 256 + z.1.toNat) % k0 : Nat) : Int) = (y.1 * 256 + z.1).tmod k0 := by
      rw [Int.tmod_eq_emod_of_nonneg (by omega)]; push_cast; rw [Int.toNat_of_nonneg r1.1, Int.toNat_of_nonneg r2.1]
    repeat' (first | (refine r_pure hT rfl rfl rfl rfl ?_) | (refine r_new hT rfl rfl rfl rfl ?_) | (refine r_write hT rfl rfl rfl ?_) | (refine r_nil ?_) | (refine q_nil ?_) | ((refine r_call hcall rfl rfl rfl rfl rfl (hC _ rfl) rfl rfl (fun y0 u1 hy => ?_) ; subst hy)) | ((refine r_call hcall2 rfl rfl rfl rfl rfl (hC _ rfl) rfl rfl (fun y0 u1 hy => ?_) ; subst hy)) | (refine r_rem rfl rfl rfl rfl rfl rfl (by omega) ?_) | (refine r_arith rfl rfl rfl rfl rfl rfl rfl (by omega) ?_) | (with_reducible refine r_seq ?_) | (with_reducible refine x_then ?_) | (with_reducible refine r_region ?_) | (refine r_draw hM (by kernel_rfl) ?_) | (with_reducible refine r_skip ?_) | (with_reducible refine r_ret ?_) | (with_reducible refine x_then_ret ?_) | (with_reducible refine r_block ?_) | (with_reducible refine x_block ?_) | (with_reducible refine x_block_ret ?_) | (with_reducible refine r_exit ?_) | (with_reducible refine x_then_exit ?_) | (with_reducible refine x_block_here ?_) | (refine x_block_past rfl ?_) | (refine c_yes rfl (by omega) ?_) | (refine c_no rfl (by omega) ?_) | (refine c_no rfl (fun h => h rfl) ?_) | (refine r_cond_false rfl ?_) | (refine r_cond_true rfl ?_) | (refine r_cond_dec rfl (fun _ => ?_) (fun _ => ?_)) | (refine r_cond_true rfl ?_) | (refine r_cond_false rfl ?_) | (refine c_not rfl (fun _ => ?_) (fun _ => ?_)) | (refine r_off rfl rfl rfl ?_) | (refine q_guard rfl rfl (fun _ => ?_) (fun _ => ?_)) | (refine q_guardn rfl rfl (fun _ => ?_) (fun _ => ?_)))
    exact r_fin hT rfl () rfl rfl (congrArg (fun z : Int => some (Value.int .i64 z)) e2) trivial rfl rfl
end Go.Proofs.YtkamfnmbidnhdaaDoor
/- The walk by a symbolic frame: a text cut. Over any program; no condition. -/
namespace Go.Sy
set_option linter.unusedSimpArgs false
set_option linter.unusedVariables false
section
variable {P : Program} {T : List (Nat × TI)} {F : Fr} {tm : Tm} {L : Lm} {u : Hp} {Q : Exit → Act → World → Prop}
/-- An end given or not. -/
def bndE (tm : Tm) (x : Option Operand) (d : Nat) (i : Nat) : Prop := match x with
  | none => i = d
  | some y => ∃ kk, ev tm y = some (.v (.int kk (i : Int)))
/-- x[lo:hi], x a text -/
theorem r_slstr (hT : TOK P T) {q : Md} {l : List Oper} {o : Oper} {r : List Oper} {d : Nat} {t : TypeId} {ti : TI} {x : Operand} {y z : Option Operand} {s : ByteArray} {lo hi : Nat}
    (hw : wantE l tm o = some true) (ho : o.dst = some d) (hn : Nat.blt d F.n.z = true) (hop : o.op = .slice t x y z none) (ht : kget T t = some ti) (hk : ti.kind = .str)
    (hx : ev tm x = some (.v (.string s))) (hy : bndE tm y 0 lo) (hz : bndE tm z s.size hi) (hl : lo ≤ hi) (hh : hi ≤ s.size)
    (next : Run P Q F ((d, .v (.string (s.extract lo hi))) :: tm) L u q l r) : Run P Q F tm L u q l (o :: r) := by
  refine op_pure hw ho hn (fun β a w ht' hd => ⟨?_, rfl⟩) next
  have hu2 : P.underlying t = some .string := by
    obtain ⟨d, hd, h⟩ := chk_desc (hT t ti ht)
    rw [hk] at h
    cases d <;> simp [kfits] at h
    exact hd
  have hb : (Instr.sliceBounds false s.size s.size (y.map a.eval) (z.map a.eval) none).run P w = .ok (lo, hi, s.size) w := by
    cases y with
    | none =>
      have e1 : lo = 0 := hy
      subst e1
      cases z with
      | none =>
        have e2 : hi = s.size := hz
        subst e2
        simp [Instr.sliceBounds]
      | some z =>
        obtain ⟨kk, e2⟩ := hz
        have := ev_ok ht' e2
        simp only [SV.den] at this
        simp [Instr.sliceBounds, Instr.sliceBound, this, asIntOf, hh]
    | some y =>
      obtain ⟨kk, e1⟩ := hy
      have h1 := ev_ok ht' e1
      simp only [SV.den] at h1
      cases z with
      | none =>
        have e2 : hi = s.size := hz
        subst e2
        simp [Instr.sliceBounds, Instr.sliceBound, h1, asIntOf, hl]
      | some z =>
        obtain ⟨kk, e2⟩ := hz
        have := ev_ok ht' e2
        simp only [SV.den] at this
        simp [Instr.sliceBounds, Instr.sliceBound, h1, this, asIntOf, hh, hl]
  have h1 : a.eval x = .string s := by rw [ev_ok ht' hx, SV.den]
  have hrun : (Instr.sliceAt t (.string s) (y.map a.eval) (z.map a.eval) none).run P w = .ok (.string (s.extract lo hi)) w := by
    unfold Instr.sliceAt Instr.slice
    simp only [Sem.run_bind, run_und hu2, Result.andThen_ok, hb, Sem.run_pure, Option.isSome_none, Bool.false_eq_true, if_false]
  simp [execOp, hop, h1, hrun, SV.den]
end
theorem ext_take (l : List UInt8) (n : Nat) : (⟨l.toArray⟩ : ByteArray).extract 0 n = ⟨(l.take n).toArray⟩ := by
  apply ByteArray.ext
  rw [ByteArray.data_extract]
  simp
end Go.Sy
/- Bytes as cells; decimal digits from behind. Plain. -/
namespace Go.Sy
def bc1 (b : UInt8) : List Value := [.int .u8 (b.toNat : Int)]
theorem bc1_map (l : List UInt8) : l.flatMap bc1 = l.map fun b : UInt8 => Value.int .u8 (b.toNat : Int) := by
  induction l with
  | nil => rfl
  | cons b r ih => rw [List.flatMap_cons, ih]; rfl
theorem bc1_bytes (s : ByteArray) : s.data.toList.flatMap bc1 = byteCells s := bc1_map _
theorem bc1_of (l : List UInt8) : byteCells ⟨l.toArray⟩ = l.flatMap bc1 := by rw [← bc1_bytes]
theorem bytes_app (a b : List UInt8) : (⟨a.toArray⟩ : ByteArray) ++ ⟨b.toArray⟩ = ⟨(a ++ b).toArray⟩ := by
  apply ByteArray.ext
  simp
def rdg (k : Nat) : List UInt8 := if h : k = 0 then [] else UInt8.ofNat (48 + k % 10) :: rdg (k / 10)
  termination_by k
  decreasing_by omega
theorem rdg_zero : rdg 0 = [] := by rw [rdg, dif_pos rfl]
theorem rdg_step {k : Nat} (h : k ≠ 0) : rdg k = UInt8.ofNat (48 + k % 10) :: rdg (k / 10) := by rw [rdg, dif_neg h]
theorem rdg_dec : ∀ k, k ≠ 0 → (rdg k).reverse = Lib.decDigits k := fun k => by
  induction k using Nat.strongRecOn with
  | _ k ih =>
    intro h
    rw [rdg_step h, Lib.decDigits]
    by_cases h10 : k < 10
    · rw [dif_pos h10, Nat.div_eq_of_lt h10, rdg_zero, Nat.mod_eq_of_lt h10]; rfl
    · rw [dif_neg h10, List.reverse_cons, ih (k / 10) (by omega) (by omega)]
theorem rdg_len : ∀ (m k : Nat), k < 10 ^ m → (rdg k).length ≤ m
  | 0, k, h => by
    have : k = 0 := by simpa using h
    rw [this, rdg_zero]; simp
  | m + 1, k, h => by
    by_cases h0 : k = 0
    · rw [h0, rdg_zero]; simp
    · rw [rdg_step h0, List.length_cons]
      have := rdg_len m (k / 10) (by rw [Nat.pow_succ] at h; omega)
      omega
theorem u8_to (k : Nat) (h : k < 256) : ((UInt8.ofNat k).toNat : Int) = (k : Int) := by
  rw [UInt8.toNat_ofNat', Nat.mod_eq_of_lt h]
theorem itoa_rdg (n : Int) (h : n ≠ 0) : Lib.itoa n = (if n < 0 then [45] else []) ++ (rdg n.natAbs).reverse := by
  rw [rdg_dec _ (by omega)]
  unfold Lib.itoa
  by_cases hn : n < 0
  · rw [if_pos hn, if_pos hn]; rfl
  · rw [if_neg hn, if_neg hn, show n.toNat = n.natAbs by omega]; rfl
theorem itoa_zero : Lib.itoa 0 = [48] := by
  unfold Lib.itoa
  rw [if_neg (by omega), Lib.decDigits]; rfl
theorem sl_blk {u : Hp} {b m sz : Nat} {vs : List Value} {t : TypeId} (h : u b = some (.cells vs.toArray t (0, 0))) (hl : vs.length = m * sz) : Sl u (some ⟨b, 0, none⟩) m sz vs :=
  ⟨hl, fun h => (by cases h), fun a ha _ => (by have e := Option.some.inj ha; subst e; exact ⟨rfl, _, _, _, h, fun j v hj => by simpa using hj⟩)⟩
theorem le_frsh {h u : Hp} {b : Nat} {o : Obj} (hl : Le h u) (hb : u b = none) : Le h (upd u b o) := fun x o' hx => by
  rw [upd_ne (fun e => by subst e; have := hl _ _ hx; rw [hb] at this; cases this)]; exact hl x o' hx
theorem none_of {h hB : Hp} (hl : Le h hB) {b : Nat} (hb : hB b = none) : h b = none := by
  cases hu : h b with
  | none => rfl
  | some o => rw [hl b o hu] at hb; cases hb
theorem own_fr {u : Hp} {A : Option Addr} {n c e sz : Nat} {cs : List Value} {b : Nat} {o : Obj} (h : Own u A n c e sz cs) (hb : u b = none) : Own (upd u b o) A n c e sz cs := h.le fun x ox hx ho => by
  rw [upd_ne (fun e => by rw [e, hb] at ho; cases ho)]; exact ho
end Go.Sy
