/- impl.sortBy at int, with the closure that asks. -/
import Derived.Test.YtkamfnmbidnhdaaDoorSyDF
set_option linter.unusedVariables false
set_option linter.unusedSimpArgs false
set_option linter.unusedSectionVars false
namespace Go.Sy
section
variable {P : Program} {F : Fr} {tm : Tm} {L : Lm} {u : Hp} {Q : Exit → Act → World → Prop}
theorem q_gyes {q : Md} {l r : List Oper} {o : Oper} {d : Nat} {x y : Int} (hg : guardE l o = some d) (hd : kget tm d = some (.v (.bool (decide (x < y))))) (hp : x < y) (h2 : Run P Q F ((d, .v (.bool true)) :: tm) L u q l (o :: r)) :
    Run P Q F tm L u q l (o :: r) := q_guard hg hd (fun _ => h2) (fun h => absurd hp h)
theorem q_gno {q : Md} {l r : List Oper} {o : Oper} {d : Nat} {x y : Int} (hg : guardE l o = some d) (hd : kget tm d = some (.v (.bool (decide (x < y))))) (hp : ¬ x < y) (h2 : Run P Q F ((d, .v (.bool false)) :: tm) L u q l (o :: r)) :
    Run P Q F tm L u q l (o :: r) := q_guard hg hd (fun h => absurd h hp) (fun _ => h2)
theorem r_addN {qq : Md} {l : List Oper} {o : Oper} {r : List Oper} {d : Nat} {t t' : TypeId} {x y : Operand} {p q : Nat} (hw : wantE l tm o = some true) (ho : o.dst = some d) (hn : Nat.blt d F.n.z = true)
    (hop : o.op = .binOp .add t x y t') (hx : ev tm x = some (.v (.int .i64 (p : Int)))) (hy : ev tm y = some (.v (.int .i64 (q : Int)))) (hr : p + q ≤ 9223372036854775807)
    (next : Run P Q F ((d, .v (.int .i64 ((p + q : Nat) : Int))) :: tm) L u qq l r) : Run P Q F tm L u qq l (o :: r) :=
  r_arith (c := ((p + q : Nat) : Int)) hw ho hn hop hx hy rfl (by omega) next
end
end Go.Sy
namespace Go.Proofs.YtkamfnmbidnhdaaDoor
open Go.Sy
set_option maxRecDepth 100000
set_option maxHeartbeats 4000000
set_option linter.unusedVariables false
set_option linter.unusedSimpArgs false
section
variable {h0 u u' : Hp} {pb pa : Nat} {E : Value} {A : Option Addr} {c : Nat} {ts : List (List Int)} {Aq : Option Addr} {cq : Nat} {q : List (Int × Int)}
theorem QSt.live (h : QSt h0 u pb pa E A c ts Aq cq q) {b : Nat} (hb : QS pb Aq b) : ∃ o, u b = some o := by
  rcases hb with rfl | hb
  · exact ⟨_, h.cell⟩
  · exact Option.ne_none_iff_exists'.1 (h.own.live hb)
theorem QSt.keep (h : QSt h0 u pb pa E A c ts Aq cq q) (hb : Le h0 u') (hk : ∀ b o, QS pb Aq b → u b = some o → u' b = some o) : QSt h0 u' pb pa E A c ts Aq cq q :=
  ⟨hk _ _ (.inl rfl) h.cell, h.own.le fun b o hb ho => hk b o (.inr hb) ho, hb, h.hp, h.ho, h.ap, h.ahead, h.mat, h.err⟩
/-- Another base. -/
theorem QSt.up {hB : Hp} (h : QSt h0 u pb pa E A c ts Aq cq q) (h1 : Le h0 hB) (h2 : Le hB u) (h3 : ∀ b, QS pb Aq b → hB b = none) : QSt hB u pb pa E A c ts Aq cq q :=
  ⟨h.cell, h.own, h2, h3 _ (.inl rfl), fun b hb => h3 b (.inr hb), h.ap, h1 _ _ h.ahead, h.mat.le h1, h.err.le h1⟩
theorem none_le {h hB : Hp} (hl : Le h hB) {b : Nat} (hb : hB b = none) : h b = none := by
  cases hh : h b with
  | none => rfl
  | some o => rw [hl b o hh] at hb; cases hb
theorem QSt.down {hB : Hp} (h : QSt hB u pb pa E A c ts Aq cq q) (h1 : Le h0 hB) (g1 : h0 pa = some (.cells [Value.slice A ts.length c].toArray 24 (0, 0))) (g2 : Mat h0 A ts.length ts) (g3 : At h0 0 0 [E]) : QSt h0 u pb pa E A c ts Aq cq q :=
  ⟨h.cell, h.own, h1.trans h.base, none_le h1 h.hp, fun b hb => none_le h1 (h.ho b hb), h.ap, g1, g2, g3⟩
/-- And the row that comes next. -/
structure NSt (hB u : Hp) (pb pa : Nat) (E : Value) (A : Option Addr) (c : Nat) (ts : List (List Int)) (Aq : Option Addr) (cq : Nat) (q : List (Int × Int)) (An : Option Addr) (cn : Nat) (nx : List Int) : Prop where
  qs : QSt hB u pb pa E A c ts Aq cq q
  nl : Own u An nx.length cn 3 1 (nx.flatMap Ic)
  an : Off hB An
  ap : ∀ b, blk An = some b → ¬ QS pb Aq b
variable {An A' Aq' : Option Addr} {cn c' cq' : Nat} {nx nx' : List Int} {q' : List (Int × Int)}
theorem NSt.ask (h : NSt h0 u pb pa E A c ts Aq cq q An cn nx) (hQ : QSt h0 u' pb pa E A c ts Aq' cq' q') (hK : Keep u (QS pb Aq) u' (QS pb Aq')) : NSt h0 u' pb pa E A c ts Aq' cq' q' An cn nx :=
  ⟨hQ, h.nl.le fun b o hb ho => (hK b o ho (h.ap b hb)).1, h.an, fun b hb => by
    obtain ⟨o, ho⟩ := Option.ne_none_iff_exists'.1 (h.nl.live hb)
    exact (hK b o ho (h.ap b hb)).2⟩
theorem NSt.app (h : NSt h0 u pb pa E A c ts Aq cq q An cn nx) {u1 u3 : Hp} (h1 : Le u u1) (hG : Grown u1 u3 An A') {m : Nat} (hO : Own u3 A' m c' 3 1 (nx'.flatMap Ic)) (hm : m = nx'.length) : NSt h0 u3 pb pa E A c ts Aq cq q A' c' nx' := by
  subst hm
  have k1 : ∀ x o, u x = some o → blk An ≠ some x → u3 x = some o ∧ blk A' ≠ some x := fun x o hx hb => hG.keep x o (h1 x o hx) hb
  have hq : ∀ b, QS pb Aq b → blk An ≠ some b := fun b hb e => h.ap b e hb
  obtain ⟨g1, g2⟩ := hG h0 (h.qs.base.trans h1) h.an
  exact ⟨h.qs.keep g1 fun b o hb ho => (k1 b o ho (hq b hb)).1, hO, g2, fun b hb hc => by
    obtain ⟨o, ho⟩ := h.qs.live hc
    exact (k1 b o ho (hq b hc)).2 hb⟩
end
theorem i_ones {xs : List Int} : ∀ v ∈ xs.flatMap Ic, one v = true := fun v hv => by
  obtain ⟨x, _, hx⟩ := List.mem_flatMap.1 hv
  simp only [Ic, List.mem_singleton] at hx; subst hx; rfl
def clos (pb pa : Nat) : SV := .v (.func (.func 52) ⟨[]⟩ ⟨[ptr pb, ptr pa]⟩)
theorem le_fresh {h u : Hp} {b : Nat} {o : Obj} (hl : Le h u) (hb : u b = none) : Le h (upd u b o) := fun x o' hx => by
  rw [upd_ne (fun e => by subst e; rw [hl _ _ hx] at hb; cases hb)]; exact hl x o' hx
/-- The heap h with A's row. -/
def withA (h u : Hp) (A : Option Addr) : Hp := fun b => if blk A = some b then u b else h b
theorem withA_le {h u : Hp} {A : Option Addr} (hl : Le h u) (hO : Off h A) : Le h (withA h u A) ∧ Le (withA h u A) u := ⟨fun b o hb => by
    unfold withA; rw [if_neg (fun e => by rw [hO b e] at hb; cases hb)]; exact hb, fun b o hb => by
    unfold withA at hb
    split at hb
    · exact hb
    · exact hl b o hb⟩
theorem own_withA {h u : Hp} {A : Option Addr} {n c : Nat} {e : TypeId} {sz : Nat} {cs : List Value} (hO : Own u A n c e sz cs) : Own (withA h u A) A n c e sz cs :=
  hO.le fun b o hb ho => by unfold withA; rw [if_pos hb]; exact ho
/-- The round of a merge: one asks. -/
theorem mg_step {M : Int → Int → Int} {nx xs ys : List Int} {q : List (Int × Int)} {x y : Int} (hx : xs.head? = some x) (hy : ys.head? = some y) :
    mg M nx xs ys q = if M y x = 2 then (q ++ [(y, x)], none) else if M y x = 1 then mg M (nx ++ [y]) xs ys.tail (q ++ [(y, x)]) else mg M (nx ++ [x]) xs.tail ys (q ++ [(y, x)]) := by
  cases xs with
  | nil => simp at hx
  | cons a r =>
    cases ys with
    | nil => simp at hy
    | cons b s =>
      simp only [List.head?_cons, Option.some.injEq] at hx hy
      subst hx; subst hy
      rw [mg]; rfl
theorem mg_end {M : Int → Int → Int} {nx xs ys : List Int} {q : List (Int × Int)} (h : xs.length = 0 ∨ ys.length = 0) : mg M nx xs ys q = (q, some (nx ++ xs ++ ys)) := by
  cases xs with
  | nil => rw [mg]; simp
  | cons a r =>
    cases ys with
    | nil => rw [mg]; simp
    | cons b s => simp at h
theorem ints_head {h : Hp} {A : Option Addr} {xs : List Int} (hP : Ints h A xs.length xs) (hl : 0 < xs.length) : ∃ b off x, A = some ⟨b, off, none⟩ ∧ xs.head? = some x ∧ x ∈ xs ∧ At h b (off + 0 * 1) (Ic x) := by
  obtain ⟨b, off, x, h1, h2, h3, h4, h5⟩ := hP.elem Ic_len (i := 0) hl
  refine ⟨b, off, x, h1, ?_, h4, h5⟩
  cases xs with
  | nil => simp at hl
  | cons a r => simpa using h3
theorem ints_tail {h : Hp} {A : Option Addr} {c : Nat} {xs : List Int} (hP : Ints h A xs.length xs) (hl : 0 < xs.length) (hc : xs.length ≤ c) : Ints h (subA A c 1 1) xs.tail.length xs.tail := by
  have h1 := hP.sub Ic_len (l := 1) (h := xs.length) (by omega) (Nat.le_refl _) hc
  have e : (xs.drop 1).take (xs.length - 1) = xs.tail := by
    rw [List.take_of_length_le (by simp)]; simp
  rw [e] at h1
  have e2 : xs.length - 1 = xs.tail.length := by simp
  rw [e2] at h1; exact h1
end Go.Proofs.YtkamfnmbidnhdaaDoor
