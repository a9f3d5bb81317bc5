/- The map map[impl.Val]int: how its keys are compared. -/
import Derived.Test.YtkamfnmbidnhdaaMaps
import Derived.Test.YtkamfnmbidnhdaaVals
import Derived.Test.YtkamfnmbidnhdaaPfq1
namespace Go.Proofs.Ytkamfnmbidnhdaa.M
open Go.RowKit Go.ChangeMaps Go.MapKept
def vKey (x : V) : Value := .agg #[.int .i64 x.k, .int .i64 x.n, .string x.s, .int .i64 x.a]
theorem text_beq (s t : ByteArray) : (s.toList == t.toList) = decide (s = t) := by
  by_cases h : s = t
  · subst h; simp
  · have : s.toList ≠ t.toList := fun e => h (text_eq.1 e)
    simp [h, this]
theorem vKey_eq (w : World) (x y : V) : (Op.equal 29 (vKey x) (vKey y)).run Try.prog w = .ok (decide (x = y)) w := by
  unfold Op.equal vKey
  refine (P.eqA29 9998 w x.k y.k x.n y.n x.s y.s x.a y.a).trans ?_
  rw [text_beq]
  congr 1
  cases x; cases y
  simp only [V.mk.injEq, Bool.decide_and]
  rfl
theorem find_asking (w : World) (x : V) : ∀ (l : List V) (es : List MapEntry) (i : Nat), es.map (·.key) = l.map vKey →
    (Instr.findAsking 29 (vKey x) es i).run Try.prog w = .ok (match l.findIdx? (fun y => decide (x = y)) with | some j => (es[j]?).map (fun e => (i + j, e.val)) | none => none) w
  | [], es, i, h => by
    have : es = [] := by simpa using h
    subst this
    simp [Instr.findAsking]
  | y :: l, [], i, h => by simp at h
  | y :: l, e :: es, i, h => by
    simp only [List.map_cons, List.cons.injEq] at h
    obtain ⟨h1, h2⟩ := h
    have ih := find_asking w x l es (i + 1) h2
    by_cases hx : x = y
    · simp [Instr.findAsking, h1, vKey_eq, Result.andThen, List.findIdx?_cons, hx]
    · simp only [Instr.findAsking, h1, Sem.run_bind, vKey_eq, Result.andThen, decide_eq_false hx, List.findIdx?_cons, ih, Bool.false_eq_true, if_false]
      cases l.findIdx? (fun y => decide (x = y)) with
      | none => rfl
      | some j => simp [Nat.add_assoc, Nat.add_comm 1 j]
theorem text_self (s : ByteArray) : (s == s) = true := by
  cases s with | mk d =>
  show (d == d) = true
  simp
theorem vKey_check (em : Bool) (n : Nat) (w : World) (x : V) : (Instr.checkKey em (n + 2) 29 (vKey x)).run Try.prog w = .ok () w := by
  have hu := Try.underlying29
  have hi : ∀ (m : Nat) (a : Int), (Instr.checkKey em (m + 1) 3 (.int .i64 a)).run Try.prog w = .ok () w := fun m a => by simp [Instr.checkKey, run_underlying Try.underlying3]
  have hs : ∀ (m : Nat) (a : ByteArray), (Instr.checkKey em (m + 1) 9 (.string a)).run Try.prog w = .ok () w := fun m a => by simp [Instr.checkKey, run_underlying Try.underlying9]
  have hj : ∀ (m : Nat) (a : Int), (Instr.checkKey em (m + 1) 2 (.int .i64 a)).run Try.prog w = .ok () w := fun m a => by simp [Instr.checkKey, run_underlying Try.underlying2]
  rw [Instr.checkKey, Sem.run_bind, run_underlying hu]
  simp only [vKey, Result.andThen]
  go_simp
theorem vKeyOps : KeyOps Try.prog 29 vKey where
  check w em x := vKey_check em 9998 w x
  find w x l es h := by
    have hu := Try.underlying29
    refine (run_findKey_eq (P := Try.prog) (k := 29) (w := w) (by rw [hu]) (vKey x) es).trans ?_
    rw [find_asking w x l es 0 h]
    cases l.findIdx? (fun y => decide (x = y)) <;> simp
  stays w x := by
    simp [Instr.keyThatStays, Instr.sameBits, vKey, text_self]
end Go.Proofs.Ytkamfnmbidnhdaa.M
