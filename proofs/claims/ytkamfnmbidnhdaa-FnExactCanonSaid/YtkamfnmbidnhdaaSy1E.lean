/- The walk by a symbolic frame (Sy1E): contracts of functions; each with its own conditions as hypotheses. -/
import Derived.Test.YtkamfnmbidnhdaaSy1T
import Derived.Laws.StructEq
namespace Go.Proofs.Ytkamfnmbidnhdaa
open Go.Sy
theorem text_eq {a b : ByteArray} : a.toList = b.toList ↔ a = b := by
  constructor
  · intro h
    rw [ByteArray.toList_eq, ByteArray.toList_eq] at h
    obtain ⟨⟨x⟩⟩ := a
    obtain ⟨⟨y⟩⟩ := b
    simp at h; rw [h]
  · intro h; rw [h]
instance : DecidableEq V := fun x y => decidable_of_iff (x.k = y.k ∧ x.n = y.n ∧ x.s.toList = y.s.toList ∧ x.a = y.a) (by
  cases x; cases y; simp [text_eq])
theorem eq29 (d : Nat) (w : World) (x y : V) : (Op.equalIn (d + 2) 29 (.agg x.c.toArray) (.agg y.c.toArray)).run Try.prog w = .ok (decide (x = y)) w := by
  rw [run_equalIn_struct w (d + 1) 29 _ _ (by rw [Program.fieldsOf, Try.underlying29]) (by kernel_rfl)]
  have e : decide (x = y) = (x.k == y.k && (x.n == y.n && (x.s.toList == y.s.toList && x.a == y.a))) := by
    rw [Bool.eq_iff_iff]
    cases x; cases y
    simp [V.mk.injEq, text_eq]
  rw [e]
  simp only [Program.fieldsOf, Try.underlying29, V.c, Op.eqFields]
  go_simp
  cases h1 : (x.k == y.k) <;> cases h2 : (x.n == y.n) <;> cases h3 : (x.s.toList == y.s.toList) <;> cases h4 : (x.a == y.a) <;> simp_all
end Go.Proofs.Ytkamfnmbidnhdaa
