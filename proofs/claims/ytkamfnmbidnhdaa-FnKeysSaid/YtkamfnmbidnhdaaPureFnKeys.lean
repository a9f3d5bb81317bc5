/- FnKeys: of drawn keys the order is the model's, and turns around with them. No condition but what is known of the argument. -/
import Derived.Test.YtkamfnmbidnhdaaPf7
import Derived.Test.YtkamfnmbidnhdaaDrawsP
import Derived.Test.YtkamfnmbidnhdaaKeysK
import Derived.Test.YtkamfnmbidnhdaaG23
set_option linter.unusedVariables false
set_option linter.unusedSimpArgs false
namespace Go.Proofs.Ytkamfnmbidnhdaa.Pure
open Go.RowKit Go.Proofs.Ytkamfnmbidnhdaa.P Go.Proofs.YtkamfnmbidnhdaaW.PrintWords Go.Proofs.YtkamfnmbidnhdaaW.PrintLast Go.Proofs.Ytkamfnmbidnhdaa.M
theorem draw_says (l : List Int) (hl : P.bytes l) : ∃ x y : V, Ev (fun r => spec_DrawKeyOrder.f r l) (x.k, x.n, x.s, x.a, y.k, y.n, y.s, y.a) ∧ x.s.size ≤ maxLen ∧ y.s.size ≤ maxLen := by
  have hm : 500 ≤ maxLen := by simp [maxLen]
  obtain ⟨k, n, t, a, s, e, _, ht, a0, a1⟩ := key_says l hl 0 0 ⟨by omega, by omega⟩
  obtain ⟨v, b, s1, e1, v0, v1, b0, b1⟩ := pick_says l hl a s 8 (by omega) (by omega) ⟨by omega, by omega⟩
  by_cases c : v = 0
  · obtain ⟨k', n', t', y', b', s', e', _, ht', _, _⟩ := val_says l hl b s1 2 (by omega) (by omega) ⟨by omega, by omega⟩
    refine ⟨⟨k, n, t, 0⟩, ⟨k', n', t', y'⟩, ?_, by show t.size ≤ _; omega, by show t'.size ≤ _; omega⟩
    obtain ⟨K, hK⟩ := Ev.two e e'
    refine ⟨K, fun r hr => ?_⟩
    obtain ⟨h1, h2⟩ := hK r hr
    simp only [spec_DrawKeyOrder.f, h1, e1, h2, Option.bind_some]
    rw [if_pos c]
  · obtain ⟨k', n', t', b', s', e', _, ht', _, _⟩ := key_says l hl b s1 ⟨by omega, by omega⟩
    refine ⟨⟨k, n, t, 0⟩, ⟨k', n', t', 0⟩, ?_, by show t.size ≤ _; omega, by show t'.size ≤ _; omega⟩
    obtain ⟨K, hK⟩ := Ev.two e e'
    refine ⟨K, fun r hr => ?_⟩
    obtain ⟨h1, h2⟩ := hK r hr
    simp only [spec_DrawKeyOrder.f, h1, e1, h2, Option.bind_some]
    rw [if_neg c]
theorem ko_range (x y : V) : -1 ≤ koB x y ∧ koB x y ≤ 2 := by
  unfold koB
  split <;> (try split) <;> (try split) <;> (try split) <;> omega
theorem eq_bits (x y : V) : (x.k == y.k && (x.n == y.n && (x.s.toList == y.s.toList && (x.a == y.a)))) = decide (x = y) := by
  have ht : (x.s.toList == y.s.toList) = decide (x.s = y.s) := by
    by_cases h : x.s = y.s
    · rw [h]; simp
    · have : x.s.toList ≠ y.s.toList := fun e => h (text_eq.1 e)
      simp [h, this]
  rw [ht]
  cases x; cases y
  simp only [V.mk.injEq, Bool.decide_and]
  rfl
theorem FnKeys : laws_FnKeys.Pure := by
  intro l h1 h2 hw
  have hl : P.bytes l := fun v hv => by
    have := hw v hv
    have e0 : IntKind.u8.min = 0 := by decide
    have e1 : IntKind.u8.max = 255 := by decide
    simp only [Lit.wf, Bool.and_eq_true, decide_eq_true_eq, e0, e1] at this
    exact this
  by_cases c : (l.length : Int) > 1048576
  · refine ⟨0, ?_⟩
    simp only [laws_FnKeys.f]
    rw [if_pos c]
  · obtain ⟨x, y, hd, hx, hy⟩ := draw_says l hl
    obtain ⟨K1, k1⟩ := Ev.two hd (specKo x y hx hy)
    obtain ⟨K2, k2⟩ := Ev.two (implKo x y) (implKo y x)
    have q1 := k1 (max K1 K2) (by omega)
    have q2 := k2 (max K1 K2) (by omega)
    refine ⟨max K1 K2, ?_⟩
    try simp only at q1 q2
    simp only [laws_FnKeys.f, q1.1, q1.2, q2.1, q2.2, Option.bind_some, if_true]
    rw [if_neg c]
    have hr := ko_range x y
    by_cases d : koB x y = 2
    · rw [if_pos d]
      have : koB y x = 2 := by
        rw [ko_two] at d ⊢
        exact fun h => d ⟨h.2, h.1⟩
      rw [this]; rfl
    · rw [if_neg d]
      obtain ⟨t1, t2⟩ := ko_turn d
      have hwr : wrap64 (-koB x y) = -koB x y := by unfold wrap64; omega
      rw [hwr, if_pos t1, eq_bits]
      by_cases z : koB x y = 0
      · have e := t2.1 z
        subst e
        simp [z]
      · have : ¬ x = y := fun e => z (t2.2 e)
        simp [z, this]
end Go.Proofs.Ytkamfnmbidnhdaa.Pure
