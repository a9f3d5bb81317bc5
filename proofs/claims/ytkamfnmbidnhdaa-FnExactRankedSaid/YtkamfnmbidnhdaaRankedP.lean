/- Ranked: the program's and the reference's answer alike of every square. -/
import Derived.Test.YtkamfnmbidnhdaaSquaresP
import Derived.Test.YtkamfnmbidnhdaaPf19
import Derived.Test.YtkamfnmbidnhdaaPf21
namespace Go.Proofs.Ytkamfnmbidnhdaa.P
open Go.RowKit Go.Proofs.YtkamfnmbidnhdaaW.PrintWords Go.Proofs.Ytkamfnmbidnhdaa.M
/-- The answer to 'is a ahead of b'. -/
def en (m : List (List Int)) (a b : Nat) : Int := (m.getD a []).getD b 0
theorem rdd (m : List (List Int)) (a b : Nat) : rd (rd_L6 m (a : Int)) (b : Int) = en m a b := by simp [rd, rd_L6, en]
theorem sq_row {m : List (List Int)} (h : square m) {a : Nat} (ha : a < m.length) : (rd_L6 m (a : Int)).length = m.length := by
  rw [rdl_nat m a ha]; exact (h.2 _ (List.getElem_mem ha)).1
theorem sq_en {m : List (List Int)} (h : square m) {a b : Nat} (ha : a < m.length) (hb : b < m.length) : 0 ≤ en m a b ∧ en m a b ≤ 2 := by
  have h1 := h.2 _ (List.getElem_mem ha)
  have hb2 : b < m[a].length := by omega
  have : en m a b = m[a][b] := by simp [en, List.getElem?_eq_getElem ha, List.getElem?_eq_getElem hb2]
  rw [this]
  exact h1.2 _ (List.getElem_mem hb2)
/-- Between a and b all is well; v: what may not be found behind two noughts. -/
def pairOk (bad : Int → Prop) (m : List (List Int)) (a b : Nat) : Prop := en m a b ≠ 2 ∧ ¬ (en m a b = 1 ∧ en m b a = 1) ∧ (en m a b = 0 → ∀ c, c < m.length → en m b c = 0 → ¬ bad (en m a c))
def one (v : Int) : Prop := v = 1
def notNought (v : Int) : Prop := v ≠ 0
theorem from_up {n i : Nat} {Q : Nat → Prop} (hi : i < n) : (∀ c, i ≤ c → c < n → Q c) ↔ Q i ∧ ∀ c, i + 1 ≤ c → c < n → Q c := by
  constructor
  · intro h; exact ⟨h i (Nat.le_refl _) hi, fun c h1 h2 => h c (by omega) h2⟩
  · rintro ⟨h1, h2⟩ c h3 h4
    rcases Nat.lt_or_ge i c with h5 | h5
    · exact h2 c h5 h4
    · obtain rfl : i = c := by omega
      exact h1
theorem specR_c {m : List (List Int)} (h : square m) {a b : Nat} (ha : a < m.length) (hb : b < m.length) (P : Prop) (hP : EvB (fun r => spec_Ranked.l1 r m (m.length : Int) (a : Int) ((b + 1 : Nat) : Int)) P) :
    EvB (fun r => spec_Ranked.l2 r m (m.length : Int) (a : Int) (b : Int) 0) ((en m a b = 0 → ∀ c, c < m.length → en m b c = 0 → ¬ one (en m a c)) ∧ P) := by
  have hn : m.length ≤ 9223372036854775807 := by have := h.1; omega
  have key := evb_from (n := m.length) (L := fun r c => spec_Ranked.l2 r m (m.length : Int) (a : Int) (b : Int) (c : Int)) (P := fun c => (en m a b = 0 → ∀ c', c ≤ c' → c' < m.length → en m b c' = 0 → ¬ one (en m a c')) ∧ P)
    ((EvB.up2 hP fun k v hk => by
      simp only [spec_Ranked.l2, spec_Ranked.j4]
      rw [if_neg (by omega), if_neg (by decide), wrap_up hb hn]; exact hk).iff ⟨fun hp => ⟨fun _ c h1 h2 => by omega, hp⟩, fun hp => hp.2⟩)
    (fun c hc ih => by
      by_cases c1 : en m a b = 0
      · have hb1 : (en m a b == 0) = true := by simp [c1]
        by_cases c2 : en m b c = 0
        · by_cases c3 : en m a c = 1
          · refine EvB.no2 (fun k => ?_) (fun hh => hh.1 c1 c (Nat.le_refl _) hc c2 c3)
            simp only [spec_Ranked.l2, spec_Ranked.j4]
            rw [if_pos (by omega), if_pos (by omega), if_pos (by omega), if_pos (by omega), if_pos (by rw [sq_row h ha]; omega), rdd, hb1, if_pos rfl, if_pos (by omega), if_pos (by omega), if_pos (by omega), if_pos (by rw [sq_row h hb]; omega), rdd, if_pos c2, if_pos (by omega), if_pos (by omega), if_pos (by rw [sq_row h ha]; omega), rdd, if_pos c3]
          · refine (EvB.up2 ih fun k v hk => ?_).iff ?_
            · simp only [spec_Ranked.l2, spec_Ranked.j4]
              rw [if_pos (by omega), if_pos (by omega), if_pos (by omega), if_pos (by omega), if_pos (by rw [sq_row h ha]; omega), rdd, hb1, if_pos rfl, if_pos (by omega), if_pos (by omega), if_pos (by omega), if_pos (by rw [sq_row h hb]; omega), rdd, if_pos c2, if_pos (by omega), if_pos (by omega), if_pos (by rw [sq_row h ha]; omega), rdd, if_neg c3, wrap_up hc hn]
              exact hk
            · rw [from_up hc]; exact ⟨fun hh => ⟨fun e => ⟨fun _ => c3, hh.1 e⟩, hh.2⟩, fun hh => ⟨fun e => (hh.1 e).2, hh.2⟩⟩
        · refine (EvB.up2 ih fun k v hk => ?_).iff ?_
          · simp only [spec_Ranked.l2, spec_Ranked.j4]
            rw [if_pos (by omega), if_pos (by omega), if_pos (by omega), if_pos (by omega), if_pos (by rw [sq_row h ha]; omega), rdd, hb1, if_pos rfl, if_pos (by omega), if_pos (by omega), if_pos (by omega), if_pos (by rw [sq_row h hb]; omega), rdd, if_neg c2, wrap_up hc hn]
            exact hk
          · rw [from_up hc]; exact ⟨fun hh => ⟨fun e => ⟨fun e2 => absurd e2 c2, hh.1 e⟩, hh.2⟩, fun hh => ⟨fun e => (hh.1 e).2, hh.2⟩⟩
      · have hb1 : (en m a b == 0) = false := by simp [c1]
        refine (EvB.up2 hP fun k v hk => ?_).iff ⟨fun hp => ⟨fun e => absurd e c1, hp⟩, fun hp => hp.2⟩
        simp only [spec_Ranked.l2, spec_Ranked.j4]
        rw [if_pos (by omega), if_pos (by omega), if_pos (by omega), if_pos (by omega), if_pos (by rw [sq_row h ha]; omega), rdd, hb1, if_neg (by decide), wrap_up hb hn]
        exact hk) m.length 0 (by omega)
  exact key.iff ⟨fun hh => ⟨fun e c h1 => hh.1 e c (Nat.zero_le _) h1, hh.2⟩, fun hh => ⟨fun e c _ h1 => hh.1 e c h1, hh.2⟩⟩
theorem specR_b {m : List (List Int)} (h : square m) {a : Nat} (ha : a < m.length) (P : Prop) (hP : EvB (fun r => spec_Ranked.l0 r m (m.length : Int) ((a + 1 : Nat) : Int)) P) :
    EvB (fun r => spec_Ranked.l1 r m (m.length : Int) (a : Int) 0) ((∀ b, b < m.length → pairOk one m a b) ∧ P) := by
  have hn : m.length ≤ 9223372036854775807 := by have := h.1; omega
  have key := evb_from (n := m.length) (L := fun r b => spec_Ranked.l1 r m (m.length : Int) (a : Int) (b : Int)) (P := fun b => (∀ b', b ≤ b' → b' < m.length → pairOk one m a b') ∧ P)
    ((EvB.up hP fun k v hk => by
      simp only [spec_Ranked.l1]
      rw [if_neg (by omega), wrap_up ha hn]; exact hk).iff ⟨fun hp => ⟨fun b h1 h2 => by omega, hp⟩, fun hp => hp.2⟩)
    (fun b hb ih => by
      have inner := specR_c h ha hb _ ih
      have opn : ∀ k, spec_Ranked.l1 (k + 1) m (m.length : Int) (a : Int) (b : Int) = if en m a b = 2 then spec_Ranked.j2 k m (m.length : Int) (a : Int) (b : Int) true else if en m a b = 1 then spec_Ranked.j2 k m (m.length : Int) (a : Int) (b : Int) (en m b a == 1) else spec_Ranked.j2 k m (m.length : Int) (a : Int) (b : Int) false := fun k => by
        simp only [spec_Ranked.l1]
        rw [if_pos (by omega), if_pos (by omega), if_pos (by omega), if_pos (by omega), if_pos (by rw [sq_row h ha]; omega), rdd]
        by_cases c : en m a b = 2
        · rw [if_pos c, if_pos c]
        · rw [if_neg c, if_neg c]
          by_cases c' : en m a b = 1
          · rw [if_pos c', if_pos c', if_pos (by omega), if_pos (by rw [sq_row h hb]; omega), rdd]
          · rw [if_neg c', if_neg c']
      rw [from_up hb]
      by_cases c1 : en m a b = 2
      · refine EvB.no2 (fun k => ?_) (fun hh => hh.1.1.1 c1)
        simp only [opn]; rw [if_pos c1]; simp only [spec_Ranked.j2, if_true]
      · by_cases c2 : en m a b = 1
        · by_cases c3 : en m b a = 1
          · refine EvB.no2 (fun k => ?_) (fun hh => hh.1.1.2.1 ⟨c2, c3⟩)
            simp only [opn]; rw [if_neg c1, if_pos c2]; simp only [spec_Ranked.j2]; rw [if_pos (by simp [c3])]
          · refine (EvB.up2 inner fun k v hk => ?_).iff ?_
            · simp only [opn]; rw [if_neg c1, if_pos c2]; simp only [spec_Ranked.j2]; rw [if_neg (by simp [c3])]; exact hk
            · exact ⟨fun hh => ⟨⟨⟨c1, fun e => c3 e.2, hh.1⟩, hh.2.1⟩, hh.2.2⟩, fun hh => ⟨hh.1.1.2.2, hh.1.2, hh.2⟩⟩
        · refine (EvB.up2 inner fun k v hk => ?_).iff ?_
          · simp only [opn]; rw [if_neg c1, if_neg c2]; simp only [spec_Ranked.j2]; rw [if_neg (by decide)]; exact hk
          · exact ⟨fun hh => ⟨⟨⟨c1, fun e => c2 e.1, hh.1⟩, hh.2.1⟩, hh.2.2⟩, fun hh => ⟨hh.1.1.2.2, hh.1.2, hh.2⟩⟩) m.length 0 (by omega)
  exact key.iff ⟨fun hh => ⟨fun b h1 => hh.1 b (Nat.zero_le _) h1, hh.2⟩, fun hh => ⟨fun b _ h1 => hh.1 b h1, hh.2⟩⟩
theorem specR {m : List (List Int)} (h : square m) : EvB (fun r => spec_Ranked.l0 r m (m.length : Int) 0) (∀ a, a < m.length → ∀ b, b < m.length → pairOk one m a b) := by
  have hn : m.length ≤ 9223372036854775807 := by have := h.1; omega
  have key := evb_from (n := m.length) (L := fun r a => spec_Ranked.l0 r m (m.length : Int) (a : Int)) (P := fun a => ∀ a', a ≤ a' → a' < m.length → ∀ b, b < m.length → pairOk one m a' b)
    (EvB.yes (Ev.up0 fun k => by simp only [spec_Ranked.l0]; rw [if_neg (by omega)]) (fun a h1 h2 => by omega))
    (fun a ha ih => by
      rw [from_up ha]
      refine EvB.up (specR_b h ha _ ih) fun k v hk => ?_
      simp only [spec_Ranked.l0]; rw [if_pos (by omega)]; exact hk) m.length 0 (by omega)
  exact key.iff ⟨fun hh a h1 => hh a (Nat.zero_le _) h1, fun hh a _ h1 => hh a h1⟩
theorem implR_c {m : List (List Int)} (h : square m) {a b : Nat} (ha : a < m.length) (hb : b < m.length) (P : Prop) (hP : EvB (fun r => impl_Ranked.l1 r m (a : Int) (m.length : Int) (a : Int) (m.length : Int) ((b + 1 : Nat) : Int)) P) :
    EvB (fun r => impl_Ranked.l2 r m (a : Int) (b : Int) (m.length : Int) (a : Int) (m.length : Int) (b : Int) (m.length : Int) 0) ((en m a b = 0 → ∀ c, c < m.length → en m b c = 0 → ¬ notNought (en m a c)) ∧ P) := by
  have hn : m.length ≤ 9223372036854775807 := by have := h.1; omega
  have key := evb_from (n := m.length) (L := fun r c => impl_Ranked.l2 r m (a : Int) (b : Int) (m.length : Int) (a : Int) (m.length : Int) (b : Int) (m.length : Int) (c : Int)) (P := fun c => (en m a b = 0 → ∀ c', c ≤ c' → c' < m.length → en m b c' = 0 → ¬ notNought (en m a c')) ∧ P)
    ((EvB.up hP fun k v hk => by
      simp only [impl_Ranked.l2]
      rw [if_neg (by omega), wrap_up hb hn]; exact hk).iff ⟨fun hp => ⟨fun _ c h1 h2 => by omega, hp⟩, fun hp => hp.2⟩)
    (fun c hc ih => by
      by_cases c1 : en m a b = 0
      · by_cases c2 : en m b c = 0
        · by_cases c3 : en m a c = 0
          · refine (EvB.up ih fun k v hk => ?_).iff ?_
            · simp only [impl_Ranked.l2]
              rw [if_pos (by omega), if_pos (by omega), if_pos (by omega), if_pos (by omega), if_pos (by rw [sq_row h ha]; omega), rdd, if_pos c1, if_pos (by omega), if_pos (by omega), if_pos (by rw [sq_row h hb]; omega), rdd, if_pos c2, if_pos (by rw [sq_row h ha]; omega), rdd, if_pos c3, wrap_up hc hn]
              exact hk
            · rw [from_up hc]; exact ⟨fun hh => ⟨fun e => ⟨fun _ e2 => e2 c3, hh.1 e⟩, hh.2⟩, fun hh => ⟨fun e => (hh.1 e).2, hh.2⟩⟩
          · refine EvB.no (Ev.up0 fun k => ?_) (fun hh => hh.1 c1 c (Nat.le_refl _) hc c2 c3)
            simp only [impl_Ranked.l2]
            rw [if_pos (by omega), if_pos (by omega), if_pos (by omega), if_pos (by omega), if_pos (by rw [sq_row h ha]; omega), rdd, if_pos c1, if_pos (by omega), if_pos (by omega), if_pos (by rw [sq_row h hb]; omega), rdd, if_pos c2, if_pos (by rw [sq_row h ha]; omega), rdd, if_neg c3]
        · refine (EvB.up ih fun k v hk => ?_).iff ?_
          · simp only [impl_Ranked.l2]
            rw [if_pos (by omega), if_pos (by omega), if_pos (by omega), if_pos (by omega), if_pos (by rw [sq_row h ha]; omega), rdd, if_pos c1, if_pos (by omega), if_pos (by omega), if_pos (by rw [sq_row h hb]; omega), rdd, if_neg c2, wrap_up hc hn]
            exact hk
          · rw [from_up hc]; exact ⟨fun hh => ⟨fun e => ⟨fun e2 => absurd e2 c2, hh.1 e⟩, hh.2⟩, fun hh => ⟨fun e => (hh.1 e).2, hh.2⟩⟩
      · refine (EvB.up ih fun k v hk => ?_).iff ⟨fun hp => ⟨fun e => absurd e c1, hp.2⟩, fun hp => ⟨fun e => absurd e c1, hp.2⟩⟩
        simp only [impl_Ranked.l2]
        rw [if_pos (by omega), if_pos (by omega), if_pos (by omega), if_pos (by omega), if_pos (by rw [sq_row h ha]; omega), rdd, if_neg c1, wrap_up hc hn]
        exact hk) m.length 0 (by omega)
  exact key.iff ⟨fun hh => ⟨fun e c h1 => hh.1 e c (Nat.zero_le _) h1, hh.2⟩, fun hh => ⟨fun e c _ h1 => hh.1 e c h1, hh.2⟩⟩
theorem implR_b {m : List (List Int)} (h : square m) {a : Nat} (ha : a < m.length) (P : Prop) (hP : EvB (fun r => impl_Ranked.l0 r m (m.length : Int) ((a + 1 : Nat) : Int)) P) :
    EvB (fun r => impl_Ranked.l1 r m (a : Int) (m.length : Int) (a : Int) (m.length : Int) 0) ((∀ b, b < m.length → pairOk notNought m a b) ∧ P) := by
  have hn : m.length ≤ 9223372036854775807 := by have := h.1; omega
  have key := evb_from (n := m.length) (L := fun r b => impl_Ranked.l1 r m (a : Int) (m.length : Int) (a : Int) (m.length : Int) (b : Int)) (P := fun b => (∀ b', b ≤ b' → b' < m.length → pairOk notNought m a b') ∧ P)
    ((EvB.up hP fun k v hk => by
      simp only [impl_Ranked.l1]
      rw [if_neg (by omega), wrap_up ha hn]; exact hk).iff ⟨fun hp => ⟨fun b h1 h2 => by omega, hp⟩, fun hp => hp.2⟩)
    (fun b hb ih => by
      have inner := implR_c h ha hb _ ih
      have opn : ∀ k, impl_Ranked.l1 (k + 1) m (a : Int) (m.length : Int) (a : Int) (m.length : Int) (b : Int) = if en m a b = 2 then impl_Ranked.j2 k m (a : Int) (b : Int) (m.length : Int) (a : Int) (m.length : Int) (b : Int) true else if en m a b = 1 then impl_Ranked.j2 k m (a : Int) (b : Int) (m.length : Int) (a : Int) (m.length : Int) (b : Int) (en m b a == 1) else impl_Ranked.j2 k m (a : Int) (b : Int) (m.length : Int) (a : Int) (m.length : Int) (b : Int) false := fun k => by
        simp only [impl_Ranked.l1]
        rw [if_pos (by omega), if_pos (by omega), if_pos (by omega), if_pos (by omega), if_pos (by rw [sq_row h ha]; omega), rdd]
        by_cases c : en m a b = 2
        · rw [if_pos c, if_pos c]
        · rw [if_neg c, if_neg c]
          by_cases c' : en m a b = 1
          · rw [if_pos c', if_pos c', if_pos (by omega), if_pos (by rw [sq_row h hb]; omega), rdd]
          · rw [if_neg c', if_neg c']
      rw [from_up hb]
      by_cases c1 : en m a b = 2
      · refine EvB.no2 (fun k => ?_) (fun hh => hh.1.1.1 c1)
        simp only [opn]; rw [if_pos c1]; simp only [impl_Ranked.j2, if_true]
      · by_cases c2 : en m a b = 1
        · by_cases c3 : en m b a = 1
          · refine EvB.no2 (fun k => ?_) (fun hh => hh.1.1.2.1 ⟨c2, c3⟩)
            simp only [opn]; rw [if_neg c1, if_pos c2]; simp only [impl_Ranked.j2]; rw [if_pos (by simp [c3])]
          · refine (EvB.up2 inner fun k v hk => ?_).iff ?_
            · simp only [opn]; rw [if_neg c1, if_pos c2]; simp only [impl_Ranked.j2]; rw [if_neg (by simp [c3])]; exact hk
            · exact ⟨fun hh => ⟨⟨⟨c1, fun e => c3 e.2, hh.1⟩, hh.2.1⟩, hh.2.2⟩, fun hh => ⟨hh.1.1.2.2, hh.1.2, hh.2⟩⟩
        · refine (EvB.up2 inner fun k v hk => ?_).iff ?_
          · simp only [opn]; rw [if_neg c1, if_neg c2]; simp only [impl_Ranked.j2]; rw [if_neg (by decide)]; exact hk
          · exact ⟨fun hh => ⟨⟨⟨c1, fun e => c2 e.1, hh.1⟩, hh.2.1⟩, hh.2.2⟩, fun hh => ⟨hh.1.1.2.2, hh.1.2, hh.2⟩⟩) m.length 0 (by omega)
  exact key.iff ⟨fun hh => ⟨fun b h1 => hh.1 b (Nat.zero_le _) h1, hh.2⟩, fun hh => ⟨fun b _ h1 => hh.1 b h1, hh.2⟩⟩
theorem implR {m : List (List Int)} (h : square m) : EvB (fun r => impl_Ranked.l0 r m (m.length : Int) 0) (∀ a, a < m.length → ∀ b, b < m.length → pairOk notNought m a b) := by
  have hn : m.length ≤ 9223372036854775807 := by have := h.1; omega
  have key := evb_from (n := m.length) (L := fun r a => impl_Ranked.l0 r m (m.length : Int) (a : Int)) (P := fun a => ∀ a', a ≤ a' → a' < m.length → ∀ b, b < m.length → pairOk notNought m a' b)
    (EvB.yes (Ev.up0 fun k => by simp only [impl_Ranked.l0]; rw [if_neg (by omega)]) (fun a h1 h2 => by omega))
    (fun a ha ih => by
      rw [from_up ha]
      refine EvB.up (implR_b h ha _ ih) fun k v hk => ?_
      simp only [impl_Ranked.l0]; rw [if_pos (by omega)]; exact hk) m.length 0 (by omega)
  exact key.iff ⟨fun hh a h1 => hh a (Nat.zero_le _) h1, fun hh a _ h1 => hh a h1⟩
/-- Ranks, as chapter 1 has it. -/
def ranked (m : List (List Int)) : Prop := square m ∧ ∀ a, a < m.length → ∀ b, b < m.length → pairOk one m a b
theorem ranked_two {m : List (List Int)} (h : square m) : (∀ a, a < m.length → ∀ b, b < m.length → pairOk notNought m a b) ↔ (∀ a, a < m.length → ∀ b, b < m.length → pairOk one m a b) := by
  constructor
  · intro hh a ha b hb
    have h1 := hh a ha b hb
    exact ⟨h1.1, h1.2.1, fun e c hc e2 e3 => h1.2.2 e c hc e2 (by unfold one at e3; unfold notNought; omega)⟩
  · intro hh a ha b hb
    have h1 := hh a ha b hb
    refine ⟨h1.1, h1.2.1, fun e c hc e2 e3 => h1.2.2 e c hc e2 ?_⟩
    have h2 := (hh a ha c hc).1
    have h3 := sq_en h ha hc
    unfold notNought at e3
    unfold one
    omega
theorem specR_says (m : List (List Int)) (hm : m.length ≤ 9223372036854775807) (hr : ∀ x, x ∈ m → x.length ≤ 9223372036854775807) : EvB (fun r => spec_Ranked.f r m) (ranked m) := by
  obtain ⟨b, h1, h2⟩ := specSq_says m hm hr
  cases b with
  | false =>
    refine EvB.no (Ev.map h1 fun k hk => ?_) (fun hh => by simpa using h2.2 hh.1)
    simp only [spec_Ranked.f, hk, Option.bind_some]; rfl
  | true =>
    have hsq := h2.1 rfl
    obtain ⟨c, h3, h4⟩ := specR hsq
    obtain ⟨K, hK⟩ := Ev.two h1 h3
    refine ⟨c, ⟨K, fun k hk => ?_⟩, h4.trans ⟨fun hh => ⟨hsq, hh⟩, fun hh => hh.2⟩⟩
    simp only [spec_Ranked.f, (hK k hk).1, Option.bind_some]
    exact (hK k hk).2
theorem implR_says (m : List (List Int)) (hm : m.length ≤ 9223372036854775807) (hr : ∀ x, x ∈ m → x.length ≤ 9223372036854775807) : EvB (fun r => impl_Ranked.f r m) (ranked m) := by
  obtain ⟨b, h1, h2⟩ := implSq_says m hm hr
  cases b with
  | false =>
    refine EvB.no (Ev.map h1 fun k hk => ?_) (fun hh => by simpa using h2.2 hh.1)
    simp only [impl_Ranked.f, hk, Option.bind_some]; rfl
  | true =>
    have hsq := h2.1 rfl
    obtain ⟨c, h3, h4⟩ := implR hsq
    obtain ⟨K, hK⟩ := Ev.two h1 h3
    refine ⟨c, ⟨K, fun k hk => ?_⟩, h4.trans ⟨fun hh => ⟨hsq, (ranked_two hsq).1 hh⟩, fun hh => (ranked_two hsq).2 hh.2⟩⟩
    simp only [impl_Ranked.f, (hK k hk).1, Option.bind_some]
    exact (hK k hk).2
end Go.Proofs.Ytkamfnmbidnhdaa.P
