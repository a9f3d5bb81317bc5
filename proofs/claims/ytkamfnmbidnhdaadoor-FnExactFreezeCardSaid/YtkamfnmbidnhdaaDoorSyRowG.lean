/- A graph that is an argument. Over any program; no condition. -/
import Derived.Test.YtkamfnmbidnhdaaDoorSyRow
import Derived.Test.YtkamfnmbidnhdaaDoorSyM
set_option linter.unusedVariables false
set_option linter.unusedSimpArgs false
set_option linter.unusedSectionVars false
namespace Go.Sy
def V.okW (v : V) : Prop := (Lit.int .i64 v.k).wf = true ∧ (Lit.int .i64 v.n).wf = true ∧ v.s.size ≤ maxLen ∧ (Lit.int .i64 v.a).wf = true
def Pr.okW (p : Pr) : Prop := p.key.okW ∧ p.val.okW
theorem V.okW.s {v : V} (h : v.okW) : v.okS := by have := h.2.2.1; simp only [maxLen] at this; exact this
theorem Pr.okW.s {p : Pr} (h : p.okW) : p.okS := ⟨h.1.s, h.2.s⟩
def kV : Hp → V → List Value → Prop := fun _ v cs => cs = v.c ∧ v.okW
def kP : Hp → Pr → List Value → Prop := fun _ p cs => cs = p.c ∧ p.okW
def kPs : Hp → List Pr → List Value → Prop := fun u l cs => ∃ A c, cs = [.slice A l.length c] ∧ l.length ≤ c ∧ l.length ≤ maxLen ∧ Pairs u A l.length l ∧ ∀ p ∈ l, p.okW
def kTs : Hp → List (List Pr) → List Value → Prop := fun u ts cs => ∃ A c, cs = [.slice A ts.length c] ∧ ts.length ≤ c ∧ ts.length ≤ maxLen ∧ Tabs u A ts.length ts ∧ ∀ t ∈ ts, t.length ≤ maxLen ∧ ∀ p ∈ t, p.okW
def kG : Hp → V × List (List Pr) → List Value → Prop := fun u g cs => ∃ A c, cs = [.int .i64 g.1.k, .int .i64 g.1.n, .string g.1.s, .int .i64 g.1.a, .slice A g.2.length c] ∧ g.1.okW ∧ g.2.length ≤ c ∧ g.2.length ≤ maxLen ∧ Tabs u A g.2.length g.2 ∧ ∀ t ∈ g.2, t.length ≤ maxLen ∧ ∀ p ∈ t, p.okW
section
variable {P : Program} {t e : TypeId}
theorem kV_of {u : Hp} {x : Int × Int × ByteArray × Int} {cs : List Value} (h : kPair (kInt .i64) (kPair (kInt .i64) (kPair kStr (kInt .i64))) u x cs) : kV u ⟨x.1, x.2.1, x.2.2.1, x.2.2.2⟩ cs := by
  obtain ⟨c1, c2, rfl, ⟨rfl, w1⟩, c3, c4, rfl, ⟨rfl, w2⟩, c5, c6, rfl, ⟨rfl, w3⟩, ⟨rfl, w4⟩⟩ := h
  exact ⟨rfl, w1, w2, w3, w4⟩
theorem kP_of {u : Hp} {x : V × V} {cs : List Value} (h : kPair kV kV u x cs) : kP u ⟨x.1, x.2⟩ cs := by
  obtain ⟨c1, c2, rfl, ⟨rfl, w1⟩, ⟨rfl, w2⟩⟩ := h
  exact ⟨rfl, w1, w2⟩
theorem flat_of {α : Type} {c : α → List Value} : ∀ {ds : List (List Value)} {l : List α}, ds.length = l.length → (∀ (i : Nat) d y, ds[i]? = some d → l[i]? = some y → d = c y) → ds.flatten = l.flatMap c
  | [], [], _, _ => rfl
  | d :: r, y :: l, hl, h => by
    rw [List.flatten_cons, List.flatMap_cons, h 0 d y rfl rfl, flat_of (by simpa using hl) (fun i d' y' hd hy => h (i + 1) d' y' (by simpa using hd) (by simpa using hy))]
  | [], _ :: _, h, _ => by simp at h
  | _ :: _, [], h, _ => by simp at h
theorem all_of {α : Type} {p : α → Prop} {ds : List (List Value)} {l : List α} (hl : ds.length = l.length) (h : ∀ (i : Nat) d y, ds[i]? = some d → l[i]? = some y → p y) : ∀ y ∈ l, p y := fun y hy => by
  obtain ⟨i, hi, e⟩ := List.getElem_of_mem hy
  have h2 : i < ds.length := by omega
  exact h i ds[i] y (List.getElem?_eq_getElem h2) (by rw [List.getElem?_eq_getElem hi, e])
theorem kPs_of {u : Hp} {l : List Pr} {cs : List Value} (h : kSl 8 kP u l cs) : kPs u l cs := by
  obtain ⟨A, c, ds, rfl, h1, h2, h3, _, h5, h6⟩ := h
  refine ⟨A, c, rfl, h1, h2, ⟨rfl, ?_⟩, all_of h3 (fun i d y hd hy => (h5 i d y hd hy).2)⟩
  rw [← flat_of h3 (fun i d y hd hy => (h5 i d y hd hy).1)]; exact h6
theorem kTs_of {u : Hp} {ts : List (List Pr)} {cs : List Value} (h : kSl 1 kPs u ts cs) : kTs u ts cs := by
  obtain ⟨A, c, ds, rfl, h1, h2, h3, _, h5, h6⟩ := h
  have hall := all_of h3 (p := fun t : List Pr => t.length ≤ maxLen ∧ ∀ p ∈ t, p.okW) (fun i d y hd hy => by obtain ⟨_, _, _, _, g3, _, g5⟩ := h5 i d y hd hy; exact ⟨g3, g5⟩)
  refine ⟨A, c, rfl, h1, h2, ?_, hall⟩
  have hh : ∀ (ds : List (List Value)) (ts : List (List Pr)), ds.length = ts.length → (∀ (i : Nat) d y, ds[i]? = some d → ts[i]? = some y → kPs u y d) →
      ∃ hs : List Hd, hs.length = ts.length ∧ ds.flatten = hs.flatMap Hd.v ∧ ∀ (i : Nat) (x : Hd) (t : List Pr), hs[i]? = some x → ts[i]? = some t → x.n ≤ x.c ∧ Pairs u x.A x.n t := by
    intro ds
    induction ds with
    | nil =>
      intro ts hl _
      have : ts = [] := List.length_eq_zero_iff.1 (by simpa using hl.symm)
      subst this
      exact ⟨[], rfl, rfl, fun i x t hx => by simp at hx⟩
    | cons d r ih =>
      intro ts hl h
      cases ts with
      | nil => simp at hl
      | cons t ts =>
        obtain ⟨hs, g1, g2, g3⟩ := ih ts (by simpa using hl) (fun i d' y' hd hy => h (i + 1) d' y' (by simpa using hd) (by simpa using hy))
        obtain ⟨A', c', rfl, k1, k2, k3, _⟩ := h 0 d t rfl rfl
        refine ⟨⟨A', t.length, c'⟩ :: hs, by simp [g1], by rw [List.flatten_cons, g2, List.flatMap_cons]; rfl, fun i x t' hx ht => ?_⟩
        cases i with
        | zero => simp at hx ht; subst hx; subst ht; exact ⟨k1, k3⟩
        | succ i => exact g3 i x t' (by simpa using hx) (by simpa using ht)
  obtain ⟨hs, g1, g2, g3⟩ := hh ds ts h3 h5
  exact ⟨hs, g1, ⟨g1.symm, by rw [← g2]; exact h6⟩, g3⟩
theorem kG_of {u : Hp} {x : V × List (List Pr)} {cs : List Value} (h : kPair kV kTs u x cs) : kG u x cs := by
  obtain ⟨c1, c2, rfl, ⟨rfl, w1⟩, A, c, rfl, h1, h2, h3, h4⟩ := h
  exact ⟨A, c, rfl, w1, h1, h2, h3, h4⟩
theorem kTs_one {u : Hp} {l : List Pr} {cs : List Value} (h : kPs u l cs) : kPs u l cs := h
end
end Go.Sy
