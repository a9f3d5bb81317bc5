/- What the arguments of the laws of this seat are. No condition. -/
import Derived.Test.YtkamfnmbidnhdaaDoorSyW
import Derived.Test.YtkamfnmbidnhdaaDoorSyRowG
import Derived.Test.YtkamfnmbidnhdaaDoorChecked
import Derived.KernelRfl
set_option linter.unusedVariables false
set_option linter.unusedSimpArgs false
set_option linter.unusedSectionVars false
namespace Go.Sy
def kIs : Hp → List Int → List Value → Prop := fun u l cs => ∃ A c, cs = [.slice A l.length c] ∧ l.length ≤ c ∧ l.length ≤ maxLen ∧ Ints u A l.length l ∧ ∀ x ∈ l, (Lit.int .i64 x).wf = true
def kIss : Hp → List (List Int) → List Value → Prop := fun u ts cs => ∃ A c, cs = [.slice A ts.length c] ∧ ts.length ≤ c ∧ ts.length ≤ maxLen ∧ Mat u A ts.length ts ∧ ∀ t ∈ ts, t.length ≤ maxLen ∧ ∀ x ∈ t, (Lit.int .i64 x).wf = true
theorem kIs_of {u : Hp} {l : List Int} {cs : List Value} (h : kSl 1 (kInt .i64) u l cs) : kIs u l cs := by
  obtain ⟨A, c, ds, rfl, h1, h2, h3, _, h5, h6⟩ := h
  refine ⟨A, c, rfl, h1, h2, ⟨rfl, ?_⟩, all_of h3 (fun i d y hd hy => (h5 i d y hd hy).2)⟩
  rw [← flat_of (c := Ic) h3 (fun i d y hd hy => (h5 i d y hd hy).1)]; exact h6
/-- Rows of rows, of any element. -/
theorem kRows_of {α : Type} {c0 : α → List Value} {sz : Nat} {p : α → Prop} {u : Hp} {ts : List (List α)} {cs : List Value}
    (h : kSl 1 (fun u l cs => ∃ A c, cs = [.slice A l.length c] ∧ l.length ≤ c ∧ l.length ≤ maxLen ∧ Rd c0 sz u A l.length l ∧ ∀ x ∈ l, p x) u ts cs) :
    ∃ A c, cs = [.slice A ts.length c] ∧ ts.length ≤ c ∧ ts.length ≤ maxLen ∧ TabG c0 sz u A ts.length ts ∧ ∀ t ∈ ts, t.length ≤ maxLen ∧ ∀ x ∈ t, p x := by
  obtain ⟨A, c, ds, rfl, h1, h2, h3, _, h5, h6⟩ := h
  have hall := all_of h3 (p := fun t : List α => t.length ≤ maxLen ∧ ∀ x ∈ t, p x) (fun i d y hd hy => by obtain ⟨_, _, _, _, g3, _, g5⟩ := h5 i d y hd hy; exact ⟨g3, g5⟩)
  refine ⟨A, c, rfl, h1, h2, ?_, hall⟩
  have hh : ∀ (ds : List (List Value)) (ts : List (List α)), ds.length = ts.length → (∀ (i : Nat) d y, ds[i]? = some d → ts[i]? = some y → ∃ A c, d = [.slice A y.length c] ∧ y.length ≤ c ∧ Rd c0 sz u A y.length y) →
      ∃ hs : List Hd, hs.length = ts.length ∧ ds.flatten = hs.flatMap Hd.v ∧ ∀ (i : Nat) (x : Hd) (t : List α), hs[i]? = some x → ts[i]? = some t → x.n ≤ x.c ∧ Rd c0 sz u x.A x.n t := by
    intro ds
    induction ds with
    | nil =>
      intro ts hl _
      have : ts = [] := List.length_eq_zero_iff.1 (by simpa using hl.symm)
      subst this
      exact ⟨[], rfl, rfl, fun i x t hx => by simp at hx⟩
    | cons d r ih =>
      intro ts hl h
      cases ts with
      | nil => simp at hl
      | cons t ts =>
        obtain ⟨hs, g1, g2, g3⟩ := ih ts (by simpa using hl) (fun i d' y' hd hy => h (i + 1) d' y' (by simpa using hd) (by simpa using hy))
        obtain ⟨A', c', rfl, k1, k3⟩ := h 0 d t rfl rfl
        refine ⟨⟨A', t.length, c'⟩ :: hs, by simp [g1], by rw [List.flatten_cons, g2, List.flatMap_cons]; rfl, fun i x t' hx ht => ?_⟩
        cases i with
        | zero => simp at hx ht; subst hx; subst ht; exact ⟨k1, k3⟩
        | succ i => exact g3 i x t' (by simpa using hx) (by simpa using ht)
  obtain ⟨hs, g1, g2, g3⟩ := hh ds ts h3 (fun i d y hd hy => by obtain ⟨A, c, e, e1, _, e3, _⟩ := h5 i d y hd hy; exact ⟨A, c, e, e1, e3⟩)
  exact ⟨hs, g1, ⟨g1.symm, by rw [← g2]; exact h6⟩, g3⟩
theorem kIss_of {u : Hp} {ts : List (List Int)} {cs : List Value} (h : kSl 1 kIs u ts cs) : kIss u ts cs := kRows_of h
end Go.Sy
namespace Go.Proofs.YtkamfnmbidnhdaaDoor
open Go.Sy
set_option maxRecDepth 100000
theorem op3 : Opn Tryd.prog 3 1 (kInt .i64) := opn_int Tryd.underlying3 (by kernel_rfl)
theorem op25 : Opn Tryd.prog 25 1 kIs := Opn.imp id (opn_slice Tryd.underlying25 (by kernel_rfl) (by decide) op3) (fun _ _ _ h => kIs_of h)
theorem op24 : Opn Tryd.prog 24 1 kIss := Opn.imp id (opn_slice Tryd.underlying24 (by kernel_rfl) (by decide) op25) (fun _ _ _ h => kIss_of h)
end Go.Proofs.YtkamfnmbidnhdaaDoor
