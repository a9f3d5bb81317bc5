/- A merge from the bottom up that asks, and may break off: the plain function. -/
import Derived.Test.YtkamfnmbidnhdaaDoorSyM
set_option linter.unusedVariables false
set_option linter.unusedSimpArgs false
set_option linter.unusedSectionVars false
namespace Go.Sy
/-- Two rows put together: what is asked; none: it broke off. -/
def mg (M : Int → Int → Int) (out a b : List Int) (q : List (Int × Int)) : List (Int × Int) × Option (List Int) :=
  match a, b with
  | [], b => (q, some (out ++ b))
  | x :: a, [] => (q, some (out ++ x :: a))
  | x :: a, y :: b => if M y x = 2 then (q ++ [(y, x)], none) else if M y x = 1 then mg M (out ++ [y]) (x :: a) b (q ++ [(y, x)]) else mg M (out ++ [x]) a (y :: b) (q ++ [(y, x)])
  termination_by a.length + b.length
def sl (l : List Int) (i j : Nat) : List Int := (l.drop i).take (j - i)
/-- From place i on, rows of s put together two by two. -/
def rd (M : Int → Int → Int) (s : Nat) (l out : List Int) (i : Nat) (q : List (Int × Int)) : List (Int × Int) × Option (List Int) :=
  if h : 0 < s ∧ i < l.length then
    match mg M out (sl l i (min (i + s) l.length)) (sl l (min (i + s) l.length) (min (min (i + s) l.length + s) l.length)) q with
    | (q', none) => (q', none)
    | (q', some out') => rd M s l out' (i + 2 * s) q'
  else (q, some out)
  termination_by l.length - i
/-- Rows of s, 2 s .. put together, as long as that is less than n. -/
def ps (M : Int → Int → Int) (n s : Nat) (l : List Int) (q : List (Int × Int)) : List (Int × Int) × Option (List Int) :=
  if h : 0 < s ∧ s < n then
    match rd M s l [] 0 q with
    | (q', none) => (q', none)
    | (q', some l') => ps M n (s * 2) l' q'
  else (q, some l)
  termination_by n - s
def upTo (n : Nat) : List Int := (List.range n).map fun i : Nat => (i : Int)
/-- What a sort answers. -/
def msort (M : Int → Int → Int) (n : Nat) : List (Int × Int) × Option (List Int) := ps M n 1 (upTo n) []
def Mof (ts : List (List Int)) (a b : Int) : Int := (ts.getD a.toNat []).getD b.toNat 0
theorem sl_len (l : List Int) (i j : Nat) (h : j ≤ l.length) : (sl l i j).length = j - i := by simp [sl]; omega
theorem mg_len (M : Int → Int → Int) : ∀ (out a b : List Int) (q : List (Int × Int)) {q' : List (Int × Int)} {l : List Int}, mg M out a b q = (q', some l) → l.length = out.length + a.length + b.length := by
  intro out a b q
  induction out, a, b, q using mg.induct (M := M) with
  | case1 out q b => intro q' l h; simp only [mg, Prod.mk.injEq, Option.some.injEq] at h; rw [← h.2]; simp
  | case2 out q x a => intro q' l h; simp only [mg, Prod.mk.injEq, Option.some.injEq] at h; rw [← h.2]; simp
  | case3 out q x a y b h2 => intro q' l h; rw [mg, if_pos h2] at h; simp at h
  | case4 out q x a y b h2 h1 ih => intro q' l h; rw [mg, if_neg h2, if_pos h1] at h; have := ih h; simp at this ⊢; omega
  | case5 out q x a y b h2 h1 ih => intro q' l h; rw [mg, if_neg h2, if_neg h1] at h; have := ih h; simp at this ⊢; omega
theorem mg_mem (M : Int → Int → Int) (p : Int → Prop) : ∀ (out a b : List Int) (q : List (Int × Int)) {q' : List (Int × Int)} {l : List Int}, mg M out a b q = (q', some l) → (∀ x ∈ out, p x) → (∀ x ∈ a, p x) → (∀ x ∈ b, p x) → ∀ x ∈ l, p x := by
  intro out a b q
  induction out, a, b, q using mg.induct (M := M) with
  | case1 out q b => intro q' l h h1 _ h3 x hx; simp only [mg, Prod.mk.injEq, Option.some.injEq] at h; rw [← h.2] at hx; rcases List.mem_append.1 hx with hx | hx; exact h1 x hx; exact h3 x hx
  | case2 out q x a => intro q' l h h1 h2 _ x hx; simp only [mg, Prod.mk.injEq, Option.some.injEq] at h; rw [← h.2] at hx; rcases List.mem_append.1 hx with hx | hx; exact h1 x hx; exact h2 x hx
  | case3 out q x a y b h2 => intro q' l h; rw [mg, if_pos h2] at h; simp at h
  | case4 out q x a y b h2 h1 ih =>
    intro q' l h k1 k2 k3
    rw [mg, if_neg h2, if_pos h1] at h
    exact ih h (fun z hz => by rcases List.mem_append.1 hz with hz | hz; exact k1 z hz; rw [List.mem_singleton] at hz; rw [hz]; exact k3 y (.head _)) k2 (fun z hz => k3 z (.tail _ hz))
  | case5 out q x a y b h2 h1 ih =>
    intro q' l h k1 k2 k3
    rw [mg, if_neg h2, if_neg h1] at h
    exact ih h (fun z hz => by rcases List.mem_append.1 hz with hz | hz; exact k1 z hz; rw [List.mem_singleton] at hz; rw [hz]; exact k2 x (.head _)) (fun z hz => k2 z (.tail _ hz)) k3
theorem sl_mem {l : List Int} {i j : Nat} {x : Int} (h : x ∈ sl l i j) : x ∈ l := List.mem_of_mem_drop (List.mem_of_mem_take h)
theorem rd_mem (M : Int → Int → Int) (p : Int → Prop) (s : Nat) (l : List Int) (hl : ∀ x ∈ l, p x) : ∀ (out : List Int) (i : Nat) (q : List (Int × Int)) {q' : List (Int × Int)} {l' : List Int}, rd M s l out i q = (q', some l') → (∀ x ∈ out, p x) → ∀ x ∈ l', p x := by
  intro out i q
  induction out, i, q using rd.induct (M := M) (s := s) (l := l) with
  | case1 out i q h q1 hm => intro q' l' hh; rw [rd, dif_pos h, hm] at hh; simp at hh
  | case2 out i q h q1 o1 hm ih => intro q' l' hh ho; rw [rd, dif_pos h, hm] at hh; exact ih hh (mg_mem M p _ _ _ _ hm ho (fun x hx => hl x (sl_mem hx)) (fun x hx => hl x (sl_mem hx)))
  | case3 out i q h => intro q' l' hh ho; rw [rd, dif_neg h] at hh; simp only [Prod.mk.injEq, Option.some.injEq] at hh; rw [← hh.2]; exact ho
theorem rd_len (M : Int → Int → Int) (s : Nat) (l : List Int) (hs : 0 < s) : ∀ (out : List Int) (i : Nat) (q : List (Int × Int)) {q' : List (Int × Int)} {l' : List Int}, rd M s l out i q = (q', some l') → out.length = min i l.length → l'.length = l.length := by
  intro out i q
  induction out, i, q using rd.induct (M := M) (s := s) (l := l) with
  | case1 out i q h q1 hm => intro q' l' hh; rw [rd, dif_pos h, hm] at hh; simp at hh
  | case2 out i q h q1 o1 hm ih =>
    intro q' l' hh ho
    rw [rd, dif_pos h, hm] at hh
    have h1 := mg_len M _ _ _ _ hm
    rw [sl_len _ _ _ (by omega), sl_len _ _ _ (by omega)] at h1
    exact ih hh (by omega)
  | case3 out i q h => intro q' l' hh ho; rw [rd, dif_neg h] at hh; simp only [Prod.mk.injEq, Option.some.injEq] at hh; rw [← hh.2]; omega
end Go.Sy
