/- A graph with its tables doubled, led to anew, and pairs in other orders: as a function of the bytes; it looks the same. No program in sight; no condition. -/
import Derived.Test.YtkamfnmbidnhdaaDoorSqAH
import Derived.Test.YtkamfnmbidnhdaaDoorSqAF
import Derived.Test.YtkamfnmbidnhdaaDoorSqAE
import Derived.Test.YtkamfnmbidnhdaaDoorSqAG
import Derived.Test.YtkamfnmbidnhdaaDoorSqAD
import Derived.Lib.Builder
import Derived.Lib.UnsafeStr
import Derived.Laws.Externs
import Derived.Test.YtkamfnmbidnhdaaDoorSqAC
import Derived.BigFrame
set_option linter.unusedVariables false
set_option linter.unusedSimpArgs false
set_option linter.unusedSectionVars false
namespace Go.Sy
set_option linter.unusedVariables false
def ledD (bs : List Int) (n w : Nat) (v : V) (s : DS) : V × DS := if v.k = 4 then (⟨v.k, v.n, v.s, v.a + ((n * (pk bs w s).1 : Nat) : Int)⟩, (pk bs w s).2) else (v, s)
def rwD (bs : List Int) (n w : Nat) : List Pr → DS → List Pr × DS
  | [], s => ([], s)
  | p :: r, s => (⟨p.key, (ledD bs n w p.val s).1⟩ :: (rwD bs n w r (ledD bs n w p.val s).2).1, (rwD bs n w r (ledD bs n w p.val s).2).2)
theorem rwD_snoc (bs : List Int) (n w : Nat) (p : Pr) : ∀ (l : List Pr) (s : DS), rwD bs n w (l ++ [p]) s = ((rwD bs n w l s).1 ++ [⟨p.key, (ledD bs n w p.val (rwD bs n w l s).2).1⟩], (ledD bs n w p.val (rwD bs n w l s).2).2)
  | [], s => rfl
  | q :: r, s => by
    rw [List.cons_append, rwD, rwD_snoc bs n w p r]
    rfl
theorem ledD_at (bs : List Int) (n w : Nat) (v : V) (s : DS) : s.1 ≤ (ledD bs n w v s).2.1 ∧ (ledD bs n w v s).2.1 ≤ s.1 + 2 := by
  unfold ledD
  split
  · exact pk_at bs w s
  · exact ⟨Nat.le_refl _, Nat.le_add_right _ _⟩
theorem rwD_at (bs : List Int) (n w : Nat) : ∀ (l : List Pr) (s : DS), s.1 ≤ (rwD bs n w l s).2.1 ∧ (rwD bs n w l s).2.1 ≤ s.1 + 2 * l.length
  | [], s => ⟨Nat.le_refl _, Nat.le_refl _⟩
  | p :: r, s => by
    have h1 := ledD_at bs n w p.val s
    have h2 := rwD_at bs n w r (ledD bs n w p.val s).2
    simp only [rwD, List.length_cons]
    omega
theorem rwD_len (bs : List Int) (n w : Nat) : ∀ (l : List Pr) (s : DS), (rwD bs n w l s).1.length = l.length
  | [], s => rfl
  | p :: r, s => by simp only [rwD, List.length_cons, rwD_len bs n w r]
/-- From the f-th on, and around. -/
def rotL (t : List Pr) (f : Nat) : List Pr := t.drop f ++ t.take f
theorem rot_len {t : List Pr} {f : Nat} (h : f ≤ t.length) : (rotL t f).length = t.length := by simp [rotL]; omega
theorem rot_get {t : List Pr} {f i : Nat} (hf : f < t.length ∨ (f = 0 ∧ t.length = 0)) (hi : i < t.length) : (rotL t f)[i]? = t[(f + i) % t.length]? := by
  unfold rotL
  have hf' : f < t.length := by omega
  by_cases h : i < t.length - f
  · rw [List.getElem?_append_left (by simp; omega), List.getElem?_drop, Nat.mod_eq_of_lt (by omega)]
  · rw [List.getElem?_append_right (by simp; omega), List.getElem?_take, if_pos (by simp; omega)]
    congr 1
    rw [Nat.mod_eq_sub_mod (by omega), Nat.mod_eq_of_lt (by omega)]
    simp; omega
theorem rot_perm (t : List Pr) (f : Nat) : (rotL t f).Perm t := by
  unfold rotL
  exact List.perm_append_comm.trans (by rw [List.take_append_drop])
def frD (bs : List Int) (t : List Pr) (s : DS) : Nat × DS := if t.length = 0 then (0, s) else pk bs t.length s
def rtD (bs : List Int) (n w : Nat) (t : List Pr) (s : DS) : List Pr × DS := rwD bs n w (rotL t (frD bs t s).1) (frD bs t s).2
def trD (bs : List Int) (n w : Nat) : List (List Pr) → DS → List (List Pr) × DS
  | [], s => ([], s)
  | t :: r, s => ((rtD bs n w t s).1 :: (trD bs n w r (rtD bs n w t s).2).1, (trD bs n w r (rtD bs n w t s).2).2)
theorem trD_snoc (bs : List Int) (n w : Nat) (t : List Pr) : ∀ (l : List (List Pr)) (s : DS), trD bs n w (l ++ [t]) s = ((trD bs n w l s).1 ++ [(rtD bs n w t (trD bs n w l s).2).1], (rtD bs n w t (trD bs n w l s).2).2)
  | [], s => rfl
  | q :: r, s => by
    rw [List.cons_append, trD, trD_snoc bs n w t r]
    rfl
theorem frD_ok (bs : List Int) (t : List Pr) (s : DS) : ((frD bs t s).1 < t.length ∨ ((frD bs t s).1 = 0 ∧ t.length = 0)) ∧ s.1 ≤ (frD bs t s).2.1 ∧ (frD bs t s).2.1 ≤ s.1 + 2 := by
  unfold frD
  split
  · rename_i h; exact ⟨.inr ⟨rfl, h⟩, Nat.le_refl _, Nat.le_add_right _ _⟩
  · exact ⟨.inl (pk_lt bs s (by omega)), pk_at bs _ s⟩
theorem rtD_at (bs : List Int) (n w : Nat) (t : List Pr) (s : DS) : s.1 ≤ (rtD bs n w t s).2.1 ∧ (rtD bs n w t s).2.1 ≤ s.1 + 2 + 2 * t.length := by
  obtain ⟨h0, h1, h2⟩ := frD_ok bs t s
  have h3 := rwD_at bs n w (rotL t (frD bs t s).1) (frD bs t s).2
  rw [rot_len (by omega)] at h3
  unfold rtD
  omega
theorem trD_at (bs : List Int) (n w : Nat) : ∀ (l : List (List Pr)) (s : DS), (∀ t ∈ l, t.length ≤ 100) → s.1 ≤ (trD bs n w l s).2.1 ∧ (trD bs n w l s).2.1 ≤ s.1 + 202 * l.length
  | [], s, _ => ⟨Nat.le_refl _, Nat.le_refl _⟩
  | t :: r, s, h => by
    have h1 := rtD_at bs n w t s
    have h2 := trD_at bs n w r (rtD bs n w t s).2 (fun x hx => h x (.tail _ hx))
    have h3 := h t (.head _)
    simp only [trD, List.length_cons]
    omega
def twD (n : Nat) : Nat := if 2 * n ≤ 200 then 2 else 1
def dupL (w : Nat) (ts : List (List Pr)) : List (List Pr) := if w = 2 then ts ++ ts else ts
/-- turned -/
def tuD (bs : List Int) (v : V) (ts : List (List Pr)) (s : DS) : (V × List (List Pr)) × DS :=
  ((( ledD bs ts.length (twD ts.length) v s).1, (trD bs ts.length (twD ts.length) (dupL (twD ts.length) ts) (ledD bs ts.length (twD ts.length) v s).2).1), (trD bs ts.length (twD ts.length) (dupL (twD ts.length) ts) (ledD bs ts.length (twD ts.length) v s).2).2)
/-! ### it looks the same -/
/-- x is y, led to anew. -/
def LR (n w : Nat) (x y : V) : Prop := x.k = y.k ∧ x.n = y.n ∧ x.s = y.s ∧ (y.k ≠ 4 → x.a = y.a) ∧ (y.k = 4 → ∃ c, c < w ∧ x.a = y.a + ((n * c : Nat) : Int))
theorem ledD_lr (bs : List Int) (n : Nat) {w : Nat} (hw : 0 < w) (v : V) (s : DS) : LR n w (ledD bs n w v s).1 v := by
  unfold ledD
  split
  · rename_i h4
    exact ⟨rfl, rfl, rfl, fun h => absurd h4 h, fun _ => ⟨(pk bs w s).1, pk_lt bs s hw, rfl⟩⟩
  · rename_i h4
    exact ⟨rfl, rfl, rfl, fun _ => rfl, fun h => absurd h h4⟩
theorem rwD_all2 (bs : List Int) (n : Nat) {w : Nat} (hw : 0 < w) : ∀ (l : List Pr) (s : DS), All2 (PR (LR n w)) (rwD bs n w l s).1 l
  | [], s => .nil
  | p :: r, s => .cons ⟨rfl, ledD_lr bs n hw p.val s⟩ (rwD_all2 bs n hw r _)
theorem trD_all2 (bs : List Int) (n : Nat) {w : Nat} (hw : 0 < w) : ∀ (l : List (List Pr)) (s : DS), All2 (fun x t => ∃ f, All2 (PR (LR n w)) x (rotL t f)) (trD bs n w l s).1 l
  | [], s => .nil
  | t :: r, s => .cons ⟨_, rwD_all2 bs n hw _ _⟩ (trD_all2 bs n hw r _)
theorem all2_keys {R : V → V → Prop} : ∀ {l m : List Pr}, All2 (PR R) l m → l.map Pr.key = m.map Pr.key
  | _, _, .nil => rfl
  | _, _, .cons h t => by rw [List.map_cons, List.map_cons, h.1, all2_keys t]
theorem all2_fnd {R : V → V → Prop} {k : V} : ∀ {l m : List Pr}, All2 (PR R) l m → (fndO l k = none ∧ fndO m k = none) ∨ ∃ x y, fndO l k = some x ∧ fndO m k = some y ∧ R x y
  | _, _, .nil => .inl ⟨rfl, rfl⟩
  | _, _, .cons (a := p) (b := q) h t => by
    unfold fndO
    rw [h.1]
    by_cases hk : vEq q.key k = true
    · rw [if_pos hk, if_pos hk]; exact .inr ⟨_, _, rfl, rfl, h.2⟩
    · rw [if_neg hk, if_neg hk]; exact all2_fnd t
/-- Tables that are others' with pairs in other orders and values led to anew: they look the same. -/
theorem beh_turn {ts us : List (List Pr)} {n w : Nat} (hn : ts.length = n) (hA : AllIn ts) (hK : ∀ t ∈ ts, (t.map Pr.key).Nodup) (hS : ∀ t ∈ ts, ∀ f, srt (rotL t f) = srt t)
    (hU : ∀ a c, a < n → c < w → ∃ f, All2 (PR (LR n w)) (tabA us (a + n * c)) (rotL (tabA ts a) f)) (hl : us.length = w * n) :
    ∀ (p : List V) (x y : V), LR n w x y → In n y → beh (us.map srt) p x = beh (ts.map srt) p y := by
  have hget : ∀ (l : List (List Pr)) (a : Nat), a < l.length → tabA (l.map srt) a = srt (tabA l a) := fun l a ha => by
    rw [tabA_get (by rw [List.length_map]; exact ha), tabA_get ha, List.getElem_map]
  have key : ∀ x y : V, LR n w x y → In n y → y.k = 4 → ∃ f, All2 (PR (LR n w)) (tabA us x.a.toNat) (rotL (tabA ts y.a.toNat) f) ∧ tabA (us.map srt) x.a.toNat = srt (tabA us x.a.toNat) ∧ tabA (ts.map srt) y.a.toNat = srt (tabA ts y.a.toNat) ∧ tabA ts y.a.toNat ∈ ts := fun x y h hy h4 => by
    obtain ⟨c, hc, e⟩ := h.2.2.2.2 h4
    have h1 := hy h4
    have e1 : x.a.toNat = y.a.toNat + n * c := by omega
    obtain ⟨f, hf⟩ := hU y.a.toNat c (by omega) hc
    have hlt : y.a.toNat + n * c < us.length := by
      rw [hl]
      have h2 : n * c ≤ n * (w - 1) := Nat.mul_le_mul_left _ (by omega)
      have h3 : n * (w - 1) + n = w * n := by
        obtain ⟨w', rfl⟩ : ∃ w', w = w' + 1 := ⟨w - 1, by omega⟩
        rw [Nat.add_sub_cancel, Nat.mul_comm, Nat.add_mul]; omega
      omega
    refine ⟨f, by rw [e1]; exact hf, hget us _ (by rw [e1]; exact hlt), hget ts _ (by omega), tabA_mem (by omega)⟩
  intro p
  induction p with
  | nil =>
    intro x y h hy
    by_cases h4 : y.k = 4
    · obtain ⟨f, h1, h2, h3, h5⟩ := key x y h hy h4
      have e : (srt (tabA us x.a.toNat)).map Pr.key = (srt (tabA ts y.a.toNat)).map Pr.key := by
        rw [srt_keys, all2_keys h1, ← srt_keys, hS _ h5 f]
      simp only [beh, if_pos h4, if_pos (h.1.trans h4), h2, h3, e]
    · have e : x = y := by
        obtain ⟨a1, a2, a3, a4, _⟩ := h
        have a5 := a4 h4
        cases x; cases y
        simp only at a1 a2 a3 a5
        rw [a1, a2, a3, a5]
      rw [e]; simp only [beh, if_neg h4]
  | cons k p ih =>
    intro x y h hy
    by_cases h4 : y.k = 4
    · obtain ⟨f, h1, h2, h3, h5⟩ := key x y h hy h4
      simp only [beh, if_pos h4, if_pos (h.1.trans h4), h2, h3]
      have hk1 := hK _ h5
      have hk2 : ((rotL (tabA ts y.a.toNat) f).map Pr.key).Nodup := ((rot_perm _ f).map _).nodup_iff.2 hk1
      have hk3 : ((tabA us x.a.toNat).map Pr.key).Nodup := by rw [all2_keys h1]; exact hk2
      have e1 : fndO (srt (tabA us x.a.toNat)) k = fndO (tabA us x.a.toNat) k := fnd_perm (srt_perm _) (((srt_perm _).map _).nodup_iff.2 hk3) k
      have e2 : fndO (srt (tabA ts y.a.toNat)) k = fndO (rotL (tabA ts y.a.toNat) f) k := fnd_perm ((srt_perm _).trans (rot_perm _ f).symm) (((srt_perm _).map _).nodup_iff.2 hk1) k
      rw [e1, e2]
      rcases all2_fnd (k := k) h1 with ⟨g1, g2⟩ | ⟨x', y', g1, g2, g3⟩
      · rw [g1, g2]; rfl
      · rw [g1, g2]
        obtain ⟨q, hq, _, rfl⟩ := fnd_mem g2
        exact ih x' q.val g3 (by have := hA _ h5 q ((rot_perm _ f).mem_iff.1 hq); rw [hn] at this; exact this)
    · have h4' : x.k ≠ 4 := fun e => h4 (h.1.symm.trans e)
      simp only [beh, if_neg h4, if_neg h4']
theorem twD_rng (n : Nat) : twD n = 2 ∨ twD n = 1 := by unfold twD; split <;> simp
theorem dupL_len (n : Nat) (ts : List (List Pr)) : (dupL (twD n) ts).length = twD n * ts.length := by
  unfold dupL
  rcases twD_rng n with h | h
  · rw [h]; simp; omega
  · rw [h]; simp
theorem dupL_at {n : Nat} {ts : List (List Pr)} {a c : Nat} (ha : a < ts.length) (hc : c < twD n) : tabA (dupL (twD n) ts) (a + ts.length * c) = tabA ts a := by
  unfold dupL tabA
  rcases twD_rng n with h | h
  · rw [h] at hc ⊢
    rw [if_pos rfl, List.getD_eq_getElem?_getD, List.getD_eq_getElem?_getD]
    by_cases h0 : c = 0
    · subst h0
      rw [Nat.mul_zero, Nat.add_zero, List.getElem?_append_left ha]
    · obtain rfl : c = 1 := by omega
      rw [Nat.mul_one, List.getElem?_append_right (by omega), Nat.add_sub_cancel]
  · rw [h] at hc ⊢
    obtain rfl : c = 0 := by omega
    rw [if_neg (by decide), Nat.mul_zero, Nat.add_zero]
theorem all2_tabA {R : List Pr → List Pr → Prop} {us l : List (List Pr)} (h : All2 R us l) {a : Nat} (ha : a < l.length) : R (tabA us a) (tabA l a) := by
  have := h.len
  rw [tabA_get (by omega), tabA_get ha]
  exact h.get a (by omega) ha
theorem tuD_beq (bs : List Int) {v : V} {ts : List (List Pr)} (s : DS) (hA : AllIn ts) (hv : In ts.length v) (hK : ∀ t ∈ ts, (t.map Pr.key).Nodup) (hS : ∀ t ∈ ts, ∀ f, srt (rotL t f) = srt t) :
    Beq ((tuD bs v ts s).1.2.map srt) (ts.map srt) (tuD bs v ts s).1.1 v := by
  have hw : 0 < twD ts.length := by rcases twD_rng ts.length with h | h <;> omega
  have h2 := trD_all2 bs ts.length hw (dupL (twD ts.length) ts) (ledD bs ts.length (twD ts.length) v s).2
  intro p
  refine beh_turn (n := ts.length) (w := twD ts.length) rfl hA hK hS (fun a c ha hc => ?_) (by rw [show (tuD bs v ts s).1.2.length = _ from h2.len, dupL_len]) p _ _ (ledD_lr bs ts.length hw v s) hv
  have hlt : a + ts.length * c < (dupL (twD ts.length) ts).length := by
    rw [dupL_len]
    have h3 : ts.length * c ≤ ts.length * (twD ts.length - 1) := Nat.mul_le_mul_left _ (by omega)
    have h4 : ts.length * (twD ts.length - 1) + ts.length = twD ts.length * ts.length := by
      rcases twD_rng ts.length with h | h <;> rw [h] <;> omega
    omega
  have h5 := all2_tabA h2 hlt
  rw [dupL_at ha hc] at h5
  exact h5
end Go.Sy
/- The walk by a symbolic frame: regions that draw their order; a late operation may hang on what is read first through others. -/
namespace Go.Sy
set_option linter.unusedVariables false
section
variable {P : Program} {md : Region.Mode} {ops : Array Oper} {pres : Nat → Bool} {C : World → Prop} {Q : Exit → Act → World → Prop}
theorem wpAnyC_firstD {Z : Act → World → Prop} {i : Nat} {oi : Oper} {v : Value} (D : List Nat) (hi : ops[i]? = some oi) (hsel : ∀ (j : Nat) (o : Oper) cs b, ops[j]? = some o → o.op ≠ .select cs b)
    (hpre : ∀ j, pres j = false → j < ops.size → j ∈ D) (hD : ∀ j ∈ D, ∃ oj, ops[j]? = some oj ∧ ∃ e ∈ oj.after, Region.binds md e = true ∧ (e.on = i ∨ e.on ∈ D)) : ∀ (fuel : Nat) (listed : Array Bool) (a : Act) (w : World),
    (∀ j ∈ D, listed.getD j true = false) →
    (∀ j oj, ops[j]? = some oj → j ≠ i → listed.getD j true = false → (∀ e ∈ oj.after, Region.binds md e = true → e.on ≠ i) → oi.apart ops oj = true) →
    i ∈ Region.ready md ops listed → C w → Still P ops C oi v a → wpAnyC P md ops pres C (nf Z) fuel (listed.setIfInBounds i true) (a.put oi.dst v) w → wpAnyC P md ops pres C (nf Z) (fuel + 1) listed a w := by
  intro fuel
  induction fuel with
  | zero =>
    intro listed a w hU hfree hr hC hy H
    refine ⟨fun h => (by rw [h] at hr; cases hr), fun j hj => ?_⟩
    by_cases hji : j = i
    · subst hji; exact hy.op hi hC ⟨fun _ => hC, H⟩
    · have := ready_mono hj hji
      rw [H.1] at this; cases this
  | succ fuel ih =>
    intro listed a w hU hfree hr hC hy H
    refine ⟨fun h => (by rw [h] at hr; cases hr), fun j hj => ?_⟩
    by_cases hji : j = i
    · subst hji; exact hy.op hi hC ⟨fun _ => hC, H⟩
    · have h1 := H.2 j (ready_mono hj hji)
      obtain ⟨hjun, oj, hoj, hall⟩ := mem_ready.1 hj
      have hunl : ∀ k, listed.getD k true = false → ∀ e ∈ oj.after, Region.binds md e = true → e.on ≠ k := fun k hk e he hb heq => by
        have h1 := hall e he hb
        rw [heq] at h1
        rcases Nat.lt_or_ge k listed.size with h' | h'
        · simp [h'] at hk h1; rw [hk] at h1; cases h1
        · simp [Array.getElem?_eq_none h'] at h1
      have hnot : ∀ e ∈ oj.after, Region.binds md e = true → e.on ≠ i := hunl i (mem_ready.1 hr).1
      have hjD : j ∉ D := fun hm => by
        obtain ⟨oj', hoj', e, he, hb, h⟩ := hD j hm
        rw [hoj] at hoj'
        obtain rfl := Option.some.inj hoj'
        rcases h with h | h
        · exact hnot e he hb h
        · exact hunl _ (hU _ h) e he hb rfl
      have hpj : pres j = true := by
        cases hp : pres j with
        | true => rfl
        | false => exact absurd (hpre j hp (Array.getElem?_eq_some_iff.1 hoj).1) hjD
      have hap := hfree j oj hoj hji hjun hnot
      have h2 := wpOp_keep hoj hap (fun cs b => hsel i oi cs b hi) hy (wpOp_put hoj hap (fun cs b => hsel j oj cs b hoj) h1)
      have hfree' : ∀ k ok, ops[k]? = some ok → k ≠ i → (listed.setIfInBounds j true).getD k true = false → (∀ e ∈ ok.after, Region.binds md e = true → e.on ≠ i) → oi.apart ops ok = true := fun k ok hk hki hun hno => by
        refine hfree k ok hk hki ?_ hno
        by_cases hjk : j = k
        · subst hjk; exact hjun
        · rw [getD_set_ne true hjk] at hun; exact hun
      have hU' : ∀ k ∈ D, (listed.setIfInBounds j true).getD k true = false := fun k hk => by
        rw [getD_set_ne true (fun e => hjD (by rw [e]; exact hk))]; exact hU k hk
      refine wpOp_mono (fun a' w' h3 => ?_) h2
      obtain ⟨h4, h5, h6⟩ := h3
      refine ⟨h5, ih (listed.setIfInBounds j true) a' w' hU' hfree' (ready_mono hr (Ne.symm hji)) (h5 hpj) h4 ?_⟩
      rw [Array.setIfInBounds_comm _ _ hji]
      exact h6
def downB (md : Region.Mode) (ops : Array Oper) (i : Nat) : List Nat :=
  (List.range ops.size).foldl (fun acc j => match ops[j]? with
    | some oj => if oj.after.any fun e => Region.binds md e && (e.on == i || acc.contains e.on) then j :: acc else acc
    | none => acc) []
def preD (md : Region.Mode) (ops : Array Oper) (pres : Nat → Bool) : List Nat → Array Bool → Bool
  | [], _ => true
  | i :: r, listed => (Region.ready md ops listed).contains i && Region.free md ops listed i &&
    ((List.range ops.size).all fun j => pres j || (downB md ops i).contains j) &&
    ((downB md ops i).all fun j => !listed.getD j true && match ops[j]? with
      | some oj => oj.after.any fun e => Region.binds md e && (e.on == i || (downB md ops i).contains e.on)
      | none => false) && preD md ops pres r (listed.setIfInBounds i true)
theorem wpAnyC_preDW {Z : Act → World → Prop} {l : List Oper} (hsel : Region.noSelect l.toArray = true) (π : List Nat) (lo : List Oper) (listed : Array Bool) (a : Act) (w : World) (fuel : Nat) (h : selE l π = some lo) (hB : preD md l.toArray pres π listed = true) (hC : C w)
    (H : wpStillC P l.toArray C (fun a' => wpAnyC P md l.toArray pres C (nf Z) fuel (lst π listed) a' w) lo a) : wpAnyC P md l.toArray pres C (nf Z) (fuel + π.length) listed a w := by
  induction π generalizing lo listed a with
  | nil => simp only [selE, Option.some.injEq] at h; subst h; exact H
  | cons i r ih =>
    simp only [selE] at h
    split at h
    · rename_i o ho
      split at h
      · rename_i x hx
        have e := Option.some.inj h; subst e
        rw [nth_eq] at ho
        have ho' : l.toArray[i]? = some o := by simpa using ho
        simp only [preD, Bool.and_eq_true] at hB
        obtain ⟨⟨⟨⟨hr, hf⟩, hp⟩, hdn⟩, hB'⟩ := hB
        have hpre : ∀ j, pres j = false → j < l.toArray.size → j ∈ downB md l.toArray i := fun j hpj hj => by
          have := List.all_eq_true.1 hp j (List.mem_range.2 hj)
          simp only [hpj, Bool.false_or] at this
          simpa using this
        have hdn' := List.all_eq_true.1 hdn
        have hD : ∀ j ∈ downB md l.toArray i, ∃ oj, l.toArray[j]? = some oj ∧ ∃ e ∈ oj.after, Region.binds md e = true ∧ (e.on = i ∨ e.on ∈ downB md l.toArray i) := fun j hj => by
          have := hdn' j hj
          simp only [Bool.and_eq_true] at this
          obtain ⟨_, h2⟩ := this
          cases hq : l.toArray[j]? with
          | none => rw [hq] at h2; cases h2
          | some oj =>
            rw [hq] at h2
            obtain ⟨e, he, hb⟩ := Array.any_eq_true'.1 h2
            simp only [Bool.and_eq_true, Bool.or_eq_true, beq_iff_eq] at hb
            exact ⟨oj, rfl, e, he, hb.1, hb.2.imp id fun h => by simpa using h⟩
        have hU : ∀ j ∈ downB md l.toArray i, listed.getD j true = false := fun j hj => by
          have := hdn' j hj
          simp only [Bool.and_eq_true] at this
          simpa using this.1
        have key : ∀ v, Still P l.toArray C o v a → wpStillC P l.toArray C (fun a' => wpAnyC P md l.toArray pres C (nf Z) fuel (lst r (listed.setIfInBounds i true)) a' w) x (a.put o.dst v) →
            wpAnyC P md l.toArray pres C (nf Z) (fuel + (r.length + 1)) listed a w := fun v hv hK => by
          refine wpAnyC_firstD (downB md l.toArray i) ho' (Region.noSelect_spec hsel) hpre hD (fuel + r.length) listed a w hU (Region.free_spec ho' hf) (by simpa using hr) hC hv ?_
          exact ih x _ _ hx hB' hK
        have H' : (if Region.wanted o (yielded l.toArray a.tmps) then _ else _) := H
        split at H'
        · rename_i hw
          obtain ⟨v, h1, h2⟩ := H'
          exact key v (.inl ⟨hw, h1⟩) h2
        · rename_i hw
          exact key undef (.inr ⟨by simpa using hw, rfl⟩) H'
      · cases h
    · cases h
end
section
variable {P : Program} {T : List (Nat × TI)} {F : Fr} {tm : Tm} {L : Lm} {u : Hp} {β : Nat → Nat} {a : Act} {w : World} {Q : Exit → Act → World → Prop}
theorem r_anyD {id : Nat} {l : List Oper} (π : List Nat) (late : List Nat) (u0 : Hp) (hu : Le u0 u) {lo : List Oper} {fuel : Nat} {listed : Array Bool} (hm : P.follows .mixedOrders = true) (hsel : Region.noSelect l.toArray = true) (hlo : selE l π = some lo)
    (hB : preD .any l.toArray (fun j => !late.contains j) π (Array.replicate l.length false) = true) (hf : l.length = fuel + π.length) (hl : lst π (Array.replicate l.length false) = listed) (hK : F.K = [])
    (h : ∀ β0, Run P (nf (fun a w => Cls F L u β0 w → Ex P l (fun j => !late.contains j) (Cls F L u0 β0) (Q .normal) fuel listed a w)) (fen F L β0) tm L u0 .still l lo) : St F tm L u (fun a w => (Code.region id l.toArray true).wp P Q a w) := by
  intro β a w hfe ht hd
  refine wp_mono (wp_region_any (Q := nf (Q .normal)) hm ?_) (fun e a w hq => by cases e <;> first | exact hq | exact hq.elim)
  have hd1 : Cls F L u β { w with drawn := w.drawn + 1 } := hd.drew
  have hd' : Cls F L u0 β { w with drawn := w.drawn + 1 } := hd1.weak hu
  have hfe' : Fence (fen F L β) L β := fun i hi => ⟨rfl, keysOf_get.1 hi⟩
  refine wpAny_of_C _ _ _ _ (pres := fun j => !late.contains j) (C := Cls F L u0 β) ?_
  have := h β β a _ hfe' ht hd'
  rw [show l.toArray.size = fuel + π.length by simpa using hf]
  subst hl
  have hrep : (Array.replicate (fuel + π.length) false) = Array.replicate l.length false := by rw [hf]
  rw [hrep]
  refine wpAnyC_preDW hsel π lo _ a _ fuel hlo hB hd' (wpStillC_imp (fun a' h' => h' _ hd' hd1) this)
theorem r_manyD {id : Nat} {l : List Oper} (π : List Nat) (late : List Nat) (u0 : Hp) (hu : Le u0 u) {lo : List Oper} {fuel : Nat} {lb : List Bool} (hm : P.follows .mixedOrders = true) (hsel : Region.noSelect l.toArray = true) (hlo : selE l π = some lo)
    (hB : preD .any l.toArray (fun j => !late.contains j) π (Array.replicate l.length false) = true) (hf : l.length = fuel + π.length) (hl : lsB π (falses l.length) = lb) (hK : F.K = [])
    (h : ∀ β0, Run P (nf (fun a w => Cls F L u β0 w → ExL P l (fun j => !late.contains j) (Cls F L u0 β0) (Q .normal) fuel lb a w)) (fen F L β0) tm L u0 .still l lo) : St F tm L u (fun a w => (Code.region id l.toArray true).wp P Q a w) :=
  r_anyD π late u0 hu hm hsel hlo hB hf (by rw [← hl, ← lsB_eq, falses_eq]; simp) hK h
end
end Go.Sy
/- The drawer's keys and values; a value led to anew. No condition. -/
namespace Go.Proofs.YtkamfnmbidnhdaaDoor
open Go.Sy
set_option maxRecDepth 100000
set_option maxHeartbeats 4000000
set_option linter.unusedVariables false
set_option linter.unusedSimpArgs false
theorem dkeyF (h : Hp) (pb : Nat) (A : Option Addr) (n c : Nat) (s : DS) (bs : List Int) (hX : Cx h pb A n bs) (hi : s.1 ≤ 700000000) :
    TriS Tryd.prog 127 [.v (pt0 pb)] [] (Wc h pb A n c s) (fun _ : Unit => .ag (kyD bs s).1.sv) (fun _ => []) (fun _ u' => u' = Wc h pb A n c (kyD bs s).2) := by
  have a1 := pk_at bs 4 s
  have c1 := pickF h pb A n c s bs 4 hX (by omega) (by omega)
  unfold kyD
  generalize pk bs 4 s = a at *
  dsimp only
  have c2 := pickF h pb A n c a.2 bs 2 hX (by omega) (by omega)
  have c3 := dtextF h pb A n c a.2 bs hX (by omega)
  have c4 := pickF h pb A n c a.2 bs 6 hX (by omega) (by omega)
  have a4 := pk_at bs 6 a.2
  have c5 := pickF h pb A n c a.2 bs 4 hX (by omega) (by omega)
  generalize pk bs 2 a.2 = y2 at *
  generalize txD bs a.2 = y3 at *
  generalize pk bs 6 a.2 = y4 at *
  generalize pk bs 4 a.2 = y5 at *
  have c6 := dwholeF h pb A n c y4.2 bs hX (by omega)
  have c7 := pickF h pb A n c y4.2 bs 4 hX (by omega) (by omega)
  generalize whl bs y4.2 = y6 at *
  generalize pk bs 4 y4.2 = y7 at *
  refine enterS Tryd.func127 rfl (n := 26) rfl rfl (fun k N => ?_)
  by_cases h0 : a.1 = 0
  · rw [if_pos h0]
    repeat' (first | (refine r_pure hT rfl rfl rfl rfl ?_) | (refine r_new hT rfl rfl rfl rfl ?_) | (refine r_write hT rfl rfl rfl ?_) | (refine r_nil ?_) | (refine q_nil ?_) | ((refine r_call c1 rfl rfl rfl rfl rfl (hC _ rfl) rfl rfl (fun y0 u1 hy => ?_) ; subst hy)) | ((refine r_call c2 rfl rfl rfl rfl rfl (hC _ rfl) rfl rfl (fun y0 u1 hy => ?_) ; subst hy)) | (refine r_build hT rfl rfl rfl (ps := [(0, .const (.int .i64 1)), (1, .tmp 8)]) rfl rfl rfl rfl rfl rfl ?_) | (refine r_arith rfl rfl rfl rfl rfl rfl rfl (by omega) ?_) | (with_reducible refine r_seq ?_) | (with_reducible refine x_then ?_) | (with_reducible refine r_region ?_) | (refine r_draw hM (by kernel_rfl) ?_) | (with_reducible refine r_skip ?_) | (with_reducible refine r_ret ?_) | (with_reducible refine x_then_ret ?_) | (with_reducible refine r_block ?_) | (with_reducible refine x_block ?_) | (with_reducible refine x_block_ret ?_) | (with_reducible refine r_exit ?_) | (with_reducible refine x_then_exit ?_) | (with_reducible refine x_block_here ?_) | (refine x_block_past rfl ?_) | (refine c_yes rfl (by omega) ?_) | (refine c_no rfl (by omega) ?_) | (refine c_no rfl (fun h => h rfl) ?_) | (refine r_cond_false rfl ?_) | (refine r_cond_true rfl ?_) | (refine r_cond_dec rfl (fun _ => ?_) (fun _ => ?_)) | (refine r_cond_true rfl ?_) | (refine r_cond_false rfl ?_) | (refine c_not rfl (fun _ => ?_) (fun _ => ?_)) | (refine r_off rfl rfl rfl ?_) | (refine q_guard rfl rfl (fun _ => ?_) (fun _ => ?_)) | (refine q_guardn rfl rfl (fun _ => ?_) (fun _ => ?_)))
    exact r_fin hT rfl () rfl rfl rfl trivial rfl rfl
  rw [if_neg h0]
  by_cases h1 : a.1 = 1
  · rw [if_pos h1]
    repeat' (first | (refine r_pure hT rfl rfl rfl rfl ?_) | (refine r_new hT rfl rfl rfl rfl ?_) | (refine r_write hT rfl rfl rfl ?_) | (refine r_nil ?_) | (refine q_nil ?_) | ((refine r_call c1 rfl rfl rfl rfl rfl (hC _ rfl) rfl rfl (fun y0 u1 hy => ?_) ; subst hy)) | ((refine r_call c3 rfl rfl rfl rfl rfl (hC _ rfl) rfl rfl (fun y0 u1 hy => ?_) ; subst hy)) | (refine r_build hT rfl rfl rfl (ps := [(0, .const (.int .i64 3)), (2, .tmp 13)]) rfl rfl rfl rfl rfl rfl ?_) | (refine r_arith rfl rfl rfl rfl rfl rfl rfl (by omega) ?_) | (with_reducible refine r_seq ?_) | (with_reducible refine x_then ?_) | (with_reducible refine r_region ?_) | (refine r_draw hM (by kernel_rfl) ?_) | (with_reducible refine r_skip ?_) | (with_reducible refine r_ret ?_) | (with_reducible refine x_then_ret ?_) | (with_reducible refine r_block ?_) | (with_reducible refine x_block ?_) | (with_reducible refine x_block_ret ?_) | (with_reducible refine r_exit ?_) | (with_reducible refine x_then_exit ?_) | (with_reducible refine x_block_here ?_) | (refine x_block_past rfl ?_) | (refine c_yes rfl (by omega) ?_) | (refine c_no rfl (by omega) ?_) | (refine c_no rfl (fun h => h rfl) ?_) | (refine r_cond_false rfl ?_) | (refine r_cond_true rfl ?_) | (refine r_cond_dec rfl (fun _ => ?_) (fun _ => ?_)) | (refine r_cond_true rfl ?_) | (refine r_cond_false rfl ?_) | (refine c_not rfl (fun _ => ?_) (fun _ => ?_)) | (refine r_off rfl rfl rfl ?_) | (refine q_guard rfl rfl (fun _ => ?_) (fun _ => ?_)) | (refine q_guardn rfl rfl (fun _ => ?_) (fun _ => ?_)))
    exact r_fin hT rfl () rfl rfl rfl trivial rfl rfl
  rw [if_neg h1]
  by_cases h2 : a.1 = 2
  · rw [if_pos h2]
    by_cases h3 : y4.1 = 0
    · rw [if_pos h3]
      repeat' (first | (refine r_pure hT rfl rfl rfl rfl ?_) | (refine r_new hT rfl rfl rfl rfl ?_) | (refine r_write hT rfl rfl rfl ?_) | (refine r_nil ?_) | (refine q_nil ?_) | ((refine r_call c1 rfl rfl rfl rfl rfl (hC _ rfl) rfl rfl (fun y0 u1 hy => ?_) ; subst hy)) | ((refine r_call c4 rfl rfl rfl rfl rfl (hC _ rfl) rfl rfl (fun y0 u1 hy => ?_) ; subst hy)) | ((refine r_call c6 rfl rfl rfl rfl rfl (hC _ rfl) rfl rfl (fun y0 u1 hy => ?_) ; subst hy)) | (refine r_build hT rfl rfl rfl (ps := [(0, .const (.int .i64 2)), (1, .tmp 21)]) rfl rfl rfl rfl rfl rfl ?_) | (refine r_arith rfl rfl rfl rfl rfl rfl rfl (by omega) ?_) | (with_reducible refine r_seq ?_) | (with_reducible refine x_then ?_) | (with_reducible refine r_region ?_) | (refine r_draw hM (by kernel_rfl) ?_) | (with_reducible refine r_skip ?_) | (with_reducible refine r_ret ?_) | (with_reducible refine x_then_ret ?_) | (with_reducible refine r_block ?_) | (with_reducible refine x_block ?_) | (with_reducible refine x_block_ret ?_) | (with_reducible refine r_exit ?_) | (with_reducible refine x_then_exit ?_) | (with_reducible refine x_block_here ?_) | (refine x_block_past rfl ?_) | (refine c_yes rfl (by omega) ?_) | (refine c_no rfl (by omega) ?_) | (refine c_no rfl (fun h => h rfl) ?_) | (refine r_cond_false rfl ?_) | (refine r_cond_true rfl ?_) | (refine r_cond_dec rfl (fun _ => ?_) (fun _ => ?_)) | (refine r_cond_true rfl ?_) | (refine r_cond_false rfl ?_) | (refine c_not rfl (fun _ => ?_) (fun _ => ?_)) | (refine r_off rfl rfl rfl ?_) | (refine q_guard rfl rfl (fun _ => ?_) (fun _ => ?_)) | (refine q_guardn rfl rfl (fun _ => ?_) (fun _ => ?_)))
      exact r_fin hT rfl () rfl rfl rfl trivial rfl rfl
    · rw [if_neg h3]
      repeat' (first | (refine r_pure hT rfl rfl rfl rfl ?_) | (refine r_new hT rfl rfl rfl rfl ?_) | (refine r_write hT rfl rfl rfl ?_) | (refine r_nil ?_) | (refine q_nil ?_) | ((refine r_call c1 rfl rfl rfl rfl rfl (hC _ rfl) rfl rfl (fun y0 u1 hy => ?_) ; subst hy)) | ((refine r_call c4 rfl rfl rfl rfl rfl (hC _ rfl) rfl rfl (fun y0 u1 hy => ?_) ; subst hy)) | ((refine r_call c7 rfl rfl rfl rfl rfl (hC _ rfl) rfl rfl (fun y0 u1 hy => ?_) ; subst hy)) | (refine r_build hT rfl rfl rfl (ps := [(0, .const (.int .i64 2)), (1, .tmp 24)]) rfl rfl rfl rfl rfl rfl ?_) | (refine r_arith rfl rfl rfl rfl rfl rfl rfl (by omega) ?_) | (with_reducible refine r_seq ?_) | (with_reducible refine x_then ?_) | (with_reducible refine r_region ?_) | (refine r_draw hM (by kernel_rfl) ?_) | (with_reducible refine r_skip ?_) | (with_reducible refine r_ret ?_) | (with_reducible refine x_then_ret ?_) | (with_reducible refine r_block ?_) | (with_reducible refine x_block ?_) | (with_reducible refine x_block_ret ?_) | (with_reducible refine r_exit ?_) | (with_reducible refine x_then_exit ?_) | (with_reducible refine x_block_here ?_) | (refine x_block_past rfl ?_) | (refine c_yes rfl (by omega) ?_) | (refine c_no rfl (by omega) ?_) | (refine c_no rfl (fun h => h rfl) ?_) | (refine r_cond_false rfl ?_) | (refine r_cond_true rfl ?_) | (refine r_cond_dec rfl (fun _ => ?_) (fun _ => ?_)) | (refine r_cond_true rfl ?_) | (refine r_cond_false rfl ?_) | (refine c_not rfl (fun _ => ?_) (fun _ => ?_)) | (refine r_off rfl rfl rfl ?_) | (refine q_guard rfl rfl (fun _ => ?_) (fun _ => ?_)) | (refine q_guardn rfl rfl (fun _ => ?_) (fun _ => ?_)))
      exact r_fin hT rfl () rfl rfl rfl trivial rfl rfl
  · rw [if_neg h2]
    repeat' (first | (refine r_pure hT rfl rfl rfl rfl ?_) | (refine r_new hT rfl rfl rfl rfl ?_) | (refine r_write hT rfl rfl rfl ?_) | (refine r_nil ?_) | (refine q_nil ?_) | ((refine r_call c1 rfl rfl rfl rfl rfl (hC _ rfl) rfl rfl (fun y0 u1 hy => ?_) ; subst hy)) | ((refine r_call c5 rfl rfl rfl rfl rfl (hC _ rfl) rfl rfl (fun y0 u1 hy => ?_) ; subst hy)) | (refine r_build hT rfl rfl rfl (ps := [(0, .const (.int .i64 2)), (1, .tmp 24)]) rfl rfl rfl rfl rfl rfl ?_) | (refine r_arith rfl rfl rfl rfl rfl rfl rfl (by omega) ?_) | (with_reducible refine r_seq ?_) | (with_reducible refine x_then ?_) | (with_reducible refine r_region ?_) | (refine r_draw hM (by kernel_rfl) ?_) | (with_reducible refine r_skip ?_) | (with_reducible refine r_ret ?_) | (with_reducible refine x_then_ret ?_) | (with_reducible refine r_block ?_) | (with_reducible refine x_block ?_) | (with_reducible refine x_block_ret ?_) | (with_reducible refine r_exit ?_) | (with_reducible refine x_then_exit ?_) | (with_reducible refine x_block_here ?_) | (refine x_block_past rfl ?_) | (refine c_yes rfl (by omega) ?_) | (refine c_no rfl (by omega) ?_) | (refine c_no rfl (fun h => h rfl) ?_) | (refine r_cond_false rfl ?_) | (refine r_cond_true rfl ?_) | (refine r_cond_dec rfl (fun _ => ?_) (fun _ => ?_)) | (refine r_cond_true rfl ?_) | (refine r_cond_false rfl ?_) | (refine c_not rfl (fun _ => ?_) (fun _ => ?_)) | (refine r_off rfl rfl rfl ?_) | (refine q_guard rfl rfl (fun _ => ?_) (fun _ => ?_)) | (refine q_guardn rfl rfl (fun _ => ?_) (fun _ => ?_)))
    exact r_fin hT rfl () rfl rfl rfl trivial rfl rfl
theorem dvalF (h : Hp) (pb : Nat) (A : Option Addr) (n c m : Nat) (s : DS) (bs : List Int) (hX : Cx h pb A n bs) (hi : s.1 ≤ 600000000) (hm : m ≤ 200) :
    TriS Tryd.prog 128 [.v (pt0 pb), .v (.int .i64 (m : Int))] [] (Wc h pb A n c s) (fun _ : Unit => .ag (vaD bs m s).1.sv) (fun _ => []) (fun _ u' => u' = Wc h pb A n c (vaD bs m s).2) := by
  have a1 := pk_at bs 3 s
  have c0 := dkeyF h pb A n c s bs hX (by omega)
  have c1 := pickF h pb A n c s bs 3 hX (by omega) (by omega)
  unfold vaD
  generalize pk bs 3 s = a at *
  dsimp only
  have c2 := dkeyF h pb A n c a.2 bs hX (by omega)
  have c3 := pickF h pb A n c a.2 bs m hX (by omega) (by omega)
  generalize kyD bs s = y0 at *
  generalize kyD bs a.2 = y2 at *
  generalize pk bs m a.2 = y3 at *
  refine enterS Tryd.func128 rfl (n := 18) rfl rfl (fun k N => ?_)
  by_cases h0 : m = 0
  · rw [if_pos h0]
    repeat' (first | (refine r_pure hT rfl rfl rfl rfl ?_) | (refine r_new hT rfl rfl rfl rfl ?_) | (refine r_write hT rfl rfl rfl ?_) | (refine r_nil ?_) | (refine q_nil ?_) | (refine q_guard rfl rfl (fun _ => ?_) (fun hx => absurd (by omega) hx)) | ((refine r_call c0 rfl rfl rfl rfl rfl (hC _ rfl) rfl rfl (fun y0 u1 hy => ?_) ; subst hy)) | (refine r_arith rfl rfl rfl rfl rfl rfl rfl (by omega) ?_) | (with_reducible refine r_seq ?_) | (with_reducible refine x_then ?_) | (with_reducible refine r_region ?_) | (refine r_draw hM (by kernel_rfl) ?_) | (with_reducible refine r_skip ?_) | (with_reducible refine r_ret ?_) | (with_reducible refine x_then_ret ?_) | (with_reducible refine r_block ?_) | (with_reducible refine x_block ?_) | (with_reducible refine x_block_ret ?_) | (with_reducible refine r_exit ?_) | (with_reducible refine x_then_exit ?_) | (with_reducible refine x_block_here ?_) | (refine x_block_past rfl ?_) | (refine c_yes rfl (by omega) ?_) | (refine c_no rfl (by omega) ?_) | (refine c_no rfl (fun h => h rfl) ?_) | (refine r_cond_false rfl ?_) | (refine r_cond_true rfl ?_) | (refine r_cond_dec rfl (fun _ => ?_) (fun _ => ?_)) | (refine r_cond_true rfl ?_) | (refine r_cond_false rfl ?_) | (refine c_not rfl (fun _ => ?_) (fun _ => ?_)) | (refine r_off rfl rfl rfl ?_))
    exact r_fin hT rfl () rfl rfl rfl trivial rfl rfl
  rw [if_neg h0]
  by_cases h1 : a.1 = 0
  · rw [if_pos h1]
    repeat' (first | (refine r_pure hT rfl rfl rfl rfl ?_) | (refine r_new hT rfl rfl rfl rfl ?_) | (refine r_write hT rfl rfl rfl ?_) | (refine r_nil ?_) | (refine q_nil ?_) | (refine q_guard rfl rfl (fun hx => absurd hx (by omega)) (fun _ => ?_)) | ((refine r_call c1 rfl rfl rfl rfl rfl (hC _ rfl) rfl rfl (fun y0 u1 hy => ?_) ; subst hy)) | ((refine r_call c2 rfl rfl rfl rfl rfl (hC _ rfl) rfl rfl (fun y0 u1 hy => ?_) ; subst hy)) | (refine r_arith rfl rfl rfl rfl rfl rfl rfl (by omega) ?_) | (with_reducible refine r_seq ?_) | (with_reducible refine x_then ?_) | (with_reducible refine r_region ?_) | (refine r_draw hM (by kernel_rfl) ?_) | (with_reducible refine r_skip ?_) | (with_reducible refine r_ret ?_) | (with_reducible refine x_then_ret ?_) | (with_reducible refine r_block ?_) | (with_reducible refine x_block ?_) | (with_reducible refine x_block_ret ?_) | (with_reducible refine r_exit ?_) | (with_reducible refine x_then_exit ?_) | (with_reducible refine x_block_here ?_) | (refine x_block_past rfl ?_) | (refine c_yes rfl (by omega) ?_) | (refine c_no rfl (by omega) ?_) | (refine c_no rfl (fun h => h rfl) ?_) | (refine r_cond_false rfl ?_) | (refine r_cond_true rfl ?_) | (refine r_cond_dec rfl (fun _ => ?_) (fun _ => ?_)) | (refine r_cond_true rfl ?_) | (refine r_cond_false rfl ?_) | (refine c_not rfl (fun _ => ?_) (fun _ => ?_)) | (refine r_off rfl rfl rfl ?_))
    exact r_fin hT rfl () rfl rfl rfl trivial rfl rfl
  · rw [if_neg h1]
    repeat' (first | (refine r_pure hT rfl rfl rfl rfl ?_) | (refine r_new hT rfl rfl rfl rfl ?_) | (refine r_write hT rfl rfl rfl ?_) | (refine r_nil ?_) | (refine q_nil ?_) | (refine q_guard rfl rfl (fun hx => absurd hx (by omega)) (fun _ => ?_)) | ((refine r_call c1 rfl rfl rfl rfl rfl (hC _ rfl) rfl rfl (fun y0 u1 hy => ?_) ; subst hy)) | ((refine r_call c3 rfl rfl rfl rfl rfl (hC _ rfl) rfl rfl (fun y0 u1 hy => ?_) ; subst hy)) | (refine r_build hT rfl rfl rfl (ps := [(0, .const (.int .i64 4)), (3, .tmp 16)]) rfl rfl rfl rfl rfl rfl ?_) | (refine r_arith rfl rfl rfl rfl rfl rfl rfl (by omega) ?_) | (with_reducible refine r_seq ?_) | (with_reducible refine x_then ?_) | (with_reducible refine r_region ?_) | (refine r_draw hM (by kernel_rfl) ?_) | (with_reducible refine r_skip ?_) | (with_reducible refine r_ret ?_) | (with_reducible refine x_then_ret ?_) | (with_reducible refine r_block ?_) | (with_reducible refine x_block ?_) | (with_reducible refine x_block_ret ?_) | (with_reducible refine r_exit ?_) | (with_reducible refine x_then_exit ?_) | (with_reducible refine x_block_here ?_) | (refine x_block_past rfl ?_) | (refine c_yes rfl (by omega) ?_) | (refine c_no rfl (by omega) ?_) | (refine c_no rfl (fun h => h rfl) ?_) | (refine r_cond_false rfl ?_) | (refine r_cond_true rfl ?_) | (refine r_cond_dec rfl (fun _ => ?_) (fun _ => ?_)) | (refine r_cond_true rfl ?_) | (refine r_cond_false rfl ?_) | (refine c_not rfl (fun _ => ?_) (fun _ => ?_)) | (refine r_off rfl rfl rfl ?_))
    exact r_fin hT rfl () rfl rfl rfl trivial rfl rfl
theorem dledF (h : Hp) (pb : Nat) (A : Option Addr) (n c m w : Nat) (v : V) (s : DS) (bs : List Int) (hX : Cx h pb A n bs) (hi : s.1 ≤ 600000000) (hm : m ≤ 200) (hw : w = 1 ∨ w = 2) (hv : v.k = 4 → 0 ≤ v.a ∧ v.a ≤ 1000000) :
    TriS Tryd.prog 131 [.v (pt0 pb), .ag v.sv, .v (.int .i64 (m : Int)), .v (.int .i64 (w : Int))] [] (Wc h pb A n c s) (fun _ : Unit => .ag (ledD bs m w v s).1.sv) (fun _ => []) (fun _ u' => u' = Wc h pb A n c (ledD bs m w v s).2) := by
  have c1 := pickF h pb A n c s bs w hX (by omega) (by omega)
  have l1 := pk_lt bs (k := w) s (by omega)
  unfold ledD
  generalize pk bs w s = y at *
  refine enterS Tryd.func131 rfl (n := 22) rfl rfl (fun k N => ?_)
  by_cases h4 : v.k = 4
  · rw [if_pos h4]
    have hva := hv h4
    have hmy : m * y.1 ≤ 400 := by
      have : y.1 ≤ 1 := by omega
      have := Nat.mul_le_mul_left m this
      omega
    have hmi : ((m * y.1 : Nat) : Int) = (m : Int) * (y.1 : Int) := by push_cast; rfl
    have hm0 : 0 ≤ (m : Int) * (y.1 : Int) ∧ (m : Int) * (y.1 : Int) ≤ 400 := by rw [← hmi]; omega
    rw [hmi]
    repeat' (first | (refine r_pure hT rfl rfl rfl rfl ?_) | (refine r_new hT rfl rfl rfl rfl ?_) | (refine r_write hT rfl rfl rfl ?_) | (refine r_nil ?_) | (refine q_nil ?_) | (refine c_yes rfl h4 ?_) | (refine r_many (id := 2) [0, 1, 2, 3, 4] [9] h (wc_le hX.hp s) hM (by kernel_rfl) rfl (by kernel_rfl) rfl rfl rfl (fun β0 => ?_)) | ((refine r_call c1 rfl rfl rfl rfl rfl (hC _ rfl) rfl rfl (fun y0 u1 hy => ?_) ; subst hy)) | (refine r_arith (c := (m : Int) * (y.1 : Int)) rfl rfl rfl rfl rfl rfl rfl (by omega) ?_) | (refine r_arith (c := v.a + (m : Int) * (y.1 : Int)) rfl rfl rfl rfl rfl rfl rfl (by omega) ?_) | (refine m_keep (wc_le hX.hp _) ⟨rfl, rfl, trivial⟩ rfl rfl ?_) | (refine m_late rfl rfl ?_) | (refine r_arith rfl rfl rfl rfl rfl rfl rfl (by omega) ?_) | (with_reducible refine r_seq ?_) | (with_reducible refine x_then ?_) | (with_reducible refine r_region ?_) | (with_reducible refine r_skip ?_) | (with_reducible refine r_ret ?_) | (with_reducible refine x_then_ret ?_) | (with_reducible refine r_block ?_) | (with_reducible refine x_block ?_) | (with_reducible refine x_block_ret ?_) | (with_reducible refine r_exit ?_) | (with_reducible refine x_then_exit ?_) | (with_reducible refine x_block_here ?_) | (refine x_block_past rfl ?_) | (refine c_yes rfl (by omega) ?_) | (refine c_no rfl (by omega) ?_) | (refine c_no rfl (fun h => h rfl) ?_) | (refine r_cond_false rfl ?_) | (refine r_cond_true rfl ?_) | (refine r_cond_dec rfl (fun _ => ?_) (fun _ => ?_)) | (refine r_cond_true rfl ?_) | (refine r_cond_false rfl ?_) | (refine c_not rfl (fun _ => ?_) (fun _ => ?_)) | (refine r_off rfl rfl rfl ?_) | (refine q_guard rfl rfl (fun _ => ?_) (fun _ => ?_)) | (refine q_guardn rfl rfl (fun _ => ?_) (fun _ => ?_)) | (refine s_nil ?_) | (with_reducible refine a_full ?_) | (refine m_step rfl rfl (List.cons_ne_nil _ _) ?_) | (refine allR_cons rfl ?_ ?_) | (exact allR_nil) | (refine m_end rfl rfl rfl ?_))
    exact r_fin hT rfl () rfl rfl rfl trivial rfl rfl
  · rw [if_neg h4]
    repeat' (first | (refine r_pure hT rfl rfl rfl rfl ?_) | (refine r_new hT rfl rfl rfl rfl ?_) | (refine r_write hT rfl rfl rfl ?_) | (refine r_nil ?_) | (refine q_nil ?_) | (refine c_no rfl h4 ?_) | (refine r_arith rfl rfl rfl rfl rfl rfl rfl (by omega) ?_) | (with_reducible refine r_seq ?_) | (with_reducible refine x_then ?_) | (with_reducible refine r_region ?_) | (with_reducible refine r_skip ?_) | (with_reducible refine r_ret ?_) | (with_reducible refine x_then_ret ?_) | (with_reducible refine r_block ?_) | (with_reducible refine x_block ?_) | (with_reducible refine x_block_ret ?_) | (with_reducible refine r_exit ?_) | (with_reducible refine x_then_exit ?_) | (with_reducible refine x_block_here ?_) | (refine x_block_past rfl ?_) | (refine c_yes rfl (by omega) ?_) | (refine c_no rfl (by omega) ?_) | (refine c_no rfl (fun h => h rfl) ?_) | (refine r_cond_false rfl ?_) | (refine r_cond_true rfl ?_) | (refine r_cond_dec rfl (fun _ => ?_) (fun _ => ?_)) | (refine r_cond_true rfl ?_) | (refine r_cond_false rfl ?_) | (refine c_not rfl (fun _ => ?_) (fun _ => ?_)) | (refine r_off rfl rfl rfl ?_) | (refine q_guard rfl rfl (fun _ => ?_) (fun _ => ?_)) | (refine q_guardn rfl rfl (fun _ => ?_) (fun _ => ?_)))
    exact r_fin hT rfl () rfl rfl rfl trivial rfl rfl
end Go.Proofs.YtkamfnmbidnhdaaDoor
/- The walk by a symbolic frame: what strings.Builder's own text does: pointers compared, turned to unsafe and back; a call of abi.NoEscape; its bytes as a text. -/
namespace Go.Sy
set_option linter.unusedVariables false
set_option linter.unusedSimpArgs false
section
variable {P : Program} {T : List (Nat × TI)} {F : Fr} {tm : Tm} {L : Lm} {u : Hp} {Q : Exit → Act → World → Prop}
theorem r_ptrnil {q : Md} {l : List Oper} {o : Oper} {r : List Oper} {d : Nat} {t t' : TypeId} {x y : Operand} {p : Option Addr} (hu : P.underlying t = some (.pointer (P.pointee t))) (hw : wantE l tm o = some true) (ho : o.dst = some d) (hn : Nat.blt d F.n.z = true) (hop : o.op = .binOp .eql t x y t')
    (hx : ev tm x = some (.v (.pointer p))) (hy : ev tm y = some (.v (.pointer none))) (next : Run P Q F ((d, .v (.bool p.isNone)) :: tm) L u q l r) : Run P Q F tm L u q l (o :: r) := by
  refine op_pure hw ho hn (fun β a w ht' hd => ⟨?_, rfl⟩) next
  have h1 : a.eval x = .pointer p := by rw [ev_ok ht' hx, SV.den]
  have h2 : a.eval y = .pointer none := by rw [ev_ok ht' hy, SV.den]
  simp [execOp, hop, h1, h2, eqGuard, binOp, run_equal_pointer_nil w t p hu, SV.den]
theorem r_ptrsame {q : Md} {l : List Oper} {o : Oper} {r : List Oper} {d : Nat} {t t' te : TypeId} {x y : Operand} {p : Addr} {j : TypeInfo} (hu : P.underlying t = some (.pointer te)) (hte : P.info? te = some j) (hw : wantE l tm o = some true) (ho : o.dst = some d) (hn : Nat.blt d F.n.z = true) (hop : o.op = .binOp .neq t x y t')
    (hx : ev tm x = some (.v (.pointer (some p)))) (hy : ev tm y = some (.v (.pointer (some p)))) (next : Run P Q F ((d, .v (.bool false)) :: tm) L u q l r) : Run P Q F tm L u q l (o :: r) := by
  refine op_pure hw ho hn (fun β a w ht' hd => ⟨?_, rfl⟩) next
  have h1 : a.eval x = .pointer (some p) := by rw [ev_ok ht' hx, SV.den]
  have h2 : a.eval y = .pointer (some p) := by rw [ev_ok ht' hy, SV.den]
  simp [execOp, hop, h1, h2, eqGuard, Lib.run_neq_ptr_same w p hu hte, SV.den]
theorem shape_of {w : World} {b : Nat} {arr : Array Value} {e : TypeId} {fr : Nat × Nat} (h : w.heap[b]? = some (.cells arr e fr)) : w.shape? b = some (e, arr.size) := by
  simp [World.shape?, h]
theorem r_tounsafe {q : Md} {l : List Oper} {o : Oper} {r : List Oper} {d : Nat} {t t' te e : TypeId} {x : Operand} {p : Addr} {j : TypeInfo} {arr : Array Value} {fr : Nat × Nat} (hs : P.underlying t = some (.pointer te)) (hd' : P.underlying t' = some .unsafePointer) (hte : P.info? te = some j) (hj : j.size ≠ 0)
    (hb : u p.block = some (.cells arr e fr)) (hoff : p.off < arr.size) (hw : wantE l tm o = some true) (ho : o.dst = some d) (hn : Nat.blt d F.n.z = true) (hop : o.op = .convert t t' x)
    (hx : ev tm x = some (.v (.pointer (some p)))) (next : Run P Q F ((d, .v (.pointer (some p))) :: tm) L u q l r) : Run P Q F tm L u q l (o :: r) := by
  refine op_pure hw ho hn (fun β a w ht' hd => ⟨?_, rfl⟩) next
  have h1 : a.eval x = .pointer (some p) := by rw [ev_ok ht' hx, SV.den]
  simp [execOp, hop, h1, Lib.run_to_unsafe w p hs hd' hte hj (shape_of (hd.ext _ _ hb).1) hoff, SV.den]
theorem r_fromunsafe {q : Md} {l : List Oper} {o : Oper} {r : List Oper} {d : Nat} {t t' te e : TypeId} {x : Operand} {p : Addr} {j : TypeInfo} {arr : Array Value} {fr : Nat × Nat} (hs : P.underlying t = some .unsafePointer) (hd' : P.underlying t' = some (.pointer te)) (hte : P.info? te = some j)
    (hb : u p.block = some (.cells arr e fr)) (hlies : liesAt P P.depth e (arr.size / P.cellsOf e) p.off te 1 = true) (hw : wantE l tm o = some true) (ho : o.dst = some d) (hn : Nat.blt d F.n.z = true) (hop : o.op = .convert t t' x)
    (hx : ev tm x = some (.v (.pointer (some p)))) (next : Run P Q F ((d, .v (.pointer (some p))) :: tm) L u q l r) : Run P Q F tm L u q l (o :: r) := by
  refine op_pure hw ho hn (fun β a w ht' hd => ⟨?_, rfl⟩) next
  have h1 : a.eval x = .pointer (some p) := by rw [ev_ok ht' hx, SV.den]
  simp [execOp, hop, h1, Lib.run_from_unsafe w p hs hd' hte (shape_of (hd.ext _ _ hb).1) hlies, SV.den]
/-- A call of abi.NoEscape: what it is handed. -/
theorem r_noescape {q : Md} {l : List Oper} {o : Oper} {r : List Oper} {d f : Nat} {tys : Array TypeId} {x : Operand} {fn : Func} {v : Value} (hf : P.funcs[f]? = some fn) (hname : (fn.name == "runtime.NumGoroutine") = false) (hb : fn.body.isNone = true) (hnx : Extern.findNext fn = none) (he : Extern.find fn = some Extern.AbiNoEscape.same)
    (hw : wantE l tm o = some true) (ho : o.dst = some d) (hn : Nat.blt d F.n.z = true) (hop : o.op = .call { callee := .value (.func f), args := #[x], argTypes := tys })
    (hx : ev tm x = some (.v v)) (next : Run P Q F ((d, .v v) :: tm) L u q l r) : Run P Q F tm L u q l (o :: r) := by
  refine op_pure hw ho hn (fun β a w ht' hd => ⟨?_, rfl⟩) next
  have h1 : a.eval x = v := by rw [ev_ok ht' hx, SV.den]
  have h2 := run_callFunc_extern (P := P) hf hname hb hnx he #[v] w
  rw [Lib.run_noEscape] at h2
  have h3 : a.eval (.func f) = .func (.func f) #[] #[] := rfl
  simp only [Result.andThen_ok] at h2
  simp [execOp, hop, h1, h3, resolve, Deferred.ofValue, invoke, h2, SV.den]
end
end Go.Sy
/- append, and that what it gives starts where its block does. -/
namespace Go.Sy
set_option linter.unusedSimpArgs false
set_option linter.unusedVariables false

def HdA (A : Option Addr) : Prop := ∀ a, A = some a → a.off = 0
section
variable {P : Program} {T : List (Nat × TI)} {F : Fr} {tm : Tm} {L : Lm} {u : Hp} {n : FN} {N : World} {β : Nat → Nat} {k : Hp} {a : Act} {w : World} {Q : Exit → Act → World → Prop}
theorem append_run0 (hT : TOK P T) (hd : Den β L u k N w) {t e : TypeId} {ti te : TI} (ht : kget T t = some ti) (hk : ti.kind = .slice e) (he : kget T e = some te) {A : Option Addr} {n c m : Nat} {cs news : List Value} {x : Value} {tx : TypeId} (ty : TypeId)
    (hO : Own u A n c e te.size cs) (hs : Src P te.size tx x m news w) (h1 : ∀ v ∈ news, one v = true) (hb : (n + m) * te.bytes ≤ 140737488355328) (h63 : ((n + m : Nat) : Int) ≤ 9223372036854775807) :
    ∃ A' c' u' w', (Builtin.append_ #[t, tx] ty #[.slice A n c, x]).run P w = .ok (.slice A' (n + m) c') w' ∧ Own u' A' (n + m) c' e te.size (cs ++ news) ∧ Grown u u' A A' ∧ Den β L u' k N w' ∧ (HdA A → HdA A') := by
  have hund := elem_of hT ht hk
  obtain ⟨i, z, hi, hsz, hby, hz, hzc, hzl⟩ := chk_info (hT e te he)
  rw [← hsz] at hs
  have hlen : (cs ++ news).length = (n + m) * te.size := by rw [List.length_append, hO.len, hs.newsLen, hsz, Nat.add_mul]
  by_cases hroom : n + m ≤ c
  · cases A with
    | none =>
      have h0 := hO.nil rfl
      obtain ⟨rfl, rfl, rfl⟩ : n = 0 ∧ m = 0 ∧ c = 0 := ⟨by omega, by omega, by omega⟩
      have e1 : cs = [] := List.length_eq_zero_iff.1 (by rw [hO.len]; simp)
      have e2 : news = [] := List.length_eq_zero_iff.1 (by rw [hs.newsLen]; simp)
      subst e1; subst e2
      refine ⟨none, 0, u, w, ?_, own_nil, fun h h1 h2 => ⟨h1, h2⟩, hd, fun h => h⟩
      rcases hs.kind with ⟨e', hk'⟩ | hk' <;> simp [Builtin.append_, run_und hund, run_und hk', sizeOf, typeInfo, hi, hs.len, hs.cells, program, Sem.run]
    | some ad =>
      obtain ⟨e1, arr, g1, g2, g3⟩ := hO.row ad rfl
      obtain ⟨b, o, sp⟩ := ad
      simp only at e1 g1 g2 g3; subst e1
      have hfit : o + n * te.size + 0 + news.length ≤ arr.size := by
        rw [hs.newsLen, hsz]
        have : (n + m) * te.size ≤ c * te.size := Nat.mul_le_mul_right _ hroom
        rw [Nat.add_mul] at this; omega
      obtain ⟨w', hst, hu⟩ := run_storeCells (P := P) (b := b) (o + n * te.size) news 0 w arr (hd.ext b _ g1).1 hfit h1
      simp only [Nat.add_zero] at hu
      refine ⟨some ⟨b, o, none⟩, c, _, w', ?_, ⟨hlen, hroom, fun h => by (cases h), fun a ha => ?_⟩, fun h h1 h2 => ⟨fun x y hx => ?_, h2⟩, den_ext_set hd g1 hu, fun h => h⟩
      · have hadd : (⟨b, o, none⟩ : Addr).add (n * te.size) = ⟨b, o + n * te.size, none⟩ := by simp only [Addr.add]; split <;> simp_all
        rw [← hsz] at hadd hst
        rcases hs.kind with ⟨e', hk'⟩ | hk' <;> simp [Builtin.append_, run_und hund, run_und hk', sizeOf, typeInfo, hi, hs.len, hroom, hs.cells, program, Sem.run, hadd, hst]
      · have e' := Option.some.inj ha; subst e'
        refine ⟨rfl, _, upd_here .., ?_, fun j v hj => ?_⟩
        · have : o + n * te.size + news.length ≤ arr.toList.length := by simpa using hfit
          have := setL_length arr.toList (o + n * te.size) news this
          simp only [List.size_toArray, this, Array.length_toList]; exact g2
        · simp only [List.getElem?_toArray]
          rw [setL_get _ _ _ (by simpa using hfit)]
          by_cases hjn : j < cs.length
          · rw [List.getElem?_append_left hjn] at hj
            rw [if_neg (by rw [hO.len] at hjn; omega)]
            simpa using g3 j v hj
          · rw [List.getElem?_append_right (by omega), hO.len] at hj
            have : j - n * te.size < news.length := (List.getElem?_eq_some_iff.1 hj).1
            rw [hO.len] at hjn
            rw [if_pos (by omega), show o + j - (o + n * te.size) = j - n * te.size by omega]; exact hj
      · have : x ≠ b := fun e => by subst e; rw [h2 x rfl] at hx; cases hx
        rw [upd_ne this]; exact h1 x y hx
  · have hcap : c < n + m := by omega
    have hold : (Builtin.firstCells i.size n (.slice A n c)).run P w.drew = .ok cs.toArray w.drew := by
      cases A with
      | none =>
        have h0 := hO.nil rfl
        have hn0 : n = 0 := by have := hO.cap; omega
        subst hn0
        have e1 : cs = [] := List.length_eq_zero_iff.1 (by rw [hO.len]; simp)
        subst e1
        exact run_firstCells_none _ _ _ _ _
      | some ad =>
        obtain ⟨e1, arr, g1, g2, g3⟩ := hO.row ad rfl
        obtain ⟨b, o, sp⟩ := ad
        simp only at e1 g1 g2 g3; subst e1
        refine run_firstCells_some _ _ _ _ _ _ _ (by rw [hO.len, hsz]) fun j v hj => ?_
        have : (⟨b, o, none⟩ : Addr).add j = ⟨b, o + j, none⟩ := by simp only [Addr.add]; split <;> simp_all
        rw [this]
        have hc := cell_of (w := w) (off := o + j) (hd.ext b _ g1).1
        have := g3 j v hj
        rw [this] at hc
        exact hc
    have hfit : Builtin.nextslicecap (n + m) c * i.bytes ≤ 281474976710656 := by rw [hby]; exact growslice_fits hcap hb
    have hrun := run_append_grow_src (P := P) w t tx ty e i z hund hi hz A n c cs hold x m news hs hcap h63 hfit
    have hge := grownCap_ge w (n + m) c e
    refine ⟨some ⟨w.heap.size, 0, none⟩, grownCap w (n + m) c e, upd u w.heap.size _, _, hrun, ⟨hlen, hge, fun h => by (cases h), fun a ha => ?_⟩, fun h h1 h2 => ⟨fun x y hx => ?_, fun b hb' => ?_⟩, den_ext_new hd rfl ⟨rfl, rfl, rfl, (by first | exact Nat.le_refl _ | exact Nat.le_succ _)⟩, fun _ a ha => by have e := Option.some.inj ha; rw [← e]⟩
    · have e' := Option.some.inj ha; subst e'
      refine ⟨rfl, _, upd_here .., ?_, fun j v hj => ?_⟩
      · rw [hzc]
        simp only [Array.size_append, List.size_toArray, hlen, zeroCells_size, Nat.zero_add]
        simp only [List.length_map, hzl]
        rw [← Nat.add_mul]
        exact Nat.le_of_eq (by congr 1; omega)
      · simp only [Nat.zero_add]
        have hj' := (List.getElem?_eq_some_iff.1 hj).1
        rw [Array.getElem?_append_left (by simpa using hj')]; simpa using hj
    · have : x ≠ w.heap.size := fun e => by subst e; have := h1 _ _ hx; rw [hd.fresh] at this; cases this
      rw [upd_ne this]; exact h1 x y hx
    · have e' := Option.some.inj hb'; subst e'
      cases hh : h w.heap.size with
      | none => rfl
      | some y => have := h1 _ _ hh; rw [hd.fresh] at this; cases this
end
section
variable {P : Program} {T : List (Nat × TI)} {F : Fr} {tm : Tm} {L : Lm} {u : Hp} {n : FN} {N : World} {β : Nat → Nat} {k : Hp} {a : Act} {w : World} {Q : Exit → Act → World → Prop}
/-- append(x, y...), y a text. -/
theorem r_append_str0 (hT : TOK P T) {l : List Oper} {o : Oper} {r : List Oper} {d : Nat} {t t2 e : TypeId} {ti te ti2 : TI} {x y : Operand} {A : Option Addr} {m c : Nat} {s : ByteArray} {cs : List Value}
    (hw : wantE l tm o = some true) (ho : o.dst = some d) (hn : Nat.blt d F.n.z = true) (hop : o.op = .call { callee := .builtin .append, args := #[x, y], argTypes := #[t, t2] })
    (ht : kget T t = some ti) (hk : ti.kind = .slice e) (he : kget T e = some te) (ht2 : kget T t2 = some ti2) (hk2 : ti2.kind = .str) (hs1 : te.size = 1) (hb1 : te.bytes = 1)
    (hx : ev tm x = some (.v (.slice A m c))) (hy : ev tm y = some (.v (.string s))) (hO : Own u A m c e 1 cs) (hb : m + s.size ≤ 140737488355328)
    (next : ∀ A' c' u', Own u' A' (m + s.size) c' e 1 (cs ++ byteCells s) → Grown u u' A A' → (HdA A → HdA A') → Run P Q F ((d, .v (.slice A' (m + s.size) c')) :: tm) L u' .seq l r) :
    Run P Q F tm L u .seq l (o :: r) := by
  refine op_any hw ho hn (fun β a w hf ht' hd => ?_)
  have hu2 : P.underlying t2 = some .string := by
    obtain ⟨d, hd, h⟩ := chk_desc (hT t2 ti2 ht2)
    rw [hk2] at h
    cases d <;> simp [kfits] at h
    exact hd
  obtain ⟨A', c', u', w', h1', h2', h3', h4', h5'⟩ := append_run0 (P := P) hT hd ht hk he (x := .string s) (tx := t2) (m := s.size) (news := byteCells s) o.type (by rw [hs1]; exact hO) (by rw [hs1]; exact Src.ofString w hu2 s)
    (fun v hv => by obtain ⟨_, _, rfl⟩ := List.mem_map.1 hv; rfl) (by rw [hb1]; omega) (by omega)
  rw [hs1] at h2'
  refine ⟨β, w', _, L, u', ?_, hf, ht', h4', rfl, next A' c' u' h2' h3' h5'⟩
  simp [execOp, hop, ev_ok ht' hx, ev_ok ht' hy, SV.den, resolve, invoke, builtin, h1']
end
end Go.Sy
/- The walk by a symbolic frame: a Builder's bytes taken as a text (unsafe.String): they are frozen. -/
namespace Go.Sy
set_option linter.unusedVariables false
set_option linter.unusedSimpArgs false
section
variable {P : Program} {T : List (Nat × TI)} {F : Fr} {tm : Tm} {L : Lm} {u : Hp} {Q : Exit → Act → World → Prop}
theorem r_sldata {q : Md} {l : List Oper} {o : Oper} {r : List Oper} {d : Nat} {tys : Array TypeId} {x : Operand} {a0 : Addr} {n c : Nat} (hc : c ≠ 0) (hw : wantE l tm o = some true) (ho : o.dst = some d) (hn : Nat.blt d F.n.z = true)
    (hop : o.op = .call { callee := .builtin .unsafeSliceData, args := #[x], argTypes := tys }) (hx : ev tm x = some (.v (.slice (some a0) n c))) (next : Run P Q F ((d, .v (.pointer (some a0))) :: tm) L u q l r) : Run P Q F tm L u q l (o :: r) := by
  refine op_pure hw ho hn (fun β a w ht' hd => ⟨?_, rfl⟩) next
  have h1 : a.eval x = .slice (some a0) n c := by rw [ev_ok ht' hx, SV.den]
  simp [execOp, hop, h1, resolve, invoke, builtin, Lib.run_unsafeSliceData_row w tys o.type a0 n c hc, SV.den]
theorem freeze_upd {w : World} {g n : Nat} {arr : Array Value} {e : TypeId} (hg : w.heap[g]? = some (.cells arr e (0, 0))) (hn : n ≠ 0) : Upd1 w (w.freeze ⟨g, 0, none⟩ n) g (.cells arr e (0, n)) := by
  have hlt := (Array.getElem?_eq_some_iff.1 hg).1
  have hge := (Array.getElem?_eq_some_iff.1 hg).2
  unfold World.freeze
  rw [if_neg hn]
  refine ⟨by simp, ?_, fun x hx => ?_, rfl, rfl, rfl, Nat.le_refl _⟩
  · simp [Array.getElem?_modify, hg]
  · show (w.heap.modify g _)[x]? = _
    rw [Array.getElem?_modify, if_neg (Ne.symm hx)]
theorem r_ustring {l : List Oper} {o : Oper} {r : List Oper} {d : Nat} {pt it e : TypeId} {x y : Operand} {g m c : Nat} {bs : List UInt8} (hp : P.underlying pt = some (.pointer e)) (hce : P.cellsOf e = 1) (h0 : bs ≠ []) (h63 : bs.length ≤ 9223372036854775807) (hm : m = bs.length)
    (hO : Own u (some ⟨g, 0, none⟩) m c e 1 (bs.flatMap bc1)) (hw : wantE l tm o = some true) (ho : o.dst = some d) (hn : Nat.blt d F.n.z = true) (hop : o.op = .call { callee := .builtin .unsafeString, args := #[x, y], argTypes := #[pt, it] })
    (hx : ev tm x = some (.v (.pointer (some ⟨g, 0, none⟩)))) (hy : ev tm y = some (.v (.int .i64 (m : Int)))) (next : ∀ u', (∀ z, z ≠ g → u' z = u z) → Run P Q F ((d, .v (.string ⟨bs.toArray⟩)) :: tm) L u' .seq l r) : Run P Q F tm L u .seq l (o :: r) := by
  subst hm
  obtain ⟨_, arr, g1, g2, g3⟩ := hO.row _ rfl
  simp only at g1 g2 g3
  have hl0 : bs.length ≠ 0 := by simpa using h0
  refine op_any hw ho hn (fun β a w hf ht' hd => ?_)
  have hg := (hd.ext g _ g1).1
  have h1 : a.eval x = .pointer (some ⟨g, 0, none⟩) := by rw [ev_ok ht' hx, SV.den]
  have h2 : a.eval y = .int .i64 (bs.length : Int) := by rw [ev_ok ht' hy, SV.den]
  have hcell : ∀ (j : Nat) (z : UInt8), bs[j]? = some z → w.cell? ((⟨g, 0, none⟩ : Addr).add j) = some (.int .u8 z.toNat) := fun j z hz => by
    have e1 : (⟨g, 0, none⟩ : Addr).add j = ⟨g, 0 + j, none⟩ := by simp only [Addr.add]; split <;> simp_all
    rw [e1, cell_of (w := w) (off := 0 + j) hg]
    exact g3 j _ (by rw [bc1_map, List.getElem?_map, hz]; rfl)
  have hrun := Lib.run_unsafeString_row (P := P) w pt it o.type e hp hce g arr.size (shape_of hg) bs h0 (by have := hO.cap; omega) h63 hcell
  refine ⟨β, w.freeze ⟨g, 0, none⟩ bs.length, .v (.string ⟨bs.toArray⟩), L, upd u g (.cells arr e (0, bs.length)), ?_, hf, ht', den_ext_set hd g1 (freeze_upd hg hl0), rfl, next _ (fun z hz => upd_ne hz)⟩
  simp [execOp, hop, h1, h2, resolve, invoke, builtin, hrun, SV.den]
end
end Go.Sy
