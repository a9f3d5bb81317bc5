/- The classes of tables in plain words: texts of what a table looks like, and the rounds in which tables are told apart. No program in sight; no condition. -/
import Derived.Test.YtkamfnmbidnhdaaDoorSqAG
import Derived.Lib.ItoaNum
import Derived.Test.YtkamfnmbidnhdaaDoorSqAD
set_option linter.unusedVariables false
set_option linter.unusedSimpArgs false
set_option linter.unusedSectionVars false
namespace Go.Sy
open Go.Lib
set_option linter.unusedVariables false
/-! ### numbers in decimal are read back -/
theorem u8n (k : Nat) (h : k < 256) : (UInt8.ofNat k).toNat = k := by simp [Nat.mod_eq_of_lt h]
theorem dec_rng : ∀ (u : Nat), ∀ c ∈ decDigits u, 48 ≤ c.toNat ∧ c.toNat ≤ 57 := by
  intro u
  induction u using Nat.strongRecOn with
  | _ u ih =>
    intro c hc
    rw [decDigits] at hc
    split at hc
    · simp only [List.mem_singleton] at hc; subst hc
      rw [u8n _ (by omega)]; omega
    · rcases List.mem_append.1 hc with h | h
      · exact ih (u / 10) (by omega) c h
      · simp only [List.mem_singleton] at h; subst h
        rw [u8n _ (by omega)]; omega
def dval (l : List UInt8) : Nat := l.foldl (fun a c => a * 10 + (c.toNat - 48)) 0
theorem dval_dec : ∀ u : Nat, dval (decDigits u) = u := by
  intro u
  induction u using Nat.strongRecOn with
  | _ u ih =>
    rw [decDigits]
    split
    · simp only [dval, List.foldl_cons, List.foldl_nil]
      rw [u8n _ (by omega)]; omega
    · rename_i h
      have e := ih (u / 10) (by omega)
      unfold dval at e ⊢
      rw [List.foldl_append, e]
      simp only [List.foldl_cons, List.foldl_nil]
      rw [u8n _ (by omega)]; omega
theorem dec_inj {a b : Nat} (h : decDigits a = decDigits b) : a = b := by rw [← dval_dec a, ← dval_dec b, h]
theorem itoa_rng (n : Int) : ∀ c ∈ itoa n, c.toNat = 45 ∨ (48 ≤ c.toNat ∧ c.toNat ≤ 57) := by
  intro c hc
  unfold itoa at hc
  split at hc
  · rcases List.mem_cons.1 hc with h | h
    · subst h; exact .inl rfl
    · exact .inr (dec_rng _ c h)
  · exact .inr (dec_rng _ c hc)
theorem itoa_inj {a b : Int} (h : itoa a = itoa b) : a = b := by
  have hne : ∀ (u v : Nat), 45 :: decDigits u ≠ decDigits v := fun u v e => by
    have := dec_rng v 45 (by rw [← e]; exact .head _)
    exact absurd this.1 (by decide)
  unfold itoa at h
  split at h
  · split at h
    · have := dec_inj (List.cons.inj h).2; omega
    · exact absurd h (hne _ _)
  · split at h
    · exact absurd h.symm (hne _ _)
    · have := dec_inj h; omega
/-- Up to the first separator. -/
theorem sep_inj {p : UInt8 → Prop} : ∀ {a b r r' : List UInt8} {x y : UInt8}, (∀ c ∈ a, p c) → (∀ c ∈ b, p c) → ¬ p x → ¬ p y → a ++ x :: r = b ++ y :: r' → a = b ∧ x = y ∧ r = r'
  | [], [], r, r', x, y, _, _, _, _, h => by simp only [List.nil_append, List.cons.injEq] at h; exact ⟨rfl, h.1, h.2⟩
  | [], d :: b, r, r', x, y, _, hb, hx, _, h => by
    simp only [List.nil_append, List.cons_append, List.cons.injEq] at h
    exact absurd (h.1 ▸ hb d (.head _)) hx
  | c :: a, [], r, r', x, y, ha, _, _, hy, h => by
    simp only [List.nil_append, List.cons_append, List.cons.injEq] at h
    exact absurd (h.1 ▸ ha c (.head _)) hy
  | c :: a, d :: b, r, r', x, y, ha, hb, hx, hy, h => by
    simp only [List.cons_append, List.cons.injEq] at h
    obtain ⟨e1, e2, e3⟩ := sep_inj (fun z hz => ha z (.tail _ hz)) (fun z hz => hb z (.tail _ hz)) hx hy h.2
    exact ⟨by rw [h.1, e1], e2, e3⟩
def digP (c : UInt8) : Prop := c.toNat = 45 ∨ (48 ≤ c.toNat ∧ c.toNat ≤ 57)
theorem num_inj {a b : Int} {x : UInt8} {r r' : List UInt8} (hx : x = 44 ∨ x = 58) (h : itoa a ++ x :: r = itoa b ++ x :: r') : a = b ∧ r = r' := by
  have hn : ¬ digP x := by rcases hx with rfl | rfl <;> (unfold digP; decide)
  obtain ⟨h1, _, h2⟩ := sep_inj (p := digP) (itoa_rng a) (itoa_rng b) hn hn h
  exact ⟨itoa_inj h1, h2⟩
/-! ### the text of a value, of a table -/
def tx1 (v : V) : List UInt8 := itoa v.k ++ 44 :: (itoa v.n ++ 44 :: (itoa v.a ++ 44 :: (itoa (v.s.size : Int) ++ 58 :: v.s.data.toList)))
def tx2 (p : Pr) : List UInt8 := tx1 p.key ++ tx1 p.val
theorem bytes_ext {s t : ByteArray} (h : s.data.toList = t.data.toList) : s = t := by
  cases s; cases t
  simp only [ByteArray.mk.injEq]
  exact Array.toList_inj.1 h
theorem tx1_inj {v w : V} {r r' : List UInt8} (h : tx1 v ++ r = tx1 w ++ r') : v = w ∧ r = r' := by
  simp only [tx1, List.append_assoc, List.cons_append] at h
  obtain ⟨h1, h⟩ := num_inj (.inl rfl) h
  obtain ⟨h2, h⟩ := num_inj (.inl rfl) h
  obtain ⟨h3, h⟩ := num_inj (.inl rfl) h
  obtain ⟨h4, h⟩ := num_inj (.inr rfl) h
  have hl : v.s.data.toList.length = w.s.data.toList.length := by
    have : v.s.size = w.s.size := by omega
    exact (Array.length_toList).trans (this.trans (Array.length_toList).symm)
  obtain ⟨h5, h6⟩ := List.append_inj h hl
  refine ⟨?_, h6⟩
  cases v; cases w
  simp only at h1 h2 h3 h5
  rw [h1, h2, h3, bytes_ext h5]
theorem tx1_ne (v : V) : tx1 v ≠ [] := fun h => by
  unfold tx1 at h
  have := (List.append_eq_nil_iff.1 h).2
  cases this
theorem tx2_inj {p q : Pr} {r r' : List UInt8} (h : tx2 p ++ r = tx2 q ++ r') : p = q ∧ r = r' := by
  simp only [tx2, List.append_assoc] at h
  obtain ⟨h1, h⟩ := tx1_inj h
  obtain ⟨h2, h⟩ := tx1_inj h
  exact ⟨by cases p; cases q; simp only at h1 h2; rw [h1, h2], h⟩
theorem txs_inj : ∀ {l m : List Pr}, l.flatMap tx2 = m.flatMap tx2 → l = m
  | [], [], _ => rfl
  | [], q :: m, h => by
    simp only [List.flatMap_nil, List.flatMap_cons] at h
    have := (List.append_eq_nil_iff.1 h.symm).1
    exact absurd (List.append_eq_nil_iff.1 this).1 (tx1_ne _)
  | p :: l, [], h => by
    simp only [List.flatMap_nil, List.flatMap_cons] at h
    have := (List.append_eq_nil_iff.1 h).1
    exact absurd (List.append_eq_nil_iff.1 this).1 (tx1_ne _)
  | p :: l, q :: m, h => by
    simp only [List.flatMap_cons] at h
    obtain ⟨h1, h2⟩ := tx2_inj h
    rw [h1, txs_inj h2]
/-! ### what a table looks like -/
def lk (c : List Nat) (v : V) : V := if v.k = 4 then { v with a := (c.getD v.a.toNat 0 : Nat) } else v
def lookT (c : List Nat) (t : List Pr) : List Pr := t.map fun p => ⟨p.key, lk c p.val⟩
def keyS (c : List Nat) (t : List Pr) : List UInt8 := (lookT c t).flatMap tx2
theorem keyS_iff {c : List Nat} {t t' : List Pr} : keyS c t = keyS c t' ↔ lookT c t = lookT c t' := ⟨txs_inj, fun h => by unfold keyS; rw [h]⟩
def kss (st : List (List Pr)) (c : List Nat) : List (List UInt8) := st.map (keyS c)
/-- One round: of each table the first that looks like it. -/
def nxt (st : List (List Pr)) (c : List Nat) : List Nat := (kss st c).map fun k => (kss st c).idxOf k
theorem kss_len (st : List (List Pr)) (c : List Nat) : (kss st c).length = st.length := by simp [kss]
theorem nxt_len (st : List (List Pr)) (c : List Nat) : (nxt st c).length = st.length := by simp [nxt, kss]
def at0 (c : List Nat) (i : Nat) : Nat := c.getD i 0
theorem kss_get {st : List (List Pr)} {c : List Nat} {i : Nat} (h : i < st.length) : (kss st c)[i]'(by rw [kss_len]; exact h) = keyS c st[i] := by simp [kss]
theorem nxt_at {st : List (List Pr)} {c : List Nat} {i : Nat} (h : i < st.length) : at0 (nxt st c) i = (kss st c).idxOf ((kss st c)[i]'(by rw [kss_len]; exact h)) := by
  unfold at0 nxt
  rw [List.getD_eq_getElem?_getD, List.getElem?_map, List.getElem?_eq_getElem (by rw [kss_len]; exact h)]
  rfl
theorem idx_le {l : List (List UInt8)} {i : Nat} (h : i < l.length) : l.idxOf l[i] ≤ i := by
  rcases Nat.lt_or_ge i (l.idxOf l[i]) with h1 | h1
  · have := List.not_of_lt_findIdx (p := (· == l[i])) (xs := l) h1
    simp at this
  · exact h1
theorem idx_at {l : List (List UInt8)} {i : Nat} (h : i < l.length) : l[l.idxOf l[i]]'(Nat.lt_of_le_of_lt (idx_le h) h) = l[i] := by
  exact List.getElem_idxOf _
theorem nxt_iff {st : List (List Pr)} {c : List Nat} {i j : Nat} (hi : i < st.length) (hj : j < st.length) : at0 (nxt st c) i = at0 (nxt st c) j ↔ keyS c st[i] = keyS c st[j] := by
  rw [nxt_at hi, nxt_at hj, ← kss_get hi, ← kss_get hj]
  constructor
  · intro h
    have h1 := idx_at (l := kss st c) (by rw [kss_len]; exact hi)
    have h2 := idx_at (l := kss st c) (by rw [kss_len]; exact hj)
    rw [← h1, ← h2]
    congr 1
  · intro h; rw [h]
structure GoodC (n : Nat) (c : List Nat) : Prop where
  len : c.length = n
  le : ∀ i, i < n → at0 c i ≤ i
  idem : ∀ i, i < n → at0 c (at0 c i) = at0 c i
def Fine (st : List (List Pr)) (c : List Nat) : Prop := ∀ i j (hi : i < st.length) (hj : j < st.length), keyS c st[i] = keyS c st[j] → at0 c i = at0 c j
theorem good_nxt (st : List (List Pr)) (c : List Nat) : GoodC st.length (nxt st c) := by
  refine ⟨nxt_len st c, fun i hi => ?_, fun i hi => ?_⟩
  · rw [nxt_at hi]; exact idx_le _
  · have h1 : at0 (nxt st c) i ≤ i := by rw [nxt_at hi]; exact idx_le _
    have h2 : at0 (nxt st c) i < st.length := by omega
    rw [nxt_iff h2 hi, ← kss_get h2, ← kss_get hi]
    have h3 := idx_at (l := kss st c) (i := i) (by rw [kss_len]; exact hi)
    rw [← h3]
    congr 1
    rw [nxt_at hi]
/-- What one round tells apart is told apart in the next. -/
theorem nxt_finer {st : List (List Pr)} {c : List Nat} (hF : Fine st c) {i j : Nat} (hi : i < st.length) (hj : j < st.length) (h : at0 (nxt st c) i = at0 (nxt st c) j) : at0 c i = at0 c j :=
  hF i j hi hj ((nxt_iff hi hj).1 h)
theorem lk_mono {st : List (List Pr)} {c : List Nat} (hF : Fine st c) {v w : V} (hv : In st.length v) (hw : In st.length w) (h : lk (nxt st c) v = lk (nxt st c) w) : lk c v = lk c w := by
  have hk : v.k = w.k := by
    have := congrArg V.k h
    unfold lk at this
    split at this <;> split at this <;> exact this
  unfold lk at h ⊢
  by_cases h4 : v.k = 4
  · have h4' : w.k = 4 := hk ▸ h4
    rw [if_pos h4, if_pos h4'] at h ⊢
    have e1 := congrArg V.n h
    have e2 := congrArg V.s h
    have e3 := congrArg V.a h
    simp only at e1 e2 e3
    have hv' := hv h4
    have hw' := hw h4'
    have e4 := nxt_finer hF (i := v.a.toNat) (j := w.a.toNat) (by omega) (by omega) (by unfold at0; omega)
    unfold at0 at e4
    rw [hk, e1, e2, e4]
  · have h4' : w.k ≠ 4 := hk ▸ h4
    rw [if_neg h4, if_neg h4'] at h ⊢
    exact h
theorem look_mono {st : List (List Pr)} {c : List Nat} (hF : Fine st c) : ∀ {t t' : List Pr}, (∀ p ∈ t, In st.length p.val) → (∀ p ∈ t', In st.length p.val) → lookT (nxt st c) t = lookT (nxt st c) t' → lookT c t = lookT c t'
  | [], [], _, _, _ => rfl
  | [], q :: t', _, _, h => by simp [lookT] at h
  | p :: t, [], _, _, h => by simp [lookT] at h
  | p :: t, q :: t', h1, h2, h => by
    simp only [lookT, List.map_cons, List.cons.injEq, Pr.mk.injEq] at h
    have ih := look_mono hF (t := t) (t' := t') (fun x hx => h1 x (.tail _ hx)) (fun x hx => h2 x (.tail _ hx)) h.2
    simp only [lookT, List.map_cons, List.cons.injEq, Pr.mk.injEq]
    exact ⟨⟨h.1.1, lk_mono hF (h1 p (.head _)) (h2 q (.head _)) h.1.2⟩, ih⟩
theorem fine_nxt {st : List (List Pr)} {c : List Nat} (hA : AllIn st) (hF : Fine st c) : Fine st (nxt st c) := by
  intro i j hi hj h
  rw [nxt_iff hi hj]
  exact keyS_iff.2 (look_mono hF (hA _ (List.getElem_mem hi)) (hA _ (List.getElem_mem hj)) (keyS_iff.1 h))
/-- How many classes there are. -/
def cnt (n : Nat) (c : List Nat) : Nat := ((List.range n).filter fun i => at0 c i == i).length
theorem cnt_le (n : Nat) (c : List Nat) : cnt n c ≤ n := by
  have := List.length_filter_le (fun i => at0 c i == i) (List.range n)
  simpa [cnt] using this
theorem lead_up {st : List (List Pr)} {c : List Nat} (hG : GoodC st.length c) (hF : Fine st c) {i : Nat} (hi : i < st.length) (h : at0 c i = i) : at0 (nxt st c) i = i := by
  have g := good_nxt st c
  have h1 := g.le i hi
  have h2 := g.idem i hi
  have h3 := nxt_finer hF (i := at0 (nxt st c) i) (j := i) (by omega) hi h2
  have h4 := hG.le (at0 (nxt st c) i) (by omega)
  omega
theorem filter_len_le {p q : Nat → Bool} : ∀ (l : List Nat), (∀ i ∈ l, p i = true → q i = true) → (l.filter p).length ≤ (l.filter q).length ∧ ((l.filter p).length = (l.filter q).length → ∀ i ∈ l, q i = true → p i = true)
  | [], _ => ⟨Nat.le_refl _, fun _ i hi => by cases hi⟩
  | x :: r, h => by
    obtain ⟨h1, h2⟩ := filter_len_le r (fun i hi => h i (.tail _ hi))
    by_cases hp : p x = true
    · have hq := h x (.head _) hp
      simp only [List.filter_cons, if_pos hp, if_pos hq, List.length_cons]
      refine ⟨by omega, fun e i hi hqi => ?_⟩
      rcases List.mem_cons.1 hi with rfl | hi
      · exact hp
      · exact h2 (by omega) i hi hqi
    · by_cases hq : q x = true
      · simp only [List.filter_cons, if_neg hp, if_pos hq, List.length_cons]
        exact ⟨by omega, fun e => by omega⟩
      · simp only [List.filter_cons, if_neg hp, if_neg hq]
        refine ⟨h1, fun e i hi hqi => ?_⟩
        rcases List.mem_cons.1 hi with rfl | hi
        · exact absurd hqi hq
        · exact h2 e i hi hqi
theorem good_ext {n : Nat} {c d : List Nat} (hc : c.length = n) (hd : d.length = n) (h : ∀ i, i < n → at0 c i = at0 d i) : c = d := by
  refine List.ext_getElem (hc.trans hd.symm) fun i h1 h2 => ?_
  have := h i (hc ▸ h1)
  unfold at0 at this
  rw [List.getD_eq_getElem?_getD, List.getD_eq_getElem?_getD, List.getElem?_eq_getElem h1, List.getElem?_eq_getElem h2] at this
  exact this
theorem cnt_up {st : List (List Pr)} {c : List Nat} (hG : GoodC st.length c) (hF : Fine st c) : cnt st.length c ≤ cnt st.length (nxt st c) ∧ (cnt st.length (nxt st c) = cnt st.length c ↔ nxt st c = c) := by
  have key := filter_len_le (p := fun i => at0 c i == i) (q := fun i => at0 (nxt st c) i == i) (List.range st.length) (fun i hi h => by
    simp only [beq_iff_eq] at h ⊢
    exact lead_up hG hF (List.mem_range.1 hi) h)
  refine ⟨key.1, fun h => ?_, fun h => by rw [h]⟩
  refine good_ext (nxt_len st c) hG.len fun i hi => ?_
  have g := good_nxt st c
  have h1 := g.le i hi
  have h2 := g.idem i hi
  have h3 := key.2 h.symm (at0 (nxt st c) i) (List.mem_range.2 (by omega)) (by simpa using h2)
  simp only [beq_iff_eq] at h3
  have h4 := nxt_finer hF (i := at0 (nxt st c) i) (j := i) (by omega) hi h2
  omega
/-! ### the rounds -/
def rounds (st : List (List Pr)) : Nat → List Nat → List Nat
  | 0, c => c
  | f + 1, c => if nxt st c = c then c else rounds st f (nxt st c)
def cls (st : List (List Pr)) : List Nat := rounds st (st.length + 1) (List.replicate st.length 0)
structure Rch (st : List (List Pr)) (f : Nat) (c : List Nat) : Prop where
  good : GoodC st.length c
  fine : Fine st c
  fuel : st.length + 1 ≤ f + cnt st.length c
  same : cls st = rounds st f c
theorem at0_zero (n i : Nat) : at0 (List.replicate n 0) i = 0 := by
  unfold at0
  rw [List.getD_eq_getElem?_getD, List.getElem?_replicate]
  split <;> rfl
theorem rch_start (st : List (List Pr)) : Rch st (st.length + 1) (List.replicate st.length 0) :=
  ⟨⟨by simp, fun i hi => by rw [at0_zero]; omega, fun i hi => by rw [at0_zero, at0_zero]⟩, fun i j hi hj h => by rw [at0_zero, at0_zero], by omega, rfl⟩
theorem Rch.stop {st : List (List Pr)} {f : Nat} {c : List Nat} (h : Rch st f c) (e : nxt st c = c) : cls st = c := by
  rw [h.same]
  cases f with
  | zero => rfl
  | succ f => simp only [rounds, if_pos e]
theorem Rch.step {st : List (List Pr)} {f : Nat} {c : List Nat} (hA : AllIn st) (h : Rch st f c) (e : nxt st c ≠ c) : ∃ f', f = f' + 1 ∧ Rch st f' (nxt st c) := by
  have h1 := cnt_up h.good h.fine
  have h2 := cnt_le st.length (nxt st c)
  have h3 := h.fuel
  have h4 : cnt st.length (nxt st c) ≠ cnt st.length c := fun x => e (h1.2.1 x)
  obtain ⟨f', rfl⟩ : ∃ f', f = f' + 1 := ⟨f - 1, by omega⟩
  exact ⟨f', rfl, good_nxt st c, fine_nxt hA h.fine, by omega, by rw [h.same]; simp only [rounds, if_neg e]⟩
theorem cnt_zero {n : Nat} (h : n ≠ 0) : cnt n (List.replicate n 0) = 1 := by
  unfold cnt
  obtain ⟨m, rfl⟩ : ∃ m, n = m + 1 := ⟨n - 1, by omega⟩
  rw [List.range_succ_eq_map, List.filter_cons]
  simp only [at0_zero, beq_self_eq_true, if_true, List.length_cons]
  have : List.filter (fun i => (0 : Nat) == i) (List.map Nat.succ (List.range m)) = [] := by
    rw [List.filter_eq_nil_iff]
    intro a ha
    obtain ⟨b, _, rfl⟩ := List.mem_map.1 ha
    simp
  rw [this]; rfl
theorem Rch.cls_good {st : List (List Pr)} (hA : AllIn st) : ∀ {f : Nat} {c : List Nat}, Rch st f c → GoodC st.length (cls st) ∧ Fine st (cls st) ∧ nxt st (cls st) = cls st := by
  intro f
  induction f with
  | zero =>
    intro c h
    have h2 := cnt_le st.length c
    have h3 := h.fuel
    omega
  | succ f ih =>
    intro c h
    by_cases e : nxt st c = c
    · rw [h.stop e]; exact ⟨h.good, h.fine, e⟩
    · obtain ⟨f', e', h'⟩ := h.step hA e
      obtain rfl : f' = f := by omega
      exact ih h'
theorem cls_fix {st : List (List Pr)} (hA : AllIn st) : GoodC st.length (cls st) ∧ Fine st (cls st) ∧ nxt st (cls st) = cls st := (rch_start st).cls_good hA
theorem cls_len (st : List (List Pr)) (hA : AllIn st) : (cls st).length = st.length := (cls_fix hA).1.len
end Go.Sy
/- One round of telling tables apart: by a map of texts (the program), by comparing (the reference). Plain words; no condition. -/
namespace Go.Sy
open Go.Lib
set_option linter.unusedVariables false
def bs (l : List UInt8) : ByteArray := ⟨l.toArray⟩
theorem bs_inj {a b : List UInt8} (h : bs a = bs b) : a = b := by
  have := congrArg (fun s : ByteArray => s.data.toList) h
  simpa [bs] using this
/-- The map after i tables: of each text the first table that has it. -/
structure LM (ks : List (List UInt8)) (i : Nat) (m : List (ByteArray × Int)) : Prop where
  has : ∀ s, mhas m (bs s) = decide (s ∈ ks.take i)
  get : ∀ s, s ∈ ks.take i → mget m (bs s) = (ks.idxOf s : Nat)
  len : m.length = ((List.range i).filter fun j => ks.idxOf (ks.getD j []) == j).length
theorem LM.start (ks : List (List UInt8)) : LM ks 0 [] := ⟨fun s => by simp [mhas], fun s hs => by simp at hs, by simp⟩
theorem mhas_mem {m : List (ByteArray × Int)} {x : ByteArray} : mhas m x = true ↔ x ∈ m.map (·.1) := by
  unfold mhas
  rw [List.find?_isSome]
  constructor
  · rintro ⟨p, hp, h⟩
    rw [of_decide_eq_true h]
    exact List.mem_map_of_mem hp
  · intro h
    obtain ⟨p, hp, rfl⟩ := List.mem_map.1 h
    exact ⟨p, hp, by simp⟩
theorem idxOf_new {ks : List (List UInt8)} {i : Nat} (hi : i < ks.length) : ks.idxOf ks[i] = i ↔ ks[i] ∉ ks.take i := by
  constructor
  · intro h hm
    obtain ⟨j, hj, e⟩ := List.getElem_of_mem hm
    have hj' : j < i := by simp at hj; omega
    rw [List.getElem_take] at e
    have h1 := idx_le (l := ks) (i := j) (by omega)
    rw [e, h] at h1
    omega
  · intro h
    have h1 := idx_le hi
    rcases Nat.lt_or_ge (ks.idxOf ks[i]) i with h2 | h2
    · exfalso
      refine h ?_
      have h3 := idx_at hi
      rw [List.mem_take_iff_getElem]
      exact ⟨ks.idxOf ks[i], by omega, h3⟩
    · omega
theorem LM.old {ks : List (List UInt8)} {i : Nat} {m : List (ByteArray × Int)} (h : LM ks i m) (hi : i < ks.length) (hm : mhas m (bs ks[i]) = true) : LM ks (i + 1) m ∧ mget m (bs ks[i]) = (ks.idxOf ks[i] : Nat) := by
  have hin : ks[i] ∈ ks.take i := by rw [h.has] at hm; exact of_decide_eq_true hm
  have ht : ∀ s, s ∈ ks.take (i + 1) ↔ s ∈ ks.take i := fun s => by
    rw [List.take_add_one, List.getElem?_eq_getElem hi]
    simp only [Option.toList_some, List.mem_append, List.mem_singleton]
    exact ⟨fun h => h.elim id (fun e => e ▸ hin), .inl⟩
  refine ⟨⟨fun s => by rw [h.has, decide_eq_decide]; exact (ht s).symm, fun s hs => h.get s ((ht s).1 hs), ?_⟩, h.get _ hin⟩
  rw [h.len, List.range_succ, List.filter_append]
  have : ks.idxOf ks[i] ≠ i := fun e => (idxOf_new hi).1 e hin
  have e2 : ks.getD i [] = ks[i] := by rw [List.getD_eq_getElem?_getD, List.getElem?_eq_getElem hi]; rfl
  have e3 : (ks.idxOf (ks.getD i []) == i) = false := by rw [e2]; simpa using this
  simp only [List.filter_cons, List.filter_nil, e3]
  simp
theorem LM.new {ks : List (List UInt8)} {i : Nat} {m : List (ByteArray × Int)} (h : LM ks i m) (hi : i < ks.length) (hm : mhas m (bs ks[i]) = false) :
    LM ks (i + 1) (mset m (bs ks[i]) i) ∧ mget (mset m (bs ks[i]) i) (bs ks[i]) = (ks.idxOf ks[i] : Nat) := by
  have hin : ks[i] ∉ ks.take i := by rw [h.has] at hm; exact of_decide_eq_false hm
  have hidx := (idxOf_new hi).2 hin
  have ht : ∀ s, s ∈ ks.take (i + 1) ↔ s ∈ ks.take i ∨ s = ks[i] := fun s => by
    rw [List.take_add_one, List.getElem?_eq_getElem hi]
    simp only [Option.toList_some, List.mem_append, List.mem_singleton]
  have hg : mget (mset m (bs ks[i]) i) (bs ks[i]) = (ks.idxOf ks[i] : Nat) := by rw [mget_mset, if_pos rfl, hidx]
  refine ⟨⟨fun s => ?_, fun s hs => ?_, ?_⟩, hg⟩
  · rw [mhas_mset, h.has]
    rw [← Bool.decide_or, decide_eq_decide, ht]
    exact ⟨fun h => h.elim (fun e => .inr (bs_inj e)) .inl, fun h => h.elim .inr (fun e => .inl (by rw [e]))⟩
  · by_cases e : s = ks[i]
    · subst e; exact hg
    · rw [mget_mset, if_neg (fun x => e (bs_inj x))]
      exact h.get s (((ht s).1 hs).resolve_right e)
  · have hk : bs ks[i] ∉ m.map (·.1) := fun x => by rw [mhas_mem.2 x] at hm; cases hm
    rw [mset_length, if_neg hk, h.len, List.range_succ, List.filter_append]
    have e2 : ks.getD i [] = ks[i] := by rw [List.getD_eq_getElem?_getD, List.getElem?_eq_getElem hi]; rfl
    have e3 : (ks.idxOf (ks.getD i []) == i) = true := by rw [e2]; simpa using hidx
    simp only [List.filter_cons, List.filter_nil, e3]
    simp
theorem LM.count {st : List (List Pr)} {c : List Nat} {m : List (ByteArray × Int)} (h : LM (kss st c) st.length m) : m.length = cnt st.length (nxt st c) := by
  rw [h.len]
  unfold cnt
  congr 1
  refine List.filter_congr fun j hj => ?_
  have hj' := List.mem_range.1 hj
  rw [nxt_at hj']
  congr 2
  rw [List.getD_eq_getElem?_getD, List.getElem?_eq_getElem (by rw [kss_len]; exact hj')]
  rfl
/-! ### by comparing -/
def vEq (v w : V) : Bool := decide (v.k = w.k) && decide (v.n = w.n) && decide (v.s = w.s) && decide (v.a = w.a)
theorem vEq_iff {v w : V} : vEq v w = true ↔ v = w := by
  simp only [vEq, Bool.and_eq_true, decide_eq_true_eq]
  constructor
  · rintro ⟨⟨⟨h1, h2⟩, h3⟩, h4⟩; cases v; cases w; simp only at h1 h2 h3 h4; rw [h1, h2, h3, h4]
  · rintro rfl; exact ⟨⟨⟨rfl, rfl⟩, rfl⟩, rfl⟩
theorem vEq_dec {v w : V} {i : Decidable (v = w)} : @decide (v = w) i = vEq v w := by
  by_cases h : v = w
  · rw [decide_eq_true h, vEq_iff.2 h]
  · rw [decide_eq_false h]
    cases e : vEq v w with
    | false => rfl
    | true => exact absurd (vEq_iff.1 e) h
/-- A table's value is in its one form. -/
def Tv (v : V) : Prop := v.k = 4 → v.n = 0 ∧ v.s.data.toList = []
def alike (c : List Nat) (v w : V) : Bool := if v.k = w.k then (if v.k = 4 then decide (at0 c v.a.toNat = at0 c w.a.toNat) else vEq v w) else false
theorem alike_lk {c : List Nat} {v w : V} (hv : Tv v) (hw : Tv w) : alike c v w = true ↔ lk c v = lk c w := by
  unfold alike lk
  by_cases h1 : v.k = w.k
  · rw [if_pos h1]
    by_cases h4 : v.k = 4
    · have h4' : w.k = 4 := h1 ▸ h4
      rw [if_pos h4, if_pos h4, if_pos h4', decide_eq_true_eq]
      unfold at0
      obtain ⟨a1, a2⟩ := hv h4
      obtain ⟨b1, b2⟩ := hw h4'
      constructor
      · intro h
        cases v; cases w
        simp only at h1 a1 a2 b1 b2 h ⊢
        rw [h1, a1, b1, h, bytes_ext (a2.trans b2.symm)]
      · intro h
        have := congrArg V.a h
        simp only at this
        omega
    · have h4' : w.k ≠ 4 := h1 ▸ h4
      rw [if_neg h4, if_neg h4, if_neg h4', vEq_iff]
  · rw [if_neg h1]
    constructor
    · intro h; cases h
    · intro h
      have := congrArg V.k h
      split at this <;> split at this <;> exact absurd this h1
def looksB (c : List Nat) : List Pr → List Pr → Bool
  | [], [] => true
  | [], _ :: _ => false
  | _ :: _, [] => false
  | p :: t, q :: t' => vEq p.key q.key && alike c p.val q.val && looksB c t t'
theorem looksB_iff {c : List Nat} : ∀ {t t' : List Pr}, (∀ p ∈ t, Tv p.val) → (∀ p ∈ t', Tv p.val) → (looksB c t t' = true ↔ lookT c t = lookT c t')
  | [], [], _, _ => by simp [looksB, lookT]
  | [], q :: t', _, _ => by simp [looksB, lookT]
  | p :: t, [], _, _ => by simp [looksB, lookT]
  | p :: t, q :: t', h1, h2 => by
    have ih := looksB_iff (c := c) (t := t) (t' := t') (fun x hx => h1 x (.tail _ hx)) (fun x hx => h2 x (.tail _ hx))
    simp only [looksB, Bool.and_eq_true, vEq_iff, alike_lk (h1 p (.head _)) (h2 q (.head _)), ih]
    simp only [lookT, List.map_cons, List.cons.injEq, Pr.mk.injEq]
theorem looks_key {c : List Nat} {t t' : List Pr} (h1 : ∀ p ∈ t, Tv p.val) (h2 : ∀ p ∈ t', Tv p.val) : looksB c t t' = decide (keyS c t = keyS c t') := by
  have := looksB_iff (c := c) h1 h2
  rw [← keyS_iff] at this
  by_cases h : keyS c t = keyS c t'
  · rw [this.2 h]; simp [h]
  · cases hb : looksB c t t' with
    | false => simp [h]
    | true => exact absurd (this.1 hb) h
/-- What stands at place i while the tables before it are gone through from behind, down to k. -/
def Mid (st : List (List Pr)) (c : List Nat) (i k x : Nat) : Prop := x = at0 (nxt st c) i ∨ (x = i ∧ ∀ j (hj : j < st.length) (hi : i < st.length), k ≤ j → j < i → keyS c st[j] ≠ keyS c st[i])
theorem Mid.start (st : List (List Pr)) (c : List Nat) (i : Nat) : Mid st c i i i := .inr ⟨rfl, fun j _ _ h1 h2 => by omega⟩
theorem Mid.hit {st : List (List Pr)} {c : List Nat} {i k x : Nat} (hi : i < st.length) (hk : k < i) (e : keyS c (st[k]'(by omega)) = keyS c st[i]) : Mid st c i k (at0 (nxt st c) k) := .inl ((nxt_iff (by omega) hi).2 e)
theorem Mid.miss {st : List (List Pr)} {c : List Nat} {i k x : Nat} (h : Mid st c i (k + 1) x) (hi : i < st.length) (hk : k < i) (e : keyS c (st[k]'(by omega)) ≠ keyS c st[i]) : Mid st c i k x := by
  rcases h with h | ⟨h1, h2⟩
  · exact .inl h
  · refine .inr ⟨h1, fun j hj hi' h3 h4 => ?_⟩
    by_cases hjk : j = k
    · subst hjk; exact e
    · exact h2 j hj hi' (by omega) h4
theorem Mid.fin {st : List (List Pr)} {c : List Nat} {i x : Nat} (h : Mid st c i 0 x) (hi : i < st.length) : x = at0 (nxt st c) i := by
  rcases h with h | ⟨h1, h2⟩
  · exact h
  · have g := (good_nxt st c).le i hi
    have g2 := (good_nxt st c).idem i hi
    rcases Nat.lt_or_ge (at0 (nxt st c) i) i with h3 | h3
    · exact absurd ((nxt_iff (by omega) hi).1 g2) (h2 _ (by omega) hi (Nat.zero_le _) h3)
    · omega
end Go.Sy
/- The classes of the tables of rings, in plain words. No program in sight; no condition. -/
namespace Go.Sy
set_option linter.unusedVariables false
def tb (x : Nat) : V := ⟨4, 0, ⟨#[]⟩, (x : Int)⟩
theorem lk_tb (c : List Nat) (x : Nat) : lk c (tb x) = tb (at0 c x) := by
  unfold lk at0
  rw [if_pos (show (tb x).k = 4 from rfl)]
  simp only [tb]
  have : ((x : Nat) : Int).toNat = x := by omega
  rw [this]
end Go.Sy
/- What can be seen of a value of a graph along paths of keys: the classes tell apart just what looks otherwise; classes taken and tables numbered anew leave what can be seen, and what comes of that hangs on what can be seen alone. No program in sight; no condition. -/
namespace Go.Sy
set_option linter.unusedVariables false
set_option linter.unusedSimpArgs false
def tabA (ts : List (List Pr)) (a : Nat) : List Pr := ts.getD a []
theorem tabA_get {ts : List (List Pr)} {a : Nat} (h : a < ts.length) : tabA ts a = ts[a] := by
  unfold tabA
  rw [List.getD_eq_getElem?_getD, List.getElem?_eq_getElem h]; rfl
theorem tabA_mem {ts : List (List Pr)} {a : Nat} (h : a < ts.length) : tabA ts a ∈ ts := by rw [tabA_get h]; exact List.getElem_mem h
def fndO : List Pr → V → Option V
  | [], _ => none
  | p :: r, k => if vEq p.key k = true then some p.val else fndO r k
theorem fnd_mem : ∀ {t : List Pr} {k x : V}, fndO t k = some x → ∃ p ∈ t, p.key = k ∧ p.val = x
  | [], k, x, h => by simp [fndO] at h
  | p :: r, k, x, h => by
    unfold fndO at h
    by_cases hk : vEq p.key k = true
    · rw [if_pos hk] at h
      exact ⟨p, .head _, vEq_iff.1 hk, Option.some.inj h⟩
    · rw [if_neg hk] at h
      obtain ⟨q, hq, e⟩ := fnd_mem h
      exact ⟨q, .tail _ hq, e⟩
theorem fnd_of : ∀ {t : List Pr} {p : Pr}, (t.map Pr.key).Nodup → p ∈ t → fndO t p.key = some p.val
  | q :: r, p, hn, hp => by
    rw [List.map_cons, List.nodup_cons] at hn
    unfold fndO
    rcases List.mem_cons.1 hp with rfl | hp
    · rw [if_pos (vEq_iff.2 rfl)]
    · rw [if_neg (fun e => hn.1 (by rw [vEq_iff.1 e]; exact List.mem_map_of_mem hp))]
      exact fnd_of hn.2 hp
theorem fnd_iff {t : List Pr} (hn : (t.map Pr.key).Nodup) {k x : V} : fndO t k = some x ↔ (⟨k, x⟩ : Pr) ∈ t :=
  ⟨fun h => by obtain ⟨p, hp, rfl, rfl⟩ := fnd_mem h; exact hp, fun h => fnd_of hn h⟩
theorem fnd_perm {t t' : List Pr} (h : t.Perm t') (hn : (t.map Pr.key).Nodup) (k : V) : fndO t k = fndO t' k := by
  have hn' : (t'.map Pr.key).Nodup := (h.map _).nodup_iff.1 hn
  cases e : fndO t k with
  | some x => exact ((fnd_iff hn').2 (h.mem_iff.1 ((fnd_iff hn).1 e))).symm
  | none =>
    cases e' : fndO t' k with
    | none => rfl
    | some x => rw [(fnd_iff hn).2 (h.mem_iff.2 ((fnd_iff hn').1 e'))] at e; cases e
theorem fnd_map (f : V → V) (k : V) : ∀ t : List Pr, fndO (t.map fun p => ⟨p.key, f p.val⟩) k = (fndO t k).map f
  | [] => rfl
  | p :: r => by
    simp only [List.map_cons, fndO]
    by_cases hk : vEq p.key k = true
    · rw [if_pos hk, if_pos hk]; rfl
    · rw [if_neg hk, if_neg hk]; exact fnd_map f k r
def ksort (l : List V) : List V := l.mergeSort fun a b => !kl b a
theorem srt_keys (t : List Pr) : (srt t).map Pr.key = ksort (t.map Pr.key) := by
  unfold srt ksort
  rw [List.map_mergeSort]
  intro a _ b _
  rfl
inductive Lf where
  | leaf (v : V)
  | tab (ks : List V)
/-- What stands at the end of a path of keys. -/
def beh (ts : List (List Pr)) : List V → V → Option Lf
  | [], v => some (if v.k = 4 then .tab ((tabA ts v.a.toNat).map Pr.key) else .leaf v)
  | k :: p, v => if v.k = 4 then (fndO (tabA ts v.a.toNat) k).bind (fun x => beh ts p x) else none
def Beq (ts us : List (List Pr)) (v w : V) : Prop := ∀ p, beh ts p v = beh us p w
theorem Beq.refl (ts : List (List Pr)) (v : V) : Beq ts ts v v := fun _ => rfl
theorem Beq.symm {ts us : List (List Pr)} {v w : V} (h : Beq ts us v w) : Beq us ts w v := fun p => (h p).symm
theorem Beq.trans {ts us xs : List (List Pr)} {v w x : V} (h : Beq ts us v w) (g : Beq us xs w x) : Beq ts xs v x := fun p => (h p).trans (g p)
section
variable {ts us : List (List Pr)} {v w : V}
theorem Beq.k4 (h : Beq ts us v w) : v.k = 4 ↔ w.k = 4 := by
  have e := Option.some.inj (h [])
  by_cases h1 : v.k = 4 <;> by_cases h2 : w.k = 4
  · exact ⟨fun _ => h2, fun _ => h1⟩
  · rw [if_pos h1, if_neg h2] at e; cases e
  · rw [if_neg h1, if_pos h2] at e; cases e
  · exact ⟨fun x => absurd x h1, fun x => absurd x h2⟩
theorem Beq.leaf (h : Beq ts us v w) (h4 : v.k ≠ 4) : v = w := by
  have e := Option.some.inj (h [])
  rw [if_neg h4, if_neg (fun x => h4 (h.k4.2 x))] at e
  exact Lf.leaf.inj e
theorem Beq.keys (h : Beq ts us v w) (h4 : v.k = 4) : (tabA ts v.a.toNat).map Pr.key = (tabA us w.a.toNat).map Pr.key := by
  have e := Option.some.inj (h [])
  rw [if_pos h4, if_pos (h.k4.1 h4)] at e
  exact Lf.tab.inj e
theorem Beq.kid (h : Beq ts us v w) (h4 : v.k = 4) {k x y : V} (hx : fndO (tabA ts v.a.toNat) k = some x) (hy : fndO (tabA us w.a.toNat) k = some y) : Beq ts us x y := fun p => by
  have e := h (k :: p)
  simp only [beh, if_pos h4, if_pos (h.k4.1 h4), hx, hy, Option.bind_some] at e
  exact e
theorem beh_tb (p : List V) (h4 : v.k = 4) : beh ts p v = beh ts p (tb v.a.toNat) := by
  have e : (tb v.a.toNat).a.toNat = v.a.toNat := by simp only [tb]; omega
  cases p with
  | nil => simp only [beh, if_pos h4, e, if_pos (show (tb v.a.toNat).k = 4 from rfl)]
  | cons k p => simp only [beh, if_pos h4, e, if_pos (show (tb v.a.toNat).k = 4 from rfl)]
theorem Beq.tb (h : Beq ts us v w) (h4 : v.k = 4) : Beq ts us (tb v.a.toNat) (tb w.a.toNat) := fun p => by rw [← beh_tb p h4, ← beh_tb p (h.k4.1 h4)]; exact h p
end
/-- Element by element. -/
inductive All2 {α β : Type} (R : α → β → Prop) : List α → List β → Prop
  | nil : All2 R [] []
  | cons {a : α} {b : β} {l : List α} {m : List β} : R a b → All2 R l m → All2 R (a :: l) (b :: m)
section
variable {α β : Type} {R S : α → β → Prop}
theorem All2.imp (hi : ∀ a b, R a b → S a b) : ∀ {l : List α} {m : List β}, All2 R l m → All2 S l m
  | _, _, .nil => .nil
  | _, _, .cons h t => .cons (hi _ _ h) (t.imp hi)
theorem All2.len : ∀ {l : List α} {m : List β}, All2 R l m → l.length = m.length
  | _, _, .nil => rfl
  | _, _, .cons _ t => by simp [t.len]
theorem All2.snoc {a : α} {b : β} (hab : R a b) : ∀ {l : List α} {m : List β}, All2 R l m → All2 R (l ++ [a]) (m ++ [b])
  | _, _, .nil => .cons hab .nil
  | _, _, .cons h t => .cons h (t.snoc hab)
theorem All2.left : ∀ {l : List α} {m : List β}, All2 R l m → ∀ a ∈ l, ∃ b ∈ m, R a b
  | _, _, .nil, a, h => by cases h
  | _, _, .cons (b := b) (m := m) h t, a, ha => by
    rcases List.mem_cons.1 ha with rfl | ha
    · exact ⟨b, .head _, h⟩
    · obtain ⟨b, hb, e⟩ := t.left a ha; exact ⟨b, .tail _ hb, e⟩
theorem All2.right : ∀ {l : List α} {m : List β}, All2 R l m → ∀ b ∈ m, ∃ a ∈ l, R a b
  | _, _, .nil, a, h => by cases h
  | _, _, .cons (a := a) h t, b, hb => by
    rcases List.mem_cons.1 hb with rfl | hb
    · exact ⟨a, .head _, h⟩
    · obtain ⟨a, ha, e⟩ := t.right b hb; exact ⟨a, .tail _ ha, e⟩
theorem All2.map_eq {γ : Type} (f : α → γ) (g : β → γ) (h : ∀ a b, R a b → f a = g b) : ∀ {l : List α} {m : List β}, All2 R l m → l.map f = m.map g
  | _, _, .nil => rfl
  | _, _, .cons hab t => by rw [List.map_cons, List.map_cons, h _ _ hab, t.map_eq f g h]
theorem All2.get : ∀ {l : List α} {m : List β}, All2 R l m → ∀ i (h : i < l.length) (h' : i < m.length), R l[i] m[i]
  | _, _, .cons h t, 0, _, _ => h
  | _, _, .cons h t, i + 1, h1, h2 => t.get i (by simpa using h1) (by simpa using h2)
end
def PR (R : V → V → Prop) (p q : Pr) : Prop := p.key = q.key ∧ R p.val q.val
/-- Same keys, related values. -/
theorem pos_rel {R : V → V → Prop} : ∀ {l m : List Pr}, l.map Pr.key = m.map Pr.key → (l.map Pr.key).Nodup → (∀ k x y, fndO l k = some x → fndO m k = some y → R x y) → All2 (PR R) l m
  | [], [], _, _, _ => .nil
  | [], q :: m, h, _, _ => by simp at h
  | p :: l, [], h, _, _ => by simp at h
  | p :: l, q :: m, h, hn, hR => by
    have hn2 : ((q :: m).map Pr.key).Nodup := h ▸ hn
    simp only [List.map_cons, List.cons.injEq] at h
    have h1 := fnd_of hn (List.mem_cons_self (a := p) (l := l))
    have h2 := fnd_of hn2 (List.mem_cons_self (a := q) (l := m))
    rw [← h.1] at h2
    refine .cons ⟨h.1, hR _ _ _ h1 h2⟩ (pos_rel h.2 (by rw [List.map_cons, List.nodup_cons] at hn; exact hn.2) fun k x y hx hy => ?_)
    obtain ⟨p', hp', rfl, rfl⟩ := fnd_mem hx
    obtain ⟨q', hq', e, rfl⟩ := fnd_mem hy
    refine hR p'.key _ _ (fnd_of hn (.tail _ hp')) ?_
    rw [← e]
    exact fnd_of hn2 (.tail _ hq')
theorem pr_look {c d : List Nat} {l m : List Pr} (h : All2 (PR fun x y => lk c x = lk d y) l m) : lookT c l = lookT d m :=
  h.map_eq _ _ fun p q e => by rw [e.1, e.2]
/-- Tables that are well laid: their values name tables there are, their keys are told apart. -/
structure Wl (st : List (List Pr)) : Prop where
  inn : AllIn st
  tv : ∀ t ∈ st, ∀ p ∈ t, Tv p.val
  nod : ∀ t ∈ st, (t.map Pr.key).Nodup
theorem Wl.kid {st : List (List Pr)} (h : Wl st) {a : Nat} {k x : V} (hx : fndO (tabA st a) k = some x) : In st.length x ∧ Tv x ∧ a < st.length := by
  obtain ⟨p, hp, _, rfl⟩ := fnd_mem hx
  by_cases ha : a < st.length
  · exact ⟨h.inn _ (tabA_mem ha) p hp, h.tv _ (tabA_mem ha) p hp, ha⟩
  · unfold tabA at hp
    rw [List.getD_eq_getElem?_getD, List.getElem?_eq_none (by omega)] at hp
    cases hp
/-! ### what looks the same is in one class -/
def Cb (st : List (List Pr)) (c : List Nat) : Prop := ∀ i j, i < st.length → j < st.length → Beq st st (tb i) (tb j) → at0 c i = at0 c j
theorem lk_beq {st : List (List Pr)} {c : List Nat} (hc : Cb st c) {v w : V} (h : Beq st st v w) (iv : In st.length v) (iw : In st.length w) (tv : Tv v) (tw : Tv w) : lk c v = lk c w := by
  by_cases h4 : v.k = 4
  · have h4' := h.k4.1 h4
    have e := hc v.a.toNat w.a.toNat (by have := iv h4; omega) (by have := iw h4'; omega) (h.tb h4)
    exact (alike_lk tv tw).1 (by unfold alike; rw [if_pos (h4.trans h4'.symm), if_pos h4, decide_eq_true_eq]; exact e)
  · rw [h.leaf h4]
theorem cb_nxt {st : List (List Pr)} {c : List Nat} (hW : Wl st) (hc : Cb st c) : Cb st (nxt st c) := by
  intro i j hi hj h
  rw [nxt_iff hi hj]
  refine keyS_iff.2 (pr_look ?_)
  have hk := h.keys rfl
  have e1 : ∀ x : Nat, (tb x).a.toNat = x := fun x => by simp only [tb]; omega
  rw [e1, e1, tabA_get hi, tabA_get hj] at hk
  refine pos_rel hk (hW.nod _ (List.getElem_mem hi)) fun k x y hx hy => ?_
  rw [← tabA_get hi] at hx
  rw [← tabA_get hj] at hy
  have hb := h.kid (k := k) (x := x) (y := y) rfl (by rw [e1]; exact hx) (by rw [e1]; exact hy)
  obtain ⟨i1, i2, _⟩ := hW.kid hx
  obtain ⟨j1, j2, _⟩ := hW.kid hy
  exact lk_beq hc hb i1 j1 i2 j2
theorem cb_rounds {st : List (List Pr)} (hW : Wl st) : ∀ (f : Nat) (c : List Nat), Cb st c → Cb st (rounds st f c)
  | 0, c, h => h
  | f + 1, c, h => by
    unfold rounds
    split
    · exact h
    · exact cb_rounds hW f _ (cb_nxt hW h)
theorem cls_cb {st : List (List Pr)} (hW : Wl st) : Cb st (cls st) := cb_rounds hW _ _ fun i j _ _ _ => by rw [at0_zero, at0_zero]
/-! ### what is in one class looks the same -/
theorem look_keys (c : List Nat) (t : List Pr) : (lookT c t).map Pr.key = t.map Pr.key := by simp [lookT]
theorem cls_look {st : List (List Pr)} (hA : AllIn st) {i j : Nat} (hi : i < st.length) (hj : j < st.length) (h : at0 (cls st) i = at0 (cls st) j) : lookT (cls st) (tabA st i) = lookT (cls st) (tabA st j) := by
  have hN := (cls_fix hA).2.2
  rw [← hN] at h
  have := keyS_iff.1 ((nxt_iff hi hj).1 h)
  rw [tabA_get hi, tabA_get hj]; exact this
theorem lk_k4 {c : List Nat} {v w : V} (h : lk c v = lk c w) : v.k = w.k := by
  have := congrArg V.k h
  unfold lk at this
  split at this <;> split at this <;> exact this
theorem lk_at {c : List Nat} {v w : V} (h : lk c v = lk c w) (h4 : v.k = 4) : at0 c v.a.toNat = at0 c w.a.toNat := by
  have e := lk_k4 h
  unfold lk at h
  rw [if_pos h4, if_pos (e ▸ h4)] at h
  have := congrArg V.a h
  simp only at this
  unfold at0; omega
theorem lk_leaf {c : List Nat} {v w : V} (h : lk c v = lk c w) (h4 : v.k ≠ 4) : v = w := by
  have e := lk_k4 h
  unfold lk at h
  rw [if_neg h4, if_neg (e ▸ h4)] at h
  exact h
theorem cls_eqv {st : List (List Pr)} (hW : Wl st) : ∀ (p : List V) (v w : V), In st.length v → In st.length w → lk (cls st) v = lk (cls st) w → beh st p v = beh st p w := by
  intro p
  induction p with
  | nil =>
    intro v w hv hw h
    by_cases h4 : v.k = 4
    · have h4' : w.k = 4 := lk_k4 h ▸ h4
      have e := cls_look hW.inn (i := v.a.toNat) (j := w.a.toNat) (by have := hv h4; omega) (by have := hw h4'; omega) (lk_at h h4)
      have e2 := congrArg (List.map Pr.key) e
      rw [look_keys, look_keys] at e2
      simp only [beh, if_pos h4, if_pos h4', e2]
    · rw [lk_leaf h h4]
  | cons k p ih =>
    intro v w hv hw h
    by_cases h4 : v.k = 4
    · have h4' : w.k = 4 := lk_k4 h ▸ h4
      have e := cls_look hW.inn (i := v.a.toNat) (j := w.a.toNat) (by have := hv h4; omega) (by have := hw h4'; omega) (lk_at h h4)
      have e2 := congrArg (fun t => fndO t k) e
      simp only [lookT, fnd_map] at e2
      simp only [beh, if_pos h4, if_pos h4']
      cases hx : fndO (tabA st v.a.toNat) k with
      | none =>
        cases hy : fndO (tabA st w.a.toNat) k with
        | none => rfl
        | some y => rw [hx, hy] at e2; cases e2
      | some x =>
        cases hy : fndO (tabA st w.a.toNat) k with
        | none => rw [hx, hy] at e2; cases e2
        | some y =>
          rw [hx, hy] at e2
          exact ih x y (hW.kid hx).1 (hW.kid hy).1 (Option.some.inj e2)
    · rw [lk_leaf h h4]
theorem tb_in {n i : Nat} (h : i < n) : In n (tb i) := fun _ => by simp only [tb]; omega
theorem cls_iff {st : List (List Pr)} (hW : Wl st) {i j : Nat} (hi : i < st.length) (hj : j < st.length) : at0 (cls st) i = at0 (cls st) j ↔ Beq st st (tb i) (tb j) :=
  ⟨fun h p => cls_eqv hW p _ _ (tb_in hi) (tb_in hj) (by rw [lk_tb, lk_tb, h]), cls_cb hW i j hi hj⟩
/-- Two values are alike just where they look the same. -/
theorem alike_iff {st : List (List Pr)} (hW : Wl st) {v w : V} (iv : In st.length v) (iw : In st.length w) (tv : Tv v) (tw : Tv w) : alike (cls st) v w = true ↔ Beq st st v w := by
  rw [alike_lk tv tw]
  exact ⟨fun h p => cls_eqv hW p v w iv iw h, fun h => lk_beq (cls_cb hW) h iv iw tv tw⟩
/-! ### tables beside one another -/
theorem beh_left {A X : List (List Pr)} (hA : AllIn A) : ∀ (p : List V) (v : V), In A.length v → beh (A ++ X) p v = beh A p v := by
  have ht : ∀ v : V, v.k = 4 → In A.length v → tabA (A ++ X) v.a.toNat = tabA A v.a.toNat := fun v h4 hv => by
    have := hv h4
    unfold tabA
    rw [List.getD_eq_getElem?_getD, List.getD_eq_getElem?_getD, List.getElem?_append_left (by omega)]
  intro p
  induction p with
  | nil => intro v hv; by_cases h4 : v.k = 4
           · simp only [beh, ht v h4 hv]
           · simp only [beh, if_neg h4]
  | cons k p ih =>
    intro v hv
    by_cases h4 : v.k = 4
    · simp only [beh, if_pos h4, ht v h4 hv]
      cases hx : fndO (tabA A v.a.toNat) k with
      | none => rfl
      | some x =>
        obtain ⟨q, hq, _, rfl⟩ := fnd_mem hx
        exact ih q.val (hA _ (tabA_mem (by have := hv h4; omega)) q hq)
    · simp only [beh, if_neg h4]
theorem beh_right {A B : List (List Pr)} {sh : V → V} (hs4 : ∀ v, v.k = 4 → (sh v).k = 4 ∧ (sh v).a = v.a + (A.length : Int)) (hs : ∀ v, v.k ≠ 4 → sh v = v) (hB : AllIn B) :
    ∀ (p : List V) (v : V), In B.length v → beh (A ++ B.map fun t => t.map fun q => ⟨q.key, sh q.val⟩) p (sh v) = beh B p v := by
  have ht : ∀ v : V, v.k = 4 → In B.length v → tabA (A ++ B.map fun t => t.map fun q => ⟨q.key, sh q.val⟩) (sh v).a.toNat = (tabA B v.a.toNat).map fun q => ⟨q.key, sh q.val⟩ := fun v h4 hv => by
    have h1 := hv h4
    have h2 := (hs4 v h4).2
    unfold tabA
    rw [List.getD_eq_getElem?_getD, List.getD_eq_getElem?_getD, List.getElem?_append_right (by omega), List.getElem?_map]
    have e : (sh v).a.toNat - A.length = v.a.toNat := by omega
    rw [e, List.getElem?_eq_getElem (by omega : v.a.toNat < B.length)]
    rfl
  intro p
  induction p with
  | nil =>
    intro v hv
    by_cases h4 : v.k = 4
    · simp only [beh, if_pos h4, if_pos (hs4 v h4).1, ht v h4 hv, List.map_map]
      rfl
    · rw [hs v h4]; simp only [beh, if_neg h4]
  | cons k p ih =>
    intro v hv
    by_cases h4 : v.k = 4
    · simp only [beh, if_pos h4, if_pos (hs4 v h4).1, ht v h4 hv, fnd_map]
      cases hx : fndO (tabA B v.a.toNat) k with
      | none => rfl
      | some x =>
        obtain ⟨q, hq, _, rfl⟩ := fnd_mem hx
        exact ih q.val (hB _ (tabA_mem (by have := hv h4; omega)) q hq)
    · rw [hs v h4]; simp only [beh, if_neg h4]
/-! ### tables led to by their classes -/
theorem beh_look {st : List (List Pr)} (hW : Wl st) : ∀ (p : List V) (v : V), In st.length v → beh (st.map (lookT (cls st))) p (lk (cls st) v) = beh st p v := by
  have hG := (cls_fix hW.inn).1
  have ht : ∀ v : V, v.k = 4 → In st.length v → tabA (st.map (lookT (cls st))) (lk (cls st) v).a.toNat = lookT (cls st) (tabA st v.a.toNat) := fun v h4 hv => by
    have h1 := hv h4
    have hlt : v.a.toNat < st.length := by omega
    have h2 := hG.le v.a.toNat hlt
    have e : (lk (cls st) v).a.toNat = at0 (cls st) v.a.toNat := by unfold lk at0; rw [if_pos h4]; simp only; omega
    have hlt3 : at0 (cls st) v.a.toNat < st.length := by omega
    have g1 : tabA st (at0 (cls st) v.a.toNat) = st[at0 (cls st) v.a.toNat] := tabA_get hlt3
    rw [e, ← cls_look hW.inn (i := at0 (cls st) v.a.toNat) hlt3 hlt (hG.idem _ hlt), g1, tabA_get (ts := st.map (lookT (cls st))) (a := at0 (cls st) v.a.toNat) (by rw [List.length_map]; exact hlt3), List.getElem_map]
  intro p
  induction p with
  | nil =>
    intro v hv
    by_cases h4 : v.k = 4
    · have h4' : (lk (cls st) v).k = 4 := by unfold lk; rw [if_pos h4]; exact h4
      simp only [beh, if_pos h4, if_pos h4', ht v h4 hv, look_keys]
    · have e : lk (cls st) v = v := by unfold lk; rw [if_neg h4]
      rw [e]; simp only [beh, if_neg h4]
  | cons k p ih =>
    intro v hv
    by_cases h4 : v.k = 4
    · have h4' : (lk (cls st) v).k = 4 := by unfold lk; rw [if_pos h4]; exact h4
      simp only [beh, if_pos h4, if_pos h4', ht v h4 hv, lookT, fnd_map]
      cases hx : fndO (tabA st v.a.toNat) k with
      | none => rfl
      | some x => exact ih x (hW.kid hx).1
    · have e : lk (cls st) v = v := by unfold lk; rw [if_neg h4]
      rw [e]; simp only [beh, if_neg h4]
/-! ### tables numbered as they are met -/
theorem tabA_cTs {T : List (List Pr)} {ord : List Nat} {a : Nat} (h : a ∈ ord) : tabA (cTs T ord) (ord.idxOf a) = (tabA T a).map (nPr ord) := by
  have h1 := List.idxOf_lt_length_iff.2 h
  rw [tabA_get (by simpa [cTs] using h1)]
  simp only [cTs, List.getElem_map, List.getElem_idxOf]
  rfl
theorem beh_cTs {T : List (List Pr)} {ord : List Nat} (hcl : ∀ a ∈ ord, ∀ p ∈ tabA T a, p.val.k = 4 → p.val.a.toNat ∈ ord) : ∀ (p : List V) (v : V), (v.k = 4 → v.a.toNat ∈ ord) → beh (cTs T ord) p (ren ord v) = beh T p v := by
  have hr : ∀ v : V, v.k = 4 → (ren ord v).k = 4 ∧ (ren ord v).a.toNat = ord.idxOf v.a.toNat := fun v h4 => by
    unfold ren; rw [if_pos h4]; exact ⟨h4, by simp only; omega⟩
  have hl : ∀ v : V, v.k ≠ 4 → ren ord v = v := fun v h4 => by unfold ren; rw [if_neg h4]
  intro p
  induction p with
  | nil =>
    intro v hv
    by_cases h4 : v.k = 4
    · simp only [beh, if_pos h4, if_pos (hr v h4).1, (hr v h4).2, tabA_cTs (hv h4), List.map_map]
      rfl
    · rw [hl v h4]; simp only [beh, if_neg h4]
  | cons k p ih =>
    intro v hv
    by_cases h4 : v.k = 4
    · have e := fnd_map (ren ord) k (tabA T v.a.toNat)
      simp only [beh, if_pos h4, if_pos (hr v h4).1, (hr v h4).2, tabA_cTs (hv h4)]
      have e2 : fndO ((tabA T v.a.toNat).map (nPr ord)) k = (fndO (tabA T v.a.toNat) k).map (ren ord) := e
      rw [e2]
      cases hx : fndO (tabA T v.a.toNat) k with
      | none => rfl
      | some x =>
        obtain ⟨q, hq, _, rfl⟩ := fnd_mem hx
        exact ih q.val (fun h => hcl _ (hv h4) q hq h)
    · rw [hl v h4]; simp only [beh, if_neg h4]
/-! ### the fuel of the numbering -/
theorem go_fuel {ts : List (List Pr)} (hA : AllIn ts) : ∀ (f : Nat) (ord : List Nat) (v : V), Nm ts.length ord → In ts.length v → ts.length - ord.length < f → go ts (f + 1) ord v = go ts f ord v
  | 0, ord, v, _, _, h => absurd h (by omega)
  | f + 1, ord, v, hN, hv, hf => by
    by_cases h4 : v.k = 4
    · by_cases hin : v.a.toNat ∈ ord
      · rw [go_old h4 hin, go_old h4 hin]
      · have hlt : v.a.toNat < ts.length := by have := hv h4; omega
        have hix : ts[v.a.toNat]? = some ts[v.a.toNat] := List.getElem?_eq_getElem hlt
        rw [go_new h4 hin hix, go_new h4 hin hix]
        have hN1 := hN.snoc hlt hin
        have hl1 := hN1.len
        simp only [List.length_append, List.length_singleton] at hl1
        have key : ∀ (l : List Pr) (o : List Nat), (∀ p ∈ l, In ts.length p.val) → Nm ts.length o → ord.length + 1 ≤ o.length → goes ts (f + 1) o l = goes ts f o l := fun l => by
          induction l with
          | nil => exact fun o _ _ _ => rfl
          | cons p r ih =>
            intro o hl hN hlen
            have h1 := go_fuel hA f o p.val hN (hl p (.head _)) (by omega)
            show goes ts (f + 1) (go ts (f + 1) o p.val) r = goes ts f (go ts f o p.val) r
            rw [h1]
            exact ih _ (fun q hq => hl q (.tail _ hq)) (go_nm hA f o p.val hN (hl p (.head _))) (Nat.le_trans hlen (go_pre ts f o p.val).length_le)
        exact key _ _ (hA _ (List.getElem_mem hlt)) hN1 (by simp)
    · rw [go_leaf h4, go_leaf h4]
theorem ordOf_fuel {ts : List (List Pr)} (hA : AllIn ts) {v : V} (hv : In ts.length v) : ∀ d : Nat, go ts (ts.length + 1 + d) [] v = ordOf ts v
  | 0 => rfl
  | d + 1 => by
    have := go_fuel hA (ts.length + 1 + d) [] v (nm_nil _) hv (by simp; omega)
    rw [← ordOf_fuel hA hv d, ← this]; rfl
/-! ### two graphs that look the same are numbered alike -/
/-- All that is led to is P. -/
def Led (T : List (List Pr)) (P : Nat → Prop) : Prop := ∀ t ∈ T, ∀ p ∈ t, p.val.k = 4 → P p.val.a.toNat
def Dst (T : List (List Pr)) (P : Nat → Prop) : Prop := ∀ i j, P i → P j → Beq T T (tb i) (tb j) → i = j
theorem led_tab {T : List (List Pr)} {P : Nat → Prop} (h : Led T P) {a : Nat} {p : Pr} (hp : p ∈ tabA T a) (h4 : p.val.k = 4) : P p.val.a.toNat := by
  by_cases ha : a < T.length
  · exact h _ (tabA_mem ha) p hp h4
  · unfold tabA at hp
    rw [List.getD_eq_getElem?_getD, List.getElem?_eq_none (by omega)] at hp
    cases hp
theorem go_sim {T U : List (List Pr)} {P Q : Nat → Prop} (hT : Led T P) (hU : Led U Q) (dT : Dst T P) (dU : Dst U Q) (nT : ∀ a, ((tabA T a).map Pr.key).Nodup) :
    ∀ (f : Nat) (o o' : List Nat) (x y : V), All2 (fun i j => Beq T U (tb i) (tb j)) o o' → (∀ i ∈ o, P i) → (∀ j ∈ o', Q j) → Beq T U x y → (x.k = 4 → P x.a.toNat) → (y.k = 4 → Q y.a.toNat) →
      All2 (fun i j => Beq T U (tb i) (tb j)) (go T f o x) (go U f o' y) ∧ (∀ i ∈ go T f o x, P i) ∧ ∀ j ∈ go U f o' y, Q j
  | 0, o, o', x, y, h, p1, p2, _, _, _ => ⟨h, p1, p2⟩
  | f + 1, o, o', x, y, h, p1, p2, hxy, px, py => by
    by_cases h4 : x.k = 4
    · have h4' := hxy.k4.1 h4
      have hb := hxy.tb h4
      have hmem : x.a.toNat ∈ o ↔ y.a.toNat ∈ o' := by
        constructor
        · intro hm
          obtain ⟨j, hj, e⟩ := h.left _ hm
          rw [dU y.a.toNat j (py h4') (p2 j hj) (hb.symm.trans e)]; exact hj
        · intro hm
          obtain ⟨i, hi, e⟩ := h.right _ hm
          rw [dT x.a.toNat i (px h4) (p1 i hi) (hb.trans e.symm)]; exact hi
      by_cases hin : x.a.toNat ∈ o
      · rw [go_old h4 hin, go_old h4' (hmem.1 hin)]; exact ⟨h, p1, p2⟩
      · have hin' : y.a.toNat ∉ o' := fun e => hin (hmem.2 e)
        have e1 : go T (f + 1) o x = goes T f (o ++ [x.a.toNat]) (tabA T x.a.toNat) := by simp only [go, if_pos h4, if_neg hin]; rfl
        have e2 : go U (f + 1) o' y = goes U f (o' ++ [y.a.toNat]) (tabA U y.a.toNat) := by simp only [go, if_pos h4', if_neg hin']; rfl
        rw [e1, e2]
        have hrel := pos_rel (R := Beq T U) (hxy.keys h4) (nT _) (fun k a b ha hb => hxy.kid h4 ha hb)
        have key : ∀ (l m : List Pr), All2 (PR (Beq T U)) l m → (∀ p ∈ l, p.val.k = 4 → P p.val.a.toNat) → (∀ p ∈ m, p.val.k = 4 → Q p.val.a.toNat) → ∀ o o', All2 (fun i j => Beq T U (tb i) (tb j)) o o' → (∀ i ∈ o, P i) → (∀ j ∈ o', Q j) →
            All2 (fun i j => Beq T U (tb i) (tb j)) (goes T f o l) (goes U f o' m) ∧ (∀ i ∈ goes T f o l, P i) ∧ ∀ j ∈ goes U f o' m, Q j := by
          intro l m hlm
          induction hlm with
          | nil => exact fun _ _ o o' h p1 p2 => ⟨h, p1, p2⟩
          | cons hab t ih =>
            intro hl hm o o' h p1 p2
            obtain ⟨g1, g2, g3⟩ := go_sim hT hU dT dU nT f o o' _ _ h p1 p2 hab.2 (hl _ (.head _)) (hm _ (.head _))
            exact ih (fun p hp => hl p (.tail _ hp)) (fun p hp => hm p (.tail _ hp)) _ _ g1 g2 g3
        refine key _ _ hrel (fun p hp => led_tab hT hp) (fun p hp => led_tab hU hp) _ _ (All2.snoc (R := fun i j => Beq T U (tb i) (tb j)) hb h) (fun i hi => ?_) (fun j hj => ?_)
        · rcases List.mem_append.1 hi with hi | hi
          · exact p1 i hi
          · rw [List.mem_singleton] at hi; rw [hi]; exact px h4
        · rcases List.mem_append.1 hj with hj | hj
          · exact p2 j hj
          · rw [List.mem_singleton] at hj; rw [hj]; exact py h4'
    · rw [go_leaf h4, go_leaf (fun e => h4 (hxy.k4.2 e))]; exact ⟨h, p1, p2⟩
theorem idx_all2 {R : Nat → Nat → Prop} : ∀ {o o' : List Nat} {a b : Nat}, All2 R o o' → (∀ i ∈ o, ∀ j ∈ o', R i j → (i = a ↔ j = b)) → o.idxOf a = o'.idxOf b
  | _, _, a, b, .nil, _ => rfl
  | _, _, a, b, .cons (a := i) (b := j) h t, hR => by
    have e := hR i (.head _) j (.head _) h
    rw [List.idxOf_cons, List.idxOf_cons]
    by_cases hi : i = a
    · have hj := e.1 hi
      rw [beq_iff_eq.2 hi, beq_iff_eq.2 hj]
      rfl
    · have hj : ¬ j = b := fun x => hi (e.2 x)
      rw [beq_eq_false_iff_ne.2 hi, beq_eq_false_iff_ne.2 hj]
      show List.idxOf _ _ + 1 = List.idxOf _ _ + 1
      rw [idx_all2 t fun i hi j hj => hR i (.tail _ hi) j (.tail _ hj)]
/-- The graph's tables, and where they are met first. -/
structure Mt (T : List (List Pr)) (P : Nat → Prop) (v : V) : Prop where
  wl : Wl T
  inn : In T.length v
  tv : Tv v
  led : Led T P
  dst : Dst T P
  root : v.k = 4 → P v.a.toNat
theorem Wl.nodA {T : List (List Pr)} (h : Wl T) (a : Nat) : ((tabA T a).map Pr.key).Nodup := by
  by_cases ha : a < T.length
  · exact h.nod _ (tabA_mem ha)
  · unfold tabA
    rw [List.getD_eq_getElem?_getD, List.getElem?_eq_none (by omega)]
    simp
theorem Wl.closed {T : List (List Pr)} (h : Wl T) {v : V} (hv : In T.length v) : ∀ a ∈ ordOf T v, ∀ p ∈ tabA T a, p.val.k = 4 → p.val.a.toNat ∈ ordOf T v := fun a ha p hp h4 => by
  have hlt := (ordOf_nm h.inn hv).lt a ha
  rw [tabA_get hlt] at hp
  exact ordOf_in h.inn hv ha (List.getElem?_eq_getElem hlt) hp h4
theorem mt_uniq {T U : List (List Pr)} {P Q : Nat → Prop} {v w : V} (hT : Mt T P v) (hU : Mt U Q w) (h : Beq T U v w) : ren (ordOf T v) v = ren (ordOf U w) w ∧ cTs T (ordOf T v) = cTs U (ordOf U w) := by
  have hs := go_sim hT.led hU.led hT.dst hU.dst hT.wl.nodA (T.length + 1 + (U.length + 1)) [] [] v w .nil (fun i hi => by cases hi) (fun i hi => by cases hi) h hT.root hU.root
  have f1 := ordOf_fuel hT.wl.inn hT.inn (U.length + 1)
  have f2 := ordOf_fuel hU.wl.inn hU.inn (T.length + 1)
  rw [show U.length + 1 + (T.length + 1) = T.length + 1 + (U.length + 1) by omega] at f2
  rw [f1, f2] at hs
  obtain ⟨h1, h2, h3⟩ := hs
  have hren : ∀ x y : V, Beq T U x y → Tv x → Tv y → (x.k = 4 → P x.a.toNat) → (y.k = 4 → Q y.a.toNat) → ren (ordOf T v) x = ren (ordOf U w) y := fun x y hxy tx ty px py => by
    by_cases h4 : x.k = 4
    · have h4' := hxy.k4.1 h4
      have e : (ordOf T v).idxOf x.a.toNat = (ordOf U w).idxOf y.a.toNat := idx_all2 h1 fun i hi j hj hij => by
        constructor
        · intro e; subst e
          exact (hU.dst j y.a.toNat (h3 j hj) (py h4') (hij.symm.trans (hxy.tb h4)))
        · intro e; subst e
          exact (hT.dst i x.a.toNat (h2 i hi) (px h4) (hij.trans (hxy.tb h4).symm))
      unfold ren
      rw [if_pos h4, if_pos h4', e, h4, h4', (tx h4).1, (ty h4').1, bytes_ext ((tx h4).2.trans (ty h4').2.symm)]
    · have e1 : ren (ordOf T v) x = x := by unfold ren; rw [if_neg h4]
      have e2 : ren (ordOf U w) y = y := by unfold ren; rw [if_neg (fun e => h4 (hxy.k4.2 e))]
      rw [e1, e2]; exact hxy.leaf h4
  refine ⟨hren v w h hT.tv hU.tv hT.root hU.root, h1.map_eq _ _ fun i j hij => ?_⟩
  have e1 : ∀ x : Nat, (tb x).a.toNat = x := fun x => by simp only [tb]; omega
  have hk := hij.keys rfl
  rw [e1, e1] at hk
  have hrel := pos_rel (R := fun x y => ren (ordOf T v) x = ren (ordOf U w) y) hk (hT.wl.nodA _) (fun k a b ha hb => by
    have hb2 := hij.kid rfl (by rw [e1]; exact ha) (by rw [e1]; exact hb)
    obtain ⟨p, hp, _, rfl⟩ := fnd_mem ha
    obtain ⟨q, hq, _, rfl⟩ := fnd_mem hb
    exact hren _ _ hb2 (hT.wl.kid ha).2.1 (hU.wl.kid hb).2.1 (fun h4 => led_tab hT.led hp h4) (fun h4 => led_tab hU.led hq h4))
  exact hrel.map_eq _ _ fun p q e => by unfold nPr; rw [e.1, e.2]
end Go.Sy
