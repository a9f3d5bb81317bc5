/- A graph with its tables doubled, led to anew, and pairs in other orders: as a function of the bytes; it looks the same. No program in sight; no condition. -/
import Derived.Test.YtkamfnmbidnhdaaDoorSqAM
import Derived.Test.YtkamfnmbidnhdaaDoorSqAJ
import Derived.Test.YtkamfnmbidnhdaaDoorSqAH
import Derived.Lib.AppendZeros
set_option linter.unusedVariables false
set_option linter.unusedSimpArgs false
set_option linter.unusedSectionVars false
namespace Go.Sy
set_option linter.unusedVariables false
def ledD (bs : List Int) (n w : Nat) (v : V) (s : DS) : V × DS := if v.k = 4 then (⟨v.k, v.n, v.s, v.a + ((n * (pk bs w s).1 : Nat) : Int)⟩, (pk bs w s).2) else (v, s)
def rwD (bs : List Int) (n w : Nat) : List Pr → DS → List Pr × DS
  | [], s => ([], s)
  | p :: r, s => (⟨p.key, (ledD bs n w p.val s).1⟩ :: (rwD bs n w r (ledD bs n w p.val s).2).1, (rwD bs n w r (ledD bs n w p.val s).2).2)
theorem rwD_snoc (bs : List Int) (n w : Nat) (p : Pr) : ∀ (l : List Pr) (s : DS), rwD bs n w (l ++ [p]) s = ((rwD bs n w l s).1 ++ [⟨p.key, (ledD bs n w p.val (rwD bs n w l s).2).1⟩], (ledD bs n w p.val (rwD bs n w l s).2).2)
  | [], s => rfl
  | q :: r, s => by
    rw [List.cons_append, rwD, rwD_snoc bs n w p r]
    rfl
theorem ledD_at (bs : List Int) (n w : Nat) (v : V) (s : DS) : s.1 ≤ (ledD bs n w v s).2.1 ∧ (ledD bs n w v s).2.1 ≤ s.1 + 2 := by
  unfold ledD
  split
  · exact pk_at bs w s
  · exact ⟨Nat.le_refl _, Nat.le_add_right _ _⟩
theorem rwD_at (bs : List Int) (n w : Nat) : ∀ (l : List Pr) (s : DS), s.1 ≤ (rwD bs n w l s).2.1 ∧ (rwD bs n w l s).2.1 ≤ s.1 + 2 * l.length
  | [], s => ⟨Nat.le_refl _, Nat.le_refl _⟩
  | p :: r, s => by
    have h1 := ledD_at bs n w p.val s
    have h2 := rwD_at bs n w r (ledD bs n w p.val s).2
    simp only [rwD, List.length_cons]
    omega
theorem rwD_len (bs : List Int) (n w : Nat) : ∀ (l : List Pr) (s : DS), (rwD bs n w l s).1.length = l.length
  | [], s => rfl
  | p :: r, s => by simp only [rwD, List.length_cons, rwD_len bs n w r]
/-- From the f-th on, and around. -/
def rotL (t : List Pr) (f : Nat) : List Pr := t.drop f ++ t.take f
theorem rot_len {t : List Pr} {f : Nat} (h : f ≤ t.length) : (rotL t f).length = t.length := by simp [rotL]; omega
theorem rot_get {t : List Pr} {f i : Nat} (hf : f < t.length ∨ (f = 0 ∧ t.length = 0)) (hi : i < t.length) : (rotL t f)[i]? = t[(f + i) % t.length]? := by
  unfold rotL
  have hf' : f < t.length := by omega
  by_cases h : i < t.length - f
  · rw [List.getElem?_append_left (by simp; omega), List.getElem?_drop, Nat.mod_eq_of_lt (by omega)]
  · rw [List.getElem?_append_right (by simp; omega), List.getElem?_take, if_pos (by simp; omega)]
    congr 1
    rw [Nat.mod_eq_sub_mod (by omega), Nat.mod_eq_of_lt (by omega)]
    simp; omega
def frD (bs : List Int) (t : List Pr) (s : DS) : Nat × DS := if t.length = 0 then (0, s) else pk bs t.length s
def rtD (bs : List Int) (n w : Nat) (t : List Pr) (s : DS) : List Pr × DS := rwD bs n w (rotL t (frD bs t s).1) (frD bs t s).2
def trD (bs : List Int) (n w : Nat) : List (List Pr) → DS → List (List Pr) × DS
  | [], s => ([], s)
  | t :: r, s => ((rtD bs n w t s).1 :: (trD bs n w r (rtD bs n w t s).2).1, (trD bs n w r (rtD bs n w t s).2).2)
theorem trD_snoc (bs : List Int) (n w : Nat) (t : List Pr) : ∀ (l : List (List Pr)) (s : DS), trD bs n w (l ++ [t]) s = ((trD bs n w l s).1 ++ [(rtD bs n w t (trD bs n w l s).2).1], (rtD bs n w t (trD bs n w l s).2).2)
  | [], s => rfl
  | q :: r, s => by
    rw [List.cons_append, trD, trD_snoc bs n w t r]
    rfl
theorem frD_ok (bs : List Int) (t : List Pr) (s : DS) : ((frD bs t s).1 < t.length ∨ ((frD bs t s).1 = 0 ∧ t.length = 0)) ∧ s.1 ≤ (frD bs t s).2.1 ∧ (frD bs t s).2.1 ≤ s.1 + 2 := by
  unfold frD
  split
  · rename_i h; exact ⟨.inr ⟨rfl, h⟩, Nat.le_refl _, Nat.le_add_right _ _⟩
  · exact ⟨.inl (pk_lt bs s (by omega)), pk_at bs _ s⟩
theorem rtD_at (bs : List Int) (n w : Nat) (t : List Pr) (s : DS) : s.1 ≤ (rtD bs n w t s).2.1 ∧ (rtD bs n w t s).2.1 ≤ s.1 + 2 + 2 * t.length := by
  obtain ⟨h0, h1, h2⟩ := frD_ok bs t s
  have h3 := rwD_at bs n w (rotL t (frD bs t s).1) (frD bs t s).2
  rw [rot_len (by omega)] at h3
  unfold rtD
  omega
theorem trD_at (bs : List Int) (n w : Nat) : ∀ (l : List (List Pr)) (s : DS), (∀ t ∈ l, t.length ≤ 100) → s.1 ≤ (trD bs n w l s).2.1 ∧ (trD bs n w l s).2.1 ≤ s.1 + 202 * l.length
  | [], s, _ => ⟨Nat.le_refl _, Nat.le_refl _⟩
  | t :: r, s, h => by
    have h1 := rtD_at bs n w t s
    have h2 := trD_at bs n w r (rtD bs n w t s).2 (fun x hx => h x (.tail _ hx))
    have h3 := h t (.head _)
    simp only [trD, List.length_cons]
    omega
def twD (n : Nat) : Nat := if 2 * n ≤ 200 then 2 else 1
def dupL (w : Nat) (ts : List (List Pr)) : List (List Pr) := if w = 2 then ts ++ ts else ts
/-- turned -/
def tuD (bs : List Int) (v : V) (ts : List (List Pr)) (s : DS) : (V × List (List Pr)) × DS :=
  ((( ledD bs ts.length (twD ts.length) v s).1, (trD bs ts.length (twD ts.length) (dupL (twD ts.length) ts) (ledD bs ts.length (twD ts.length) v s).2).1), (trD bs ts.length (twD ts.length) (dupL (twD ts.length) ts) (ledD bs ts.length (twD ts.length) v s).2).2)
/-! ### it looks the same -/
/-- x is y, led to anew. -/
def LR (n w : Nat) (x y : V) : Prop := x.k = y.k ∧ x.n = y.n ∧ x.s = y.s ∧ (y.k ≠ 4 → x.a = y.a) ∧ (y.k = 4 → ∃ c, c < w ∧ x.a = y.a + ((n * c : Nat) : Int))
theorem ledD_lr (bs : List Int) (n : Nat) {w : Nat} (hw : 0 < w) (v : V) (s : DS) : LR n w (ledD bs n w v s).1 v := by
  unfold ledD
  split
  · rename_i h4
    exact ⟨rfl, rfl, rfl, fun h => absurd h4 h, fun _ => ⟨(pk bs w s).1, pk_lt bs s hw, rfl⟩⟩
  · rename_i h4
    exact ⟨rfl, rfl, rfl, fun _ => rfl, fun h => absurd h h4⟩
theorem rwD_all2 (bs : List Int) (n : Nat) {w : Nat} (hw : 0 < w) : ∀ (l : List Pr) (s : DS), All2 (PR (LR n w)) (rwD bs n w l s).1 l
  | [], s => .nil
  | p :: r, s => .cons ⟨rfl, ledD_lr bs n hw p.val s⟩ (rwD_all2 bs n hw r _)
theorem trD_all2 (bs : List Int) (n : Nat) {w : Nat} (hw : 0 < w) : ∀ (l : List (List Pr)) (s : DS), All2 (fun x t => ∃ f, All2 (PR (LR n w)) x (rotL t f)) (trD bs n w l s).1 l
  | [], s => .nil
  | t :: r, s => .cons ⟨_, rwD_all2 bs n hw _ _⟩ (trD_all2 bs n hw r _)
theorem twD_rng (n : Nat) : twD n = 2 ∨ twD n = 1 := by unfold twD; split <;> simp
end Go.Sy
/- Drawn graphs are well made; turned ones are, and Shrink answers the same of them. Plain; no condition. -/
namespace Go.Proofs.YtkamfnmbidnhdaaDoor
open Go.Sy
set_option linter.unusedVariables false
set_option linter.unusedSimpArgs false
theorem dk_ok {v : V} (h : DK v) : KOk v ∧ Rng v ∧ (∀ n, VOk v n) ∧ v.k ≠ 0 := by
  rcases h.form with ⟨n, rfl, g⟩ | ⟨n, rfl, h1, h2⟩ | ⟨l, rfl, g⟩
  · have hv : ∀ m, VOk (boV n) m := fun m => .inr (.inl ⟨rfl, g, nil_list, rfl⟩)
    exact ⟨⟨.inl rfl, hv 0⟩, ⟨by simp only [boV]; omega, by simp only [boV]; omega⟩, hv, by simp [boV]⟩
  · have hv : ∀ m, VOk (inV n) m := fun m => .inr (.inr (.inl ⟨rfl, nil_list, rfl⟩))
    exact ⟨⟨.inr (.inl rfl), hv 0⟩, ⟨h1, h2⟩, hv, by simp [inV]⟩
  · have hv : ∀ m, VOk (teV l) m := fun m => .inr (.inr (.inr (.inl ⟨rfl, rfl, rfl, g⟩)))
    exact ⟨⟨.inr (.inr rfl), hv 0⟩, ⟨by simp [teV], by simp [teV]⟩, hv, by simp [teV]⟩
theorem ta_ok {a n : Nat} (h : a < n) : VOk (taV a) n ∧ Rng (taV a) ∧ (taV a).k ≠ 0 :=
  ⟨.inr (.inr (.inr (.inr ⟨rfl, rfl, nil_list, by simp only [taV]; omega, by simp only [taV]; omega⟩))), ⟨by simp [taV], by simp [taV]⟩, by simp [taV]⟩
theorem dv_ok {v : V} {n : Nat} (h : DK v ∨ ∃ a, v = taV a ∧ a < n) : VOk v n ∧ Rng v ∧ v.k ≠ 0 := by
  rcases h with h | ⟨a, rfl, h⟩
  · obtain ⟨_, h2, h3, h4⟩ := dk_ok h; exact ⟨h3 n, h2, h4⟩
  · exact ta_ok h
/-! ### turned -/
end Go.Proofs.YtkamfnmbidnhdaaDoor
/- impl.find, slices.Clone and slices.SortFunc of values (what impl.Apart calls). No condition. -/
namespace Go.Proofs.YtkamfnmbidnhdaaDoor
open Go.Sy
set_option maxRecDepth 100000
set_option maxHeartbeats 4000000
set_option linter.unusedVariables false
set_option linter.unusedSimpArgs false
/-- What a table has at a key. -/
def findV : List Pr → V → V
  | [], _ => V0
  | p :: r, k => if vEq p.key k = true then p.val else findV r k
theorem find83 (t : List Pr) (kk : V) (A : Option Addr) (n c : Nat) (h : Hp) (hP : Pairs h A n t) (hl : t.length ≤ 1000000) : Pur Tryd.prog 83 [.ag [.v (.slice A n c)], .ag kk.sv] h (fun y : V => .ag y.sv) (findV t kk) := by
  obtain rfl := hP.1
  refine enterS Tryd.func83 rfl (n := 22) rfl rfl (fun k N => ?_)
  repeat' (first | (refine r_pure hT rfl rfl rfl rfl ?_) | (refine r_new hT rfl rfl rfl rfl ?_) | (refine r_write hT rfl rfl rfl ?_) | (refine r_nil ?_) | (refine q_nil ?_) | (refine r_arith rfl rfl rfl rfl rfl rfl rfl (by omega) ?_) | (with_reducible refine r_seq ?_) | (with_reducible refine x_then ?_) | (with_reducible refine r_region ?_) | (refine r_draw hM (by kernel_rfl) ?_) | (with_reducible refine r_skip ?_) | (with_reducible refine r_ret ?_) | (with_reducible refine x_then_ret ?_) | (with_reducible refine r_block ?_) | (with_reducible refine x_block ?_) | (with_reducible refine x_block_ret ?_) | (with_reducible refine r_exit ?_) | (with_reducible refine x_then_exit ?_) | (with_reducible refine x_block_here ?_) | (refine x_block_past rfl ?_) | (refine c_yes rfl (by omega) ?_) | (refine c_no rfl (by omega) ?_) | (refine c_no rfl (fun h => h rfl) ?_) | (refine r_cond_false rfl ?_) | (refine r_cond_true rfl ?_) | (refine r_cond_dec rfl (fun _ => ?_) (fun _ => ?_)) | (refine r_cond_true rfl ?_) | (refine r_cond_false rfl ?_) | (refine c_not rfl (fun _ => ?_) (fun _ => ?_)) | (refine r_off rfl rfl rfl ?_) | (refine q_guard rfl rfl (fun _ => ?_) (fun _ => ?_)) | (refine q_guardn rfl rfl (fun _ => ?_) (fun _ => ?_)))
  refine r_loop (γ := Nat) (fun i => i ≤ t.length ∧ findV t kk = findV (t.drop i) kk) (fun i => [(3, .p 3 0), (4, .p 4 0), (8, .v (.slice A t.length c)), (9, .v (.int .i64 (t.length : Int))), (10, .v (.int .i64 (i : Int)))])
    (fun _ => [(4, ⟨none, V0.sv, 48⟩), (3, ⟨none, kk.sv, 48⟩)]) (fun _ => h) (fun i => t.length - i)
    0 ⟨Nat.zero_le _, rfl⟩ (into rfl ⟨rfl, rfl, rfl, rfl, rfl, trivial⟩ ⟨rfl, rfl, trivial⟩ rfl rfl) ?_
  rintro i ⟨hi, ho⟩
  by_cases hlt : i < t.length
  · obtain ⟨b, off, p, rfl, hd, hix, hm, hat⟩ := hP.elem Pr.c_len hlt
    rw [hd, findV] at ho
    by_cases hk : p.key = kk
    · have heq : ∀ z, (Op.equalIn Op.maxDepth 48 (.agg p.key.c.toArray) (.agg kk.c.toArray)).run Tryd.prog z = .ok true z := fun z => (eq29f z p.key.k p.key.n p.key.s p.key.a kk).trans (by rw [decide_eq_true (show ((⟨p.key.k, p.key.n, p.key.s, p.key.a⟩ : V) = kk) from hk)])
      rw [if_pos (vEq_iff.2 hk)] at ho
      repeat' (first | (refine r_pure hT rfl rfl rfl rfl ?_) | (refine r_new hT rfl rfl rfl rfl ?_) | (refine r_write hT rfl rfl rfl ?_) | (refine r_nil ?_) | (refine q_nil ?_) | (refine r_indexN hT rfl rfl rfl rfl rfl rfl rfl rfl rfl hlt ?_) | (refine r_load hT hat rfl rfl rfl rfl rfl (Nat.add_zero _).symm rfl rfl rfl rfl rfl ?_) | (refine r_eqs heq (by kernel_rfl) (.inl rfl) rfl rfl rfl rfl rfl rfl rfl rfl ?_) | (refine r_arith rfl rfl rfl rfl rfl rfl rfl (by omega) ?_) | (with_reducible refine r_seq ?_) | (with_reducible refine x_then ?_) | (with_reducible refine r_region ?_) | (refine r_draw hM (by kernel_rfl) ?_) | (with_reducible refine r_skip ?_) | (with_reducible refine r_ret ?_) | (with_reducible refine x_then_ret ?_) | (with_reducible refine r_block ?_) | (with_reducible refine x_block ?_) | (with_reducible refine x_block_ret ?_) | (with_reducible refine r_exit ?_) | (with_reducible refine x_then_exit ?_) | (with_reducible refine x_block_here ?_) | (refine x_block_past rfl ?_) | (refine c_yes rfl (by omega) ?_) | (refine c_no rfl (by omega) ?_) | (refine c_no rfl (fun h => h rfl) ?_) | (refine r_cond_false rfl ?_) | (refine r_cond_true rfl ?_) | (refine r_cond_dec rfl (fun _ => ?_) (fun _ => ?_)) | (refine r_cond_true rfl ?_) | (refine r_cond_false rfl ?_) | (refine c_not rfl (fun _ => ?_) (fun _ => ?_)) | (refine r_off rfl rfl rfl ?_) | (refine q_guard rfl rfl (fun _ => ?_) (fun _ => ?_)) | (refine q_guardn rfl rfl (fun _ => ?_) (fun _ => ?_)))
      exact r_fin hT rfl p.val rfl rfl rfl trivial rfl ⟨ho.symm, rfl⟩
    · have heq : ∀ z, (Op.equalIn Op.maxDepth 48 (.agg p.key.c.toArray) (.agg kk.c.toArray)).run Tryd.prog z = .ok false z := fun z => (eq29f z p.key.k p.key.n p.key.s p.key.a kk).trans (by rw [decide_eq_false (show ¬ ((⟨p.key.k, p.key.n, p.key.s, p.key.a⟩ : V) = kk) from hk)])
      rw [if_neg (fun e => hk (vEq_iff.1 e))] at ho
      repeat' (first | (refine r_pure hT rfl rfl rfl rfl ?_) | (refine r_new hT rfl rfl rfl rfl ?_) | (refine r_write hT rfl rfl rfl ?_) | (refine r_nil ?_) | (refine q_nil ?_) | (refine r_indexN hT rfl rfl rfl rfl rfl rfl rfl rfl rfl hlt ?_) | (refine r_load hT hat rfl rfl rfl rfl rfl (Nat.add_zero _).symm rfl rfl rfl rfl rfl ?_) | (refine r_eqs heq (by kernel_rfl) (.inl rfl) rfl rfl rfl rfl rfl rfl rfl rfl ?_) | (refine r_arith rfl rfl rfl rfl rfl rfl rfl (by omega) ?_) | (with_reducible refine r_seq ?_) | (with_reducible refine x_then ?_) | (with_reducible refine r_region ?_) | (refine r_draw hM (by kernel_rfl) ?_) | (with_reducible refine r_skip ?_) | (with_reducible refine r_ret ?_) | (with_reducible refine x_then_ret ?_) | (with_reducible refine r_block ?_) | (with_reducible refine x_block ?_) | (with_reducible refine x_block_ret ?_) | (with_reducible refine r_exit ?_) | (with_reducible refine x_then_exit ?_) | (with_reducible refine x_block_here ?_) | (refine x_block_past rfl ?_) | (refine c_yes rfl (by omega) ?_) | (refine c_no rfl (by omega) ?_) | (refine c_no rfl (fun h => h rfl) ?_) | (refine r_cond_false rfl ?_) | (refine r_cond_true rfl ?_) | (refine r_cond_dec rfl (fun _ => ?_) (fun _ => ?_)) | (refine r_cond_true rfl ?_) | (refine r_cond_false rfl ?_) | (refine c_not rfl (fun _ => ?_) (fun _ => ?_)) | (refine r_off rfl rfl rfl ?_) | (refine q_guard rfl rfl (fun _ => ?_) (fun _ => ?_)) | (refine q_guardn rfl rfl (fun _ => ?_) (fun _ => ?_)))
      exact x_round (i + 1) ⟨hlt, ho⟩ (by omega) (into rfl ⟨rfl, rfl, rfl, rfl, rfl, trivial⟩ ⟨rfl, rfl, trivial⟩ rfl rfl)
  · obtain rfl : i = t.length := by omega
    rw [List.drop_length] at ho
    repeat' (first | (refine r_pure hT rfl rfl rfl rfl ?_) | (refine r_new hT rfl rfl rfl rfl ?_) | (refine r_write hT rfl rfl rfl ?_) | (refine r_nil ?_) | (refine q_nil ?_) | (refine r_build hT rfl rfl rfl (ps := []) rfl rfl rfl rfl rfl rfl ?_) | (refine r_arith rfl rfl rfl rfl rfl rfl rfl (by omega) ?_) | (with_reducible refine r_seq ?_) | (with_reducible refine x_then ?_) | (with_reducible refine r_region ?_) | (refine r_draw hM (by kernel_rfl) ?_) | (with_reducible refine r_skip ?_) | (with_reducible refine r_ret ?_) | (with_reducible refine x_then_ret ?_) | (with_reducible refine r_block ?_) | (with_reducible refine x_block ?_) | (with_reducible refine x_block_ret ?_) | (with_reducible refine r_exit ?_) | (with_reducible refine x_then_exit ?_) | (with_reducible refine x_block_here ?_) | (refine x_block_past rfl ?_) | (refine c_yes rfl (by omega) ?_) | (refine c_no rfl (by omega) ?_) | (refine c_no rfl (fun h => h rfl) ?_) | (refine r_cond_false rfl ?_) | (refine r_cond_true rfl ?_) | (refine r_cond_dec rfl (fun _ => ?_) (fun _ => ?_)) | (refine r_cond_true rfl ?_) | (refine r_cond_false rfl ?_) | (refine c_not rfl (fun _ => ?_) (fun _ => ?_)) | (refine r_off rfl rfl rfl ?_) | (refine q_guard rfl rfl (fun _ => ?_) (fun _ => ?_)) | (refine q_guardn rfl rfl (fun _ => ?_) (fun _ => ?_)))
    exact r_fin hT rfl V0 rfl rfl rfl trivial rfl ⟨ho.symm, rfl⟩
structure KV where
  val : V
  ok : Kd val
instance : Inhabited KV := ⟨⟨⟨0, 0, ⟨#[]⟩, 0⟩, ⟨Int.le_refl _, by decide⟩⟩⟩
def KV.c (x : KV) : List Value := x.val.c
theorem KV.c_len (x : KV) : x.c.length = 4 := rfl
theorem KV.one (x : KV) : ∀ v ∈ x.c, v.oneCell' = true := fun v hv => by
  simp only [KV.c, V.c, List.mem_cons, List.not_mem_nil, or_false] at hv
  rcases hv with rfl | rfl | rfl | rfl <;> rfl
theorem kv_flat (l : List KV) : l.flatMap KV.c = (l.map KV.val).flatMap V.c := by
  induction l with
  | nil => rfl
  | cons x r ih => simp only [List.flatMap_cons, List.map_cons, ih]; rfl
theorem kv_of : ∀ (xs : List V), (∀ p ∈ xs, Kd p) → ∃ l : List KV, l.map KV.val = xs
  | [], _ => ⟨[], rfl⟩
  | p :: r, h => by
    obtain ⟨l, hl⟩ := kv_of r (fun x hx => h x (.tail _ hx))
    exact ⟨⟨p, h p (.head _)⟩ :: l, by rw [List.map_cons, hl]⟩
def SrtV (l : List V) : Prop := l.Pairwise fun x y => kl y x = false
theorem sort80 (xs : List V) (A : Option Addr) (n c : Nat) (h : Hp) (hO : Own h A n c 48 4 (xs.flatMap V.c)) (hk : ∀ p ∈ xs, Kd p) (hl : xs.length ≤ 1000000) :
    TriS Tryd.prog 80 [.v (.slice A n c), .v (.func (.func 81) #[] #[])] [] h (fun _ : Unit => .v (.tuple #[])) (fun _ => []) (fun _ h' => ∃ ys : List V, ys.Perm xs ∧ SrtV ys ∧ Own h' A n c 48 4 (ys.flatMap V.c) ∧ ∀ b, blk A ≠ some b → h' b = h b) := by
  obtain ⟨l, rfl⟩ := kv_of xs hk
  rw [← kv_flat] at hO
  have hn : n = l.length := by have := hO.len; rw [flat_length KV.c_len] at this; omega
  have key := sort_tris (Tryd.sortV) 4 Tryd.isAgg48 Tryd.sizeOf48 KV.c KV.c_len KV.one (fun x y : KV => kc x.val y.val) (kc_swo fun x : KV => x.val) 81 (enters_of Tryd.func81 (by kernel_rfl) rfl)
    (fun W x y => le_lays (val := fun z : Int => .v (.int .i64 z)) (r := kc x.val y.val) W rfl rfl (order81 x.val y.val (hpOf W) x.ok y.ok)) l hO hn (by rw [List.length_map] at hl; omega) (f := 80) rfl (.v (.func (.func 81) #[] #[])) rfl
  intro e1 e2 vs h0 e3 e4
  refine (key e1 e2 vs h0 e3 e4).mono ?_
  rintro v h'' ⟨y, h', a, b, c, ys, hp, hs, hO', hK⟩
  refine ⟨y, h', a, b, c, ys.map KV.val, hp.map _, ?_, by rw [← kv_flat]; exact hO', hK⟩
  unfold SrtV
  rw [List.pairwise_map]
  exact hs
theorem V.one (ps : List V) : ∀ v ∈ ps.flatMap V.c, Go.Sy.one v = true := fun v hv => by
  obtain ⟨x, _, hx⟩ := List.mem_flatMap.1 hv
  simp only [V.c, List.mem_cons, List.not_mem_nil, or_false] at hx
  rcases hx with rfl | rfl | rfl | rfl <;> rfl
theorem clone84 (xs : List V) (A : Option Addr) (n c : Nat) (h : Hp) (hP : Rd V.c 4 h A n xs) (hl : xs.length ≤ 1000000) :
    TriS Tryd.prog 84 [.v (.slice A n c)] [] h (fun y : Option Addr × Nat => .v (.slice y.1 xs.length y.2)) (fun _ => []) (fun y h' => Own h' y.1 xs.length y.2 48 4 (xs.flatMap V.c) ∧ Le h h' ∧ Off h y.1) := by
  obtain rfl := hP.1
  refine enterS Tryd.func84 rfl (n := 8) rfl rfl (fun k N => ?_)
  cases A with
  | none =>
    have h0 := hP.2.nil rfl
    have : xs = [] := List.length_eq_zero_iff.1 h0
    subst this
    repeat' (first | (refine r_pure hT rfl rfl rfl rfl ?_) | (refine r_new hT rfl rfl rfl rfl ?_) | (refine r_write hT rfl rfl rfl ?_) | (refine r_nil ?_) | (refine q_nil ?_) | (refine r_slnil hT rfl rfl rfl rfl rfl rfl rfl ?_) | (refine r_arith rfl rfl rfl rfl rfl rfl rfl (by omega) ?_) | (with_reducible refine r_seq ?_) | (with_reducible refine x_then ?_) | (with_reducible refine r_region ?_) | (refine r_draw hM (by kernel_rfl) ?_) | (with_reducible refine r_skip ?_) | (with_reducible refine r_ret ?_) | (with_reducible refine x_then_ret ?_) | (with_reducible refine r_block ?_) | (with_reducible refine x_block ?_) | (with_reducible refine x_block_ret ?_) | (with_reducible refine r_exit ?_) | (with_reducible refine x_then_exit ?_) | (with_reducible refine x_block_here ?_) | (refine x_block_past rfl ?_) | (refine c_yes rfl (by omega) ?_) | (refine c_no rfl (by omega) ?_) | (refine c_no rfl (fun h => h rfl) ?_) | (refine r_cond_false rfl ?_) | (refine r_cond_true rfl ?_) | (refine r_cond_dec rfl (fun _ => ?_) (fun _ => ?_)) | (refine r_cond_true rfl ?_) | (refine r_cond_false rfl ?_) | (refine c_not rfl (fun _ => ?_) (fun _ => ?_)) | (refine r_off rfl rfl rfl ?_) | (refine q_guard rfl rfl (fun _ => ?_) (fun _ => ?_)) | (refine q_guardn rfl rfl (fun _ => ?_) (fun _ => ?_)))
    exact r_fin hT rfl ((none, 0) : Option Addr × Nat) rfl rfl rfl trivial rfl ⟨own_nil, Le.refl _, off_nil⟩
  | some ad =>
    repeat' (first | (refine r_pure hT rfl rfl rfl rfl ?_) | (refine r_new hT rfl rfl rfl rfl ?_) | (refine r_write hT rfl rfl rfl ?_) | (refine r_nil ?_) | (refine q_nil ?_) | (refine r_slnil hT rfl rfl rfl rfl rfl rfl rfl ?_) | (refine r_bslice hT (ps := []) rfl rfl rfl rfl rfl rfl rfl (by simp) rfl rfl (by decide) (fun b3 hb3 => ?_)) | ((refine r_append hT (cs := []) (news := xs.flatMap V.c) rfl rfl rfl rfl rfl rfl rfl rfl rfl rfl rfl ⟨rfl, Nat.le_refl _, fun h => (by cases h), fun a ha => (by have e := Option.some.inj ha; subst e; exact ⟨rfl, _, upd_here .., Nat.le_refl _, fun j v hj => (by simp at hj)⟩)⟩ (hP.2.le ((Le.refl h).upd hb3)) (YtkamfnmbidnhdaaDoor.V.one _) (by dsimp only; omega) (by omega) (fun A' c' u3 hO3 hG3 => ?_))) | (refine r_arith rfl rfl rfl rfl rfl rfl rfl (by omega) ?_) | (with_reducible refine r_seq ?_) | (with_reducible refine x_then ?_) | (with_reducible refine r_region ?_) | (refine r_draw hM (by kernel_rfl) ?_) | (with_reducible refine r_skip ?_) | (with_reducible refine r_ret ?_) | (with_reducible refine x_then_ret ?_) | (with_reducible refine r_block ?_) | (with_reducible refine x_block ?_) | (with_reducible refine x_block_ret ?_) | (with_reducible refine r_exit ?_) | (with_reducible refine x_then_exit ?_) | (with_reducible refine x_block_here ?_) | (refine x_block_past rfl ?_) | (refine c_yes rfl (by omega) ?_) | (refine c_no rfl (by omega) ?_) | (refine c_no rfl (fun h => h rfl) ?_) | (refine r_cond_false rfl ?_) | (refine r_cond_true rfl ?_) | (refine r_cond_dec rfl (fun _ => ?_) (fun _ => ?_)) | (refine r_cond_true rfl ?_) | (refine r_cond_false rfl ?_) | (refine c_not rfl (fun _ => ?_) (fun _ => ?_)) | (refine r_off rfl rfl rfl ?_) | (refine q_guard rfl rfl (fun _ => ?_) (fun _ => ?_)) | (refine q_guardn rfl rfl (fun _ => ?_) (fun _ => ?_)))
    have hk := hG3 h ((Le.refl h).upd hb3) (fun b hb => by have e := Option.some.inj hb; subst e; exact hb3)
    have e0 : 0 + xs.length = xs.length := by omega
    rw [e0] at hO3 ⊢
    exact r_fin hT rfl (A', c') rfl rfl rfl trivial rfl ⟨by simpa using hO3, hk.1, hk.2⟩
end Go.Proofs.YtkamfnmbidnhdaaDoor
/- The walk by a symbolic frame: zero elements appended to no slice; a slice of one's own cleared; slices of rows of one's own. Over any program; no condition. -/
namespace Go.Sy
set_option linter.unusedSimpArgs false
set_option linter.unusedVariables false
theorem zeroCells_reps (z : List Value) (n : Nat) (hz : z ≠ []) : Builtin.zeroCells z.toArray n = (reps n z).toArray := by
  have := made_reps z n hz
  unfold madeCells at this
  unfold Builtin.zeroCells
  simpa using this
section
variable {P : Program} {T : List (Nat × TI)} {F : Fr} {tm : Tm} {L : Lm} {u : Hp} {Q : Exit → Act → World → Prop}
/-- append(nil, make([]T, n)...), n at least one. -/
theorem r_appz (hT : TOK P T) {l : List Oper} {o : Oper} {r : List Oper} {d : Nat} {t t2 e : TypeId} {ti te ti2 : TI} {x y : Operand} {kq kn : IntKind} {m : Nat}
    (hw : wantE l tm o = some true) (ho : o.dst = some d) (hn : Nat.blt d F.n.z = true) (hop : o.op = .call { callee := .builtin .append, args := #[x, y], argTypes := #[t, t2] })
    (ht : kget T t = some ti) (hk : ti.kind = .slice e) (he : kget T e = some te) (hz0 : te.zero ≠ []) (ht2 : kget T t2 = some ti2) (hk2 : ti2.kind = .int kn)
    (hx : ev tm x = some (.v (.slice none 0 0))) (hy : ev tm y = some (.v (.int kq (m : Int)))) (h0 : 0 < m) (h63 : (m : Int) ≤ 9223372036854775807) (hb : m * te.bytes ≤ 281474976710656)
    (next : ∀ A' c' u', Own u' A' m c' e te.size (reps m (te.zero.map ZV.val)) → Le u u' → Off u A' → Run P Q F ((d, .v (.slice A' m c')) :: tm) L u' .seq l r) :
    Run P Q F tm L u .seq l (o :: r) := by
  refine op_any hw ho hn (fun β a w hf ht' hd => ?_)
  obtain ⟨i, z, hi, hsz, hby, hz, hzc, hzl⟩ := chk_info (hT e te he)
  have hu2 : P.underlying t2 = some (.int kn) := by
    obtain ⟨d, hd, h⟩ := chk_desc (hT t2 ti2 ht2)
    rw [hk2] at h
    cases d <;> simp [kfits] at h
    subst h; exact hd
  have hne : te.zero.map ZV.val ≠ [] := by simpa using hz0
  have hs0 : 0 < te.size := by rw [← hzl]; exact List.length_pos_iff.2 hz0
  have hrun := Lib.run_append_nil_zeros (P := P) w t t2 o.type e i z kq kn (elem_of hT ht hk) hu2 hi hz m h0 (by rw [hsz]; exact hs0) h63 (by rw [hby]; exact hb)
  rw [hzc, zeroCells_reps _ _ hne, zeroCells_reps _ _ hne] at hrun
  have hge := grownCap_ge w m 0 e
  have hl1 : (reps m (te.zero.map ZV.val)).length = m * te.size := by rw [reps_length, List.length_map, hzl]
  refine ⟨β, w.drew.alloc (.cells ((reps m (te.zero.map ZV.val)).toArray ++ (reps (grownCap w m 0 e - m) (te.zero.map ZV.val)).toArray) e), .v (.slice (some ⟨w.heap.size, 0, none⟩) m (grownCap w m 0 e)), L, _, ?_, hf, ht', den_ext_new hd rfl ⟨rfl, rfl, rfl, (by first | exact Nat.le_refl _ | exact Nat.le_succ _)⟩, rfl,
    next _ _ _ ⟨hl1, hge, fun h => (by cases h), fun a ha => ?_⟩ ((Le.refl u).upd hd.fresh) (fun b hb' => by have e' := Option.some.inj hb'; subst e'; exact hd.fresh)⟩
  · simp [execOp, hop, ev_ok ht' hx, ev_ok ht' hy, SV.den, resolve, invoke, builtin, hrun]
  · have e' := Option.some.inj ha; subst e'
    refine ⟨rfl, _, upd_here .., ?_, fun j v hj => ?_⟩
    · simp only [Array.size_append, List.size_toArray, hl1, reps_length, List.length_map, hzl, Nat.zero_add]
      rw [← Nat.add_mul]
      exact Nat.le_of_eq (by congr 1; omega)
    · simp only [Nat.zero_add]
      have hj' := (List.getElem?_eq_some_iff.1 hj).1
      rw [Array.getElem?_append_left (by simpa using hj')]; simpa using hj
/-- One operation whose value nothing takes. -/
theorem op_any_none {l : List Oper} {o : Oper} {r : List Oper} (hw : wantE l tm o = some true) (ho : o.dst = none)
    (h : ∀ β a w, Fence F L β → RelT F.n L β tm a → Den β L u F.k F.N w → ∃ β' w' v L' u', (execOp a.eval o).run P w = .ok (.value v) w' ∧ Fence F L' β' ∧ RelT F.n L' β' tm a ∧ Den β' L' u' F.k F.N w' ∧
      St F tm L' u' (fun a w => wpList P l.toArray Q r a w)) : St F tm L u (fun a w => wpList P l.toArray Q (o :: r) a w) := by
  intro β a w hf ht hd
  obtain ⟨β', w', v, L', u', h1, h2, h3, h4, next⟩ := h β a w hf ht hd
  show (if _ then _ else _)
  rw [if_pos (wantE_ok hw ht)]
  refine .inl ?_
  unfold Oper.wp
  rw [h1, Oper.upon_value, ho]
  exact next β' _ w' h2 h3 h4
/-- clear(x), x a slice in a row of one's own. -/
theorem r_clear (hT : TOK P T) {l : List Oper} {o : Oper} {r : List Oper} {t e : TypeId} {ti te : TI} {x : Operand} {b off m c cc n0 : Nat} {ws : List Value} {q : Nat}
    (hO : Own u (some ⟨b, off, none⟩) n0 cc e te.size ws) (hw : wantE l tm o = some true) (ho : o.dst = none) (hop : o.op = .call { callee := .builtin .clear, args := #[x], argTypes := #[t] })
    (ht : kget T t = some ti) (hk : ti.kind = .slice e) (he : kget T e = some te) (hz0 : te.zero ≠ []) (hx : ev tm x = some (.v (.slice (some ⟨b, off + q, none⟩) m c))) (hq : q + m * te.size ≤ ws.length) (hm : 0 < m)
    (next : ∀ u', Own u' (some ⟨b, off, none⟩) n0 cc e te.size (setL ws q (reps m (te.zero.map ZV.val))) → (∀ x, x ≠ b → u' x = u x) → Run P Q F tm L u' .seq l r) :
    Run P Q F tm L u .seq l (o :: r) := by
  obtain ⟨_, arr, g1, g2, g3⟩ := hO.row _ rfl
  simp only at g1 g2 g3
  obtain ⟨i, z, hi, hsz, hby, hz, hzc, hzl⟩ := chk_info (hT e te he)
  have hne : te.zero.map ZV.val ≠ [] := by simpa using hz0
  have hl1 : (reps m (te.zero.map ZV.val)).length = m * te.size := by rw [reps_length, List.length_map, hzl]
  have hfit : off + q + m * te.size ≤ arr.size := by
    have := hO.len; have := Nat.mul_le_mul_right te.size hO.cap; omega
  have h1 : ∀ v ∈ reps m (te.zero.map ZV.val), one v = true := fun v hv => by
    obtain ⟨j, hj, rfl⟩ := List.mem_iff_getElem.1 hv
    have h2 := reps_get m (te.zero.map ZV.val) j (by rw [List.length_map, hzl]; rw [hl1] at hj; exact hj)
    rw [List.getElem?_eq_getElem hj] at h2
    obtain ⟨y, _, hy⟩ := List.mem_map.1 (List.mem_of_getElem? h2.symm)
    rw [← hy]
    cases y <;> rfl
  refine op_any_none hw ho (fun β a w hf ht' hd => ?_)
  obtain ⟨w', hst, hu⟩ := run_storeCells (P := P) (b := b) (off + q) (reps m (te.zero.map ZV.val)) 0 w arr (hd.ext b _ g1).1 (by rw [hl1]; omega) h1
  simp only [Nat.add_zero] at hu
  refine ⟨β, w', .tuple #[], L, _, ?_, hf, ht', den_ext_set hd g1 hu, next _ (own_set hO g1 (by rw [hl1]; exact hq)) (fun x hx => upd_ne hx)⟩
  have hz' : (zeroValue e).run P w = .ok z w := by simp [zeroValue, typeInfo, program, Sem.run, hi, hz]
  obtain ⟨m', rfl⟩ : ∃ m', m = m' + 1 := ⟨m - 1, by omega⟩
  have hzz : (Builtin.zeroCells z.cells (m' + 1)).toList = reps (m' + 1) (te.zero.map ZV.val) := by rw [hzc, zeroCells_reps _ _ hne]
  simp [execOp, hop, ev_ok ht' hx, SV.den, resolve, invoke, builtin, Builtin.clear_, run_und (elem_of hT ht hk), hz', hzz, hst]
end
/-- The rest of a row of one's own. -/
theorem Own.drop {u : Hp} {b off n c e sz k : Nat} {cs : List Value} (h : Own u (some ⟨b, off, none⟩) n c e sz cs) (hk : k ≤ n) : Own u (some ⟨b, off + k * sz, none⟩) (n - k) (c - k) e sz (cs.drop (k * sz)) := by
  obtain ⟨_, arr, g1, g2, g3⟩ := h.row _ rfl
  simp only at g1 g2 g3
  have hc := h.cap
  have e1 : (n - k) * sz + k * sz = n * sz := by rw [← Nat.add_mul]; congr 1; omega
  have e2 : (c - k) * sz + k * sz = c * sz := by rw [← Nat.add_mul]; congr 1; omega
  refine ⟨by rw [List.length_drop, h.len]; omega, by omega, fun h => (by cases h), fun a ha => ?_⟩
  have e' := Option.some.inj ha; subst e'
  refine ⟨rfl, arr, g1, by dsimp only; omega, fun j v hj => ?_⟩
  rw [List.getElem?_drop] at hj
  dsimp only
  rw [Nat.add_assoc]
  exact g3 _ v hj
theorem Own.take {u : Hp} {A : Option Addr} {n c e sz k : Nat} {cs : List Value} (h : Own u A n c e sz cs) (hk : k ≤ n) : Own u A k c e sz (cs.take (k * sz)) := by
  have hc := h.cap
  have := Nat.mul_le_mul_right sz hk
  refine ⟨by rw [List.length_take, h.len]; omega, by omega, h.nil, fun a ha => ?_⟩
  obtain ⟨g0, arr, g1, g2, g3⟩ := h.row a ha
  refine ⟨g0, arr, g1, g2, fun j v hj => ?_⟩
  rw [List.getElem?_take] at hj
  split at hj
  · exact g3 j v hj
  · cases hj
end Go.Sy
/- Where two graphs part, in plain words: the queue of impl's, the line of spec's; both answer the same; the answer is empty just where both look the same. No program in sight; no condition. -/
namespace Go.Sy
set_option linter.unusedVariables false
set_option linter.unusedSimpArgs false
/-- What a table has at a key. -/
def fdV (t : List Pr) (k : V) : V := (fndO t k).getD nvV
/-- A list, of neighbours that are equal only the first. -/
def lastIs (out : List V) (x : V) : Bool := match out.getLast? with
  | some y => vEq y x
  | none => false
def pushV (out : List V) (x : V) : List V := if lastIs out x = true then out else out ++ [x]
def cmpV (l : List V) : List V := l.foldl pushV []
/-- The keys of two tables in order, each once. -/
def ukey (s t : List Pr) : List V := cmpV (ksort (s.map Pr.key ++ t.map Pr.key))
abbrev AE := (Nat × Nat) × List V
def inL (L : List AE) (x y : Nat) : Bool := L.any fun e => e.1.1 == x && e.1.2 == y
def stI (s t : List Pr) (path : List V) : List V → List AE → List V ⊕ List AE
  | [], L => .inr L
  | k :: ks, L =>
    if (fdV s k).k = 4 ∧ (fdV t k).k = 4 then
      stI s t path ks (if inL L (fdV s k).a.toNat (fdV t k).a.toNat = true then L else L ++ [(((fdV s k).a.toNat, (fdV t k).a.toNat), path ++ [k])])
    else if vEq (fdV s k) (fdV t k) = true then stI s t path ks L else .inl (path ++ [k])
def runI (a b : List (List Pr)) : Nat → List AE → Nat → List V
  | 0, _, _ => []
  | f + 1, L, i => match L[i]? with
    | none => []
    | some e => match stI (tabA a e.1.1) (tabA b e.1.2) e.2 (ukey (tabA a e.1.1) (tabA b e.1.2)) L with
      | .inl p => p
      | .inr L' => runI a b f L' (i + 1)
/-! ### the keys -/
/-! ### what the steps keep -/
theorem stI_pre {s t : List Pr} {path : List V} : ∀ (ks : List V) (L L' : List AE), stI s t path ks L = .inr L' → L <+: L'
  | [], L, L', h => by simp only [stI, Sum.inr.injEq] at h; rw [h]; exact List.prefix_rfl
  | k :: ks, L, L', h => by
    unfold stI at h
    by_cases h1 : (fdV s k).k = 4 ∧ (fdV t k).k = 4
    · rw [if_pos h1] at h
      have := stI_pre ks _ L' h
      split at this
      · exact this
      · exact (List.prefix_append _ _).trans this
    · rw [if_neg h1] at h
      by_cases h2 : vEq (fdV s k) (fdV t k) = true
      · rw [if_pos h2] at h; exact stI_pre ks L L' h
      · rw [if_neg h2] at h; cases h
end Go.Sy
/- The walk by a symbolic frame: cap of a slice. Over any program; no condition. -/
namespace Go.Sy
set_option linter.unusedVariables false
section
variable {P : Program} {F : Fr} {tm : Tm} {L : Lm} {u : Hp} {Q : Exit → Act → World → Prop}
theorem r_cap {q : Md} {l : List Oper} {o : Oper} {r : List Oper} {d : Nat} {t e : TypeId} {x : Operand} {A : Option Addr} {m c : Nat} (ht : P.underlying t = some (.slice e))
    (hw : wantE l tm o = some true) (ho : o.dst = some d) (hn : Nat.blt d F.n.z = true) (hop : o.op = .call { callee := .builtin .cap, args := #[x], argTypes := #[t] }) (hx : ev tm x = some (.v (.slice A m c)))
    (next : Run P Q F ((d, .v (.int .i64 (c : Int))) :: tm) L u q l r) : Run P Q F tm L u q l (o :: r) := by
  refine op_pure hw ho hn (fun β a w ht' hd => ⟨?_, rfl⟩) next
  have h1 : a.eval x = .slice A m c := by rw [ev_ok ht' hx, SV.den]
  simp [execOp, hop, h1, resolve, invoke, builtin, Builtin.cap_, run_und ht, SV.den, goInt]
end
end Go.Sy
/- Rows with an element put anew; owned rows with a row put anew. Plain. -/
namespace Go.Sy
theorem set_flat {α : Type} {c : α → List Value} {sz : Nat} (hc : ∀ x, (c x).length = sz) (xs : List α) {i : Nat} (x : α) (hi : i < xs.length) : setL (xs.flatMap c) (i * sz) (c x) = (xs.set i x).flatMap c := by
  have h1 : ((xs.take i).flatMap c).length = i * sz := by rw [flat_length hc, List.length_take, Nat.min_eq_left (by omega)]
  have h2 : xs = xs.take i ++ xs[i] :: xs.drop (i + 1) := by rw [← List.drop_eq_getElem_cons hi, List.take_append_drop]
  rw [List.set_eq_take_append_cons_drop, if_pos hi]
  conv => lhs; rw [h2]
  simp only [setL, List.flatMap_append, List.flatMap_cons]
  rw [List.take_left' h1]
  congr 2
  rw [List.drop_append, List.drop_eq_nil_of_le (by omega), List.nil_append, h1, hc, show i * sz + sz - i * sz = sz by omega, List.drop_left' (hc _)]
/-- A header put anew: rows to be read. -/
theorem OTG.put {α : Type} {cc : α → List Value} {sz : Nat} {u u' : Hp} {eT eP : TypeId} {A : Option Addr} {n c : Nat} {hs : List Hd} {ts : List (List α)} (h : OTG cc sz u eT eP A n c hs ts) {i : Nat} {y : Hd} {t : List α}
    (hO : Own u' A n c eT 1 ((hs.set i y).flatMap Hd.v)) (hy : Own u' y.A y.n y.c eP sz (t.flatMap cc)) (hn : y.n = t.length) (hk : ∀ b o, blk A ≠ some b → u b = some o → u' b = some o) : TabG cc sz u' A n (ts.set i t) := by
  refine ⟨hs.set i y, by simp [h.rows.len], ⟨by rw [List.length_set, h.num, h.rows.len], hO.sl⟩, fun j x s hx hs' => ?_⟩
  rw [List.getElem?_set] at hx hs'
  by_cases hj : i = j
  · subst hj
    rw [if_pos rfl] at hx hs'
    have e : i < hs.length := by
      by_cases e : i < hs.length
      · exact e
      · rw [if_neg e] at hx; cases hx
    have e2 : i < ts.length := by rw [← h.rows.len]; exact e
    rw [if_pos e] at hx
    rw [if_pos e2] at hs'
    obtain rfl := Option.some.inj hx
    obtain rfl := Option.some.inj hs'
    exact ⟨hy.cap, hn, hy.sl⟩
  · rw [if_neg hj] at hx hs'
    obtain ⟨g1, g2⟩ := h.rows.rows j x s hx hs'
    have g3 := g2.le (u' := u') fun b o hb ho => hk b o (fun e => (h.rows.apart j x b hx hb).1 e) ho
    exact ⟨g3.cap, g1, g3.sl⟩
/-- A row put anew. -/
theorem OTG.row {α : Type} {cc : α → List Value} {sz : Nat} {u u' : Hp} {eT eP : TypeId} {A : Option Addr} {n c : Nat} {hs : List Hd} {ts : List (List α)} (h : OTG cc sz u eT eP A n c hs ts) {i : Nat} {t t' : List α} {y : Hd} (ht : ts[i]? = some t) (hy : hs[i]? = some y) (hl : t'.length = t.length)
    (hO : Own u' y.A y.n y.c eP sz (t'.flatMap cc)) (hu : ∀ b, blk y.A ≠ some b → u' b = u b) : OTG cc sz u' eT eP A n c hs (ts.set i t') := by
  have hi : i < ts.length := (List.getElem?_eq_some_iff.1 ht).1
  have e := (List.getElem?_eq_some_iff.1 ht).2
  have h2 : ts = ts.take i ++ t :: ts.drop (i + 1) := by rw [← e, ← List.drop_eq_getElem_cons hi, List.take_append_drop]
  have h3 : (ts.take i).length = i := by rw [List.length_take, Nat.min_eq_left (by omega)]
  rw [List.set_eq_take_append_cons_drop, if_pos hi]
  rw [h2] at h
  exact h.set (by rw [h3]; exact hy) hl hO hu
end Go.Sy
/- slices.Grow, Concat and Compact as impl.Apart calls them. No condition. -/
namespace Go.Sy
theorem cmpV_snoc (l : List V) (x : V) : cmpV (l ++ [x]) = pushV (cmpV l) x := by unfold cmpV; rw [List.foldl_append]; rfl
theorem pushV_last (out : List V) (x : V) : (pushV out x).getLast? = some x := by
  unfold pushV
  split
  · rename_i h
    unfold lastIs at h
    cases hl : out.getLast? with
    | none => rw [hl] at h; cases h
    | some z => rw [hl] at h; rw [vEq_iff.1 h]
  · simp
theorem cmpV_last : ∀ l : List V, (cmpV l).getLast? = l.getLast? := fun l => by
  rcases List.eq_nil_or_concat l with rfl | ⟨l', x, rfl⟩
  · rfl
  · rw [List.concat_eq_append, cmpV_snoc, pushV_last]; simp
/-- One more of a list: at the place behind y stands x. -/
theorem cmpV_next {xs : List V} {i : Nat} {x y : V} (hy : xs[i]? = some y) (hx : xs[i + 1]? = some x) : cmpV (xs.take (i + 2)) = if y = x then cmpV (xs.take (i + 1)) else cmpV (xs.take (i + 1)) ++ [x] := by
  rw [take_snoc hx, cmpV_snoc]
  have hl : (cmpV (xs.take (i + 1))).getLast? = some y := by rw [cmpV_last, take_snoc hy]; simp
  unfold pushV lastIs
  rw [hl]
  by_cases h : y = x
  · rw [if_pos (vEq_iff.2 h), if_pos h]
  · rw [if_neg (fun e => h (vEq_iff.1 e)), if_neg h]
theorem cmpV_len : ∀ l : List V, (cmpV l).length ≤ l.length := by
  intro l
  have : ∀ (l out : List V), (l.foldl pushV out).length ≤ out.length + l.length := fun l => by
    induction l with
    | nil => intro out; simp
    | cons x r ih =>
      intro out
      rw [List.foldl_cons]
      have := ih (pushV out x)
      have h2 : (pushV out x).length ≤ out.length + 1 := by unfold pushV; split <;> simp
      simp only [List.length_cons]; omega
  simpa [cmpV] using this l []
theorem own_sub0 {u : Hp} {A : Option Addr} {n c e sz : Nat} {cs : List Value} (h : Own u A n c e sz cs) (k : Nat) : subA A c 0 k = A := by
  cases A with
  | none => unfold subA; split <;> rfl
  | some a =>
    obtain ⟨g0, _⟩ := h.row a rfl
    unfold subA
    split
    · rfl
    · obtain ⟨b, o, sp⟩ := a
      simp only at g0
      subst g0
      simp [Addr.add]
end Go.Sy
namespace Go.Proofs.YtkamfnmbidnhdaaDoor
open Go.Sy
set_option maxRecDepth 100000
set_option maxHeartbeats 4000000
set_option linter.unusedVariables false
set_option linter.unusedSimpArgs false
theorem grow119 (m : Nat) (h : Hp) (hm : m ≤ 1000000) :
    TriS Tryd.prog 119 [.v (.slice none 0 0), .v (.int .i64 (m : Int))] [] h (fun y : Option Addr × Nat => .v (.slice y.1 0 y.2)) (fun _ => []) (fun y h' => Own h' y.1 0 y.2 61 8 [] ∧ Le h h' ∧ Off h y.1) := by
  refine enterS Tryd.func119 rfl (n := 27) rfl rfl (fun k N => ?_)
  by_cases h0 : m = 0
  · repeat' (first | (refine r_pure hT rfl rfl rfl rfl ?_) | (refine r_new hT rfl rfl rfl rfl ?_) | (refine r_write hT rfl rfl rfl ?_) | (refine r_nil ?_) | (refine q_nil ?_) | (refine r_cap Tryd.underlying57 rfl rfl rfl rfl rfl ?_) | (refine r_arith rfl rfl rfl rfl rfl rfl rfl (by omega) ?_) | (with_reducible refine r_seq ?_) | (with_reducible refine x_then ?_) | (with_reducible refine r_region ?_) | (refine r_draw hM (by kernel_rfl) ?_) | (with_reducible refine r_skip ?_) | (with_reducible refine r_ret ?_) | (with_reducible refine x_then_ret ?_) | (with_reducible refine r_block ?_) | (with_reducible refine x_block ?_) | (with_reducible refine x_block_ret ?_) | (with_reducible refine r_exit ?_) | (with_reducible refine x_then_exit ?_) | (with_reducible refine x_block_here ?_) | (refine x_block_past rfl ?_) | (refine c_yes rfl (by omega) ?_) | (refine c_no rfl (by omega) ?_) | (refine c_no rfl (fun h => h rfl) ?_) | (refine r_cond_false rfl ?_) | (refine r_cond_true rfl ?_) | (refine r_cond_dec rfl (fun _ => ?_) (fun _ => ?_)) | (refine r_cond_true rfl ?_) | (refine r_cond_false rfl ?_) | (refine c_not rfl (fun _ => ?_) (fun _ => ?_)) | (refine r_off rfl rfl rfl ?_) | (refine q_guard rfl rfl (fun _ => ?_) (fun _ => ?_)) | (refine q_guardn rfl rfl (fun _ => ?_) (fun _ => ?_)))
    exact r_fin hT rfl ((none, 0) : Option Addr × Nat) rfl rfl rfl trivial rfl ⟨own_nil, Le.refl _, off_nil⟩
  · repeat' (first | (refine r_pure hT rfl rfl rfl rfl ?_) | (refine r_new hT rfl rfl rfl rfl ?_) | (refine r_write hT rfl rfl rfl ?_) | (refine r_nil ?_) | (refine q_nil ?_) | (refine r_cap Tryd.underlying57 rfl rfl rfl rfl rfl ?_) | (refine r_arith (c := (m : Int)) rfl rfl rfl rfl rfl rfl rfl (by omega) ?_) | ((refine r_slice0 (hi := 0) (A := none) hT rfl rfl rfl rfl rfl rfl rfl rfl rfl (Nat.zero_le _) ?_)) | ((refine r_slice0 (hi := 0) hT rfl rfl rfl rfl rfl rfl rfl rfl rfl (Nat.zero_le _) ?_ ; rw [own_sub0 hO, Nat.sub_zero, Nat.sub_zero])) | (refine r_appz (t := 57) hT rfl rfl rfl rfl rfl rfl rfl (by simp) rfl rfl rfl rfl (by omega) (by omega) (by dsimp only; omega) (fun A' c' u' hO hl hof => ?_)) | (refine r_arith rfl rfl rfl rfl rfl rfl rfl (by omega) ?_) | (with_reducible refine r_seq ?_) | (with_reducible refine x_then ?_) | (with_reducible refine r_region ?_) | (refine r_draw hM (by kernel_rfl) ?_) | (with_reducible refine r_skip ?_) | (with_reducible refine r_ret ?_) | (with_reducible refine x_then_ret ?_) | (with_reducible refine r_block ?_) | (with_reducible refine x_block ?_) | (with_reducible refine x_block_ret ?_) | (with_reducible refine r_exit ?_) | (with_reducible refine x_then_exit ?_) | (with_reducible refine x_block_here ?_) | (refine x_block_past rfl ?_) | (refine c_yes rfl (by omega) ?_) | (refine c_no rfl (by omega) ?_) | (refine c_no rfl (fun h => h rfl) ?_) | (refine r_cond_false rfl ?_) | (refine r_cond_true rfl ?_) | (refine r_cond_dec rfl (fun _ => ?_) (fun _ => ?_)) | (refine r_cond_true rfl ?_) | (refine r_cond_false rfl ?_) | (refine c_not rfl (fun _ => ?_) (fun _ => ?_)) | (refine r_off rfl rfl rfl ?_) | (refine q_guard rfl rfl (fun _ => ?_) (fun _ => ?_)) | (refine q_guardn rfl rfl (fun _ => ?_) (fun _ => ?_)))
    exact r_fin hT rfl ((A', c') : Option Addr × Nat) rfl rfl rfl trivial rfl ⟨by have := hO.take (Nat.zero_le _); simpa using this, hl, hof⟩
theorem flat_take_succ {tt : List (List Pr)} {i : Nat} {t : List Pr} (h : tt[i]? = some t) : (tt.take (i + 1)).flatten = (tt.take i).flatten ++ t := by
  rw [take_snoc h, List.flatten_append]; simp
theorem flat_take_le (tt : List (List Pr)) (i : Nat) : (tt.take i).flatten.length ≤ tt.flatten.length := by
  have h := congrArg (fun l => l.flatten.length) (List.take_append_drop i tt)
  simp only [List.flatten_append, List.length_append] at h
  omega
theorem concat79 (tt : List (List Pr)) (B : Option Addr) (n c : Nat) (h : Hp) (hP : Tabs h B n tt) (hl : tt.flatten.length ≤ 100000) (hl2 : tt.length ≤ 100000) :
    TriS Tryd.prog 79 [.v (.slice B n c)] [] h (fun y : Option Addr × Nat => .v (.slice y.1 tt.flatten.length y.2)) (fun _ => []) (fun y h' => Own h' y.1 tt.flatten.length y.2 61 8 (tt.flatten.flatMap Pr.c) ∧ Le h h' ∧ Off h y.1) := by
  have hn := hP.len
  subst hn
  refine enterS Tryd.func79 rfl (n := 36) rfl rfl (fun k N => ?_)
  repeat' (first | (refine r_pure hT rfl rfl rfl rfl ?_) | (refine r_new hT rfl rfl rfl rfl ?_) | (refine r_write hT rfl rfl rfl ?_) | (refine r_nil ?_) | (refine q_nil ?_) | (refine r_arith rfl rfl rfl rfl rfl rfl rfl (by omega) ?_) | (with_reducible refine r_seq ?_) | (with_reducible refine x_then ?_) | (with_reducible refine r_region ?_) | (refine r_draw hM (by kernel_rfl) ?_) | (with_reducible refine r_skip ?_) | (with_reducible refine r_ret ?_) | (with_reducible refine x_then_ret ?_) | (with_reducible refine r_block ?_) | (with_reducible refine x_block ?_) | (with_reducible refine x_block_ret ?_) | (with_reducible refine r_exit ?_) | (with_reducible refine x_then_exit ?_) | (with_reducible refine x_block_here ?_) | (refine x_block_past rfl ?_) | (refine c_yes rfl (by omega) ?_) | (refine c_no rfl (by omega) ?_) | (refine c_no rfl (fun h => h rfl) ?_) | (refine r_cond_false rfl ?_) | (refine r_cond_true rfl ?_) | (refine r_cond_dec rfl (fun _ => ?_) (fun _ => ?_)) | (refine r_cond_true rfl ?_) | (refine r_cond_false rfl ?_) | (refine c_not rfl (fun _ => ?_) (fun _ => ?_)) | (refine r_off rfl rfl rfl ?_) | (refine q_guard rfl rfl (fun _ => ?_) (fun _ => ?_)) | (refine q_guardn rfl rfl (fun _ => ?_) (fun _ => ?_)))
  refine r_loop (γ := Nat) (fun i => i ≤ tt.length) (fun i => [(0, .v (.slice B tt.length c)), (3, .v (.int .i64 ((tt.take i).flatten.length : Int))), (9, .v (.slice B tt.length c)), (10, .v (.int .i64 (tt.length : Int))), (11, .v (.int .i64 (i : Int)))]) (fun _ => []) (fun _ => h) (fun i => tt.length - i)
    0 (Nat.zero_le _) (into rfl ⟨rfl, rfl, rfl, rfl, rfl, trivial⟩ trivial rfl rfl) ?_
  intro i hi
  by_cases hlt : i < tt.length
  · obtain ⟨b, off, A1, n1, c1, t, rfl, _, hix, hm, hat, hc1, hp1⟩ := hP.elem hlt
    obtain rfl := hp1.1
    have h1 := flat_take_le tt (i + 1)
    have h2 := flat_take_succ hix
    have h3 := congrArg List.length h2
    rw [List.length_append] at h3
    repeat' (first | (refine r_pure hT rfl rfl rfl rfl ?_) | (refine r_new hT rfl rfl rfl rfl ?_) | (refine r_write hT rfl rfl rfl ?_) | (refine r_nil ?_) | (refine q_nil ?_) | (refine r_indexN hT rfl rfl rfl rfl rfl rfl rfl rfl rfl hlt ?_) | (refine r_load hT hat rfl rfl rfl rfl rfl (Nat.add_zero _).symm rfl rfl rfl rfl rfl ?_) | (refine r_arith rfl rfl rfl rfl rfl rfl rfl (by omega) ?_) | (with_reducible refine r_seq ?_) | (with_reducible refine x_then ?_) | (with_reducible refine r_region ?_) | (refine r_draw hM (by kernel_rfl) ?_) | (with_reducible refine r_skip ?_) | (with_reducible refine r_ret ?_) | (with_reducible refine x_then_ret ?_) | (with_reducible refine r_block ?_) | (with_reducible refine x_block ?_) | (with_reducible refine x_block_ret ?_) | (with_reducible refine r_exit ?_) | (with_reducible refine x_then_exit ?_) | (with_reducible refine x_block_here ?_) | (refine x_block_past rfl ?_) | (refine c_yes rfl (by omega) ?_) | (refine c_no rfl (by omega) ?_) | (refine c_no rfl (fun h => h rfl) ?_) | (refine r_cond_false rfl ?_) | (refine r_cond_true rfl ?_) | (refine r_cond_dec rfl (fun _ => ?_) (fun _ => ?_)) | (refine r_cond_true rfl ?_) | (refine r_cond_false rfl ?_) | (refine c_not rfl (fun _ => ?_) (fun _ => ?_)) | (refine r_off rfl rfl rfl ?_) | (refine q_guard rfl rfl (fun _ => ?_) (fun _ => ?_)) | (refine q_guardn rfl rfl (fun _ => ?_) (fun _ => ?_)))
    exact x_round (i + 1) hlt (by omega) (into rfl ⟨rfl, congrArg (fun z : Int => some (SV.v (.int .i64 z))) (by rw [h3]; push_cast; rfl), rfl, rfl, rfl, trivial⟩ trivial rfl rfl)
  · obtain rfl : i = tt.length := by omega
    rw [List.take_length]
    repeat' (first | (refine r_pure hT rfl rfl rfl rfl ?_) | (refine r_new hT rfl rfl rfl rfl ?_) | (refine r_write hT rfl rfl rfl ?_) | (refine r_nil ?_) | (refine q_nil ?_) | (refine r_call (grow119 tt.flatten.length h (by omega)) rfl rfl rfl rfl rfl (hC _ rfl) rfl rfl (fun y0 u0 hy0 => ?_)) | (refine r_arith rfl rfl rfl rfl rfl rfl rfl (by omega) ?_) | (with_reducible refine r_seq ?_) | (with_reducible refine x_then ?_) | (with_reducible refine r_region ?_) | (refine r_draw hM (by kernel_rfl) ?_) | (with_reducible refine r_skip ?_) | (with_reducible refine r_ret ?_) | (with_reducible refine x_then_ret ?_) | (with_reducible refine r_block ?_) | (with_reducible refine x_block ?_) | (with_reducible refine x_block_ret ?_) | (with_reducible refine r_exit ?_) | (with_reducible refine x_then_exit ?_) | (with_reducible refine x_block_here ?_) | (refine x_block_past rfl ?_) | (refine c_yes rfl (by omega) ?_) | (refine c_no rfl (by omega) ?_) | (refine c_no rfl (fun h => h rfl) ?_) | (refine r_cond_false rfl ?_) | (refine r_cond_true rfl ?_) | (refine r_cond_dec rfl (fun _ => ?_) (fun _ => ?_)) | (refine r_cond_true rfl ?_) | (refine r_cond_false rfl ?_) | (refine c_not rfl (fun _ => ?_) (fun _ => ?_)) | (refine r_off rfl rfl rfl ?_) | (refine q_guard rfl rfl (fun _ => ?_) (fun _ => ?_)) | (refine q_guardn rfl rfl (fun _ => ?_) (fun _ => ?_)))
    obtain ⟨hO0, hl0, hof0⟩ := hy0
    have hP0 := hP.le hl0
    refine r_loop (γ := (Nat × Hp) × (Option Addr × Nat)) (fun g => g.1.1 ≤ tt.length ∧ Le h g.1.2 ∧ Off h g.2.1 ∧ Own g.1.2 g.2.1 (tt.take g.1.1).flatten.length g.2.2 61 8 ((tt.take g.1.1).flatten.flatMap Pr.c)) (fun g => [(6, .v (.slice g.2.1 (tt.take g.1.1).flatten.length g.2.2)), (25, .v (.slice B tt.length c)), (26, .v (.int .i64 (tt.length : Int))), (27, .v (.int .i64 (g.1.1 : Int)))]) (fun _ => []) (fun g => g.1.2) (fun g => tt.length - g.1.1)
      ((0, u0), y0) ⟨Nat.zero_le _, hl0, hof0, hO0⟩ (into rfl ⟨rfl, rfl, rfl, rfl, trivial⟩ trivial rfl rfl) ?_
    rintro ⟨⟨i, u⟩, ⟨A', c'⟩⟩ ⟨hi, hlu, hofu, hOu⟩
    dsimp only at *
    by_cases hlt : i < tt.length
    · obtain ⟨b, off, A1, n1, c1, t, rfl, _, hix, hm, hat, hc1, hp1⟩ := (hP.le hlu).elem hlt
      obtain rfl := hp1.1
      have h1 := flat_take_le tt (i + 1)
      have h2 := flat_take_succ hix
      have h3 := congrArg List.length h2
      rw [List.length_append] at h3
      repeat' (first | (refine r_pure hT rfl rfl rfl rfl ?_) | (refine r_new hT rfl rfl rfl rfl ?_) | (refine r_write hT rfl rfl rfl ?_) | (refine r_nil ?_) | (refine q_nil ?_) | (refine r_indexN hT rfl rfl rfl rfl rfl rfl rfl rfl rfl hlt ?_) | (refine r_load hT hat rfl rfl rfl rfl rfl (Nat.add_zero _).symm rfl rfl rfl rfl rfl ?_) | (refine r_append (t := 57) hT (cs := (tt.take i).flatten.flatMap Pr.c) (news := t.flatMap Pr.c) rfl rfl rfl rfl rfl rfl rfl rfl rfl rfl rfl hOu hp1.2 (Pr.one _) (by dsimp only; omega) (by omega) (fun A6 c6 u6 hO6 hG6 => ?_)) | (refine r_arith rfl rfl rfl rfl rfl rfl rfl (by omega) ?_) | (with_reducible refine r_seq ?_) | (with_reducible refine x_then ?_) | (with_reducible refine r_region ?_) | (refine r_draw hM (by kernel_rfl) ?_) | (with_reducible refine r_skip ?_) | (with_reducible refine r_ret ?_) | (with_reducible refine x_then_ret ?_) | (with_reducible refine r_block ?_) | (with_reducible refine x_block ?_) | (with_reducible refine x_block_ret ?_) | (with_reducible refine r_exit ?_) | (with_reducible refine x_then_exit ?_) | (with_reducible refine x_block_here ?_) | (refine x_block_past rfl ?_) | (refine c_yes rfl (by omega) ?_) | (refine c_no rfl (by omega) ?_) | (refine c_no rfl (fun h => h rfl) ?_) | (refine r_cond_false rfl ?_) | (refine r_cond_true rfl ?_) | (refine r_cond_dec rfl (fun _ => ?_) (fun _ => ?_)) | (refine r_cond_true rfl ?_) | (refine r_cond_false rfl ?_) | (refine c_not rfl (fun _ => ?_) (fun _ => ?_)) | (refine r_off rfl rfl rfl ?_) | (refine q_guard rfl rfl (fun _ => ?_) (fun _ => ?_)) | (refine q_guardn rfl rfl (fun _ => ?_) (fun _ => ?_)))
      have hk := hG6 h hlu hofu
      exact x_round ((i + 1, u6), (A6, c6)) ⟨hlt, hk.1, hk.2, by dsimp only; rw [h3, h2, List.flatMap_append]; exact hO6⟩ (by dsimp only; omega) (into rfl ⟨congrArg (fun z : Nat => some (SV.v (.slice A6 z c6))) h3.symm, rfl, rfl, rfl, trivial⟩ trivial rfl rfl)
    · obtain rfl : i = tt.length := by omega
      rw [List.take_length] at *
      repeat' (first | (refine r_pure hT rfl rfl rfl rfl ?_) | (refine r_new hT rfl rfl rfl rfl ?_) | (refine r_write hT rfl rfl rfl ?_) | (refine r_nil ?_) | (refine q_nil ?_) | (refine r_arith rfl rfl rfl rfl rfl rfl rfl (by omega) ?_) | (with_reducible refine r_seq ?_) | (with_reducible refine x_then ?_) | (with_reducible refine r_region ?_) | (refine r_draw hM (by kernel_rfl) ?_) | (with_reducible refine r_skip ?_) | (with_reducible refine r_ret ?_) | (with_reducible refine x_then_ret ?_) | (with_reducible refine r_block ?_) | (with_reducible refine x_block ?_) | (with_reducible refine x_block_ret ?_) | (with_reducible refine r_exit ?_) | (with_reducible refine x_then_exit ?_) | (with_reducible refine x_block_here ?_) | (refine x_block_past rfl ?_) | (refine c_yes rfl (by omega) ?_) | (refine c_no rfl (by omega) ?_) | (refine c_no rfl (fun h => h rfl) ?_) | (refine r_cond_false rfl ?_) | (refine r_cond_true rfl ?_) | (refine r_cond_dec rfl (fun _ => ?_) (fun _ => ?_)) | (refine r_cond_true rfl ?_) | (refine r_cond_false rfl ?_) | (refine c_not rfl (fun _ => ?_) (fun _ => ?_)) | (refine r_off rfl rfl rfl ?_) | (refine q_guard rfl rfl (fun _ => ?_) (fun _ => ?_)) | (refine q_guardn rfl rfl (fun _ => ?_) (fun _ => ?_)))
      exact r_fin hT rfl ((A', c') : Option Addr × Nat) rfl rfl rfl trivial rfl ⟨hOu, hlu, hofu⟩
end Go.Proofs.YtkamfnmbidnhdaaDoor
