/- The order of keys in plain words; lists of pairs in that order. No program in sight; no condition. -/
import Derived.Test.YtkamfnmbidnhdaaDoorSqAC
import Derived.Lib.Bytealg
import Derived.Shelf.SlSortCmp.Insertion
import Derived.Test.YtkamfnmbidnhdaaDoorSqAF
import Derived.Test.YtkamfnmbidnhdaaDoorSqAH
import Derived.Test.YtkamfnmbidnhdaaDoorSqAE
import Derived.Test.YtkamfnmbidnhdaaDoorSqAG
import Derived.Lib.ItoaNum
import Derived.Test.YtkamfnmbidnhdaaDoorSqAD
set_option linter.unusedVariables false
set_option linter.unusedSimpArgs false
set_option linter.unusedSectionVars false
namespace Go.Sy
open Go.Sort Go.Proofs
set_option linter.unusedVariables false
/-- The order of texts, byte by byte. -/
def lexB : List UInt8 → List UInt8 → Bool
  | [], [] => false
  | [], _ :: _ => true
  | _ :: _, [] => false
  | a :: l, b :: m => if a = b then lexB l m else decide (a < b)
theorem lexB_irr : ∀ a, lexB a a = false
  | [] => rfl
  | a :: l => by simp [lexB, lexB_irr l]
theorem lexB_tr : ∀ {a b c : List UInt8}, lexB a b = true → lexB b c = true → lexB a c = true
  | [], [], c, h, _ => by simp [lexB] at h
  | [], _ :: _, [], _, h => by simp [lexB] at h
  | [], _ :: _, _ :: _, _, _ => rfl
  | _ :: _, [], _, h, _ => by simp [lexB] at h
  | _ :: _, _ :: _, [], _, h => by simp [lexB] at h
  | a :: l, b :: m, c :: cs, h, g => by
    simp only [lexB] at h g ⊢
    by_cases e1 : a = b
    · subst e1
      rw [if_pos rfl] at h
      by_cases e2 : a = c
      · subst e2
        rw [if_pos rfl] at g ⊢
        exact lexB_tr h g
      · rw [if_neg e2] at g ⊢; exact g
    · rw [if_neg e1] at h
      by_cases e2 : b = c
      · subst e2
        rw [if_neg e1]; exact h
      · rw [if_neg e2] at g
        simp only [decide_eq_true_eq] at h g
        have h3 : a < c := UInt8.lt_trans h g
        rw [if_neg (fun e => by subst e; exact UInt8.lt_irrefl _ h3)]
        simpa using h3
theorem lexB_tot : ∀ {a b : List UInt8}, lexB a b = false → lexB b a = false → a = b
  | [], [], _, _ => rfl
  | [], _ :: _, h, _ => by simp [lexB] at h
  | _ :: _, [], _, h => by simp [lexB] at h
  | a :: l, b :: m, h, g => by
    simp only [lexB] at h g
    by_cases e1 : a = b
    · subst e1
      rw [if_pos rfl] at h g
      rw [lexB_tot h g]
    · rw [if_neg e1] at h
      rw [if_neg (Ne.symm e1)] at g
      simp only [decide_eq_false_iff_not] at h g
      rcases UInt8.lt_or_lt_of_ne e1 with h3 | h3
      · exact absurd h3 h
      · exact absurd h3 g
theorem compare_lex : ∀ (a b : List UInt8), Lib.compareBytes a b = if lexB a b = true then -1 else if lexB b a = true then 1 else 0
  | [], [] => by simp [Lib.compareBytes, lexB]
  | [], b :: m => by simp [Lib.compareBytes, lexB]
  | a :: l, [] => by simp [Lib.compareBytes, lexB]
  | a :: l, b :: m => by
    rw [Lib.compareBytes, compare_lex l m]
    by_cases h : a = b
    · subst h
      simp [lexB, UInt8.lt_irrefl]
    · by_cases h1 : a < b
      · simp [lexB, h, h1]
      · have h2 : b < a := by
          rcases UInt8.lt_or_lt_of_ne h with h3 | h3
          · exact absurd h3 h1
          · exact h3
        have h4 : ¬ b = a := fun e => h e.symm
        simp [lexB, h, h1, h2, h4]
/-- What impl's order says of two values. -/
def kc (x y : V) : Int := if x.k - y.k ≠ 0 then x.k - y.k else if x.n < y.n then -1 else if y.n < x.n then 1 else Lib.compareBytes x.s.data.toList y.s.data.toList
def kl (x y : V) : Bool := decide (kc x y < 0)
theorem kl_iff (x y : V) : kl x y = true ↔ x.k < y.k ∨ (x.k = y.k ∧ (x.n < y.n ∨ (x.n = y.n ∧ lexB x.s.data.toList y.s.data.toList = true))) := by
  unfold kl kc
  rw [decide_eq_true_eq, compare_lex]
  by_cases h1 : x.k - y.k ≠ 0
  · rw [if_pos h1]
    constructor
    · intro h; left; omega
    · rintro (h | ⟨h, _⟩) <;> omega
  · rw [if_neg h1]
    have h1' : x.k = y.k := by omega
    by_cases h2 : x.n < y.n
    · rw [if_pos h2]
      exact ⟨fun _ => .inr ⟨h1', .inl h2⟩, fun _ => by omega⟩
    · rw [if_neg h2]
      by_cases h3 : y.n < x.n
      · rw [if_pos h3]
        constructor
        · intro h; omega
        · rintro (h | ⟨_, h | ⟨h, _⟩⟩) <;> omega
      · rw [if_neg h3]
        by_cases h4 : lexB x.s.data.toList y.s.data.toList = true
        · rw [if_pos h4]
          exact ⟨fun _ => .inr ⟨h1', .inr ⟨by omega, h4⟩⟩, fun _ => by omega⟩
        · rw [if_neg h4]
          constructor
          · intro h; split at h <;> omega
          · rintro (h | ⟨_, h | ⟨_, h⟩⟩)
            · omega
            · omega
            · exact absurd h h4
theorem text_ext {s t : ByteArray} (h : s.data.toList = t.data.toList) : s = t := by
  cases s; cases t
  simp only [ByteArray.mk.injEq]
  exact Array.toList_inj.1 h
theorem kl_irr (x : V) : kl x x = false := by
  cases h : kl x x with
  | false => rfl
  | true =>
    rw [kl_iff, lexB_irr] at h
    rcases h with h | ⟨_, h | ⟨_, h⟩⟩
    · omega
    · omega
    · cases h
theorem kl_tr {x y z : V} (h : kl x y = true) (g : kl y z = true) : kl x z = true := by
  rw [kl_iff] at h g ⊢
  rcases h with h | ⟨e1, h⟩
  · rcases g with g | ⟨e2, g⟩
    · left; omega
    · left; omega
  · rcases g with g | ⟨e2, g⟩
    · left; omega
    · right
      refine ⟨by omega, ?_⟩
      rcases h with h | ⟨e3, h⟩
      · rcases g with g | ⟨e4, g⟩
        · left; omega
        · left; omega
      · rcases g with g | ⟨e4, g⟩
        · left; omega
        · exact .inr ⟨by omega, lexB_tr h g⟩
theorem kl_tot {x y : V} (h : kl x y = false) (g : kl y x = false) : x.k = y.k ∧ x.n = y.n ∧ x.s = y.s := by
  have h' : ¬ kl x y = true := by rw [h]; simp
  have g' : ¬ kl y x = true := by rw [g]; simp
  rw [kl_iff] at h' g'
  have e1 : x.k = y.k := by
    rcases Int.lt_trichotomy x.k y.k with h1 | h1 | h1
    · exact absurd (.inl h1) h'
    · exact h1
    · exact absurd (.inl h1) g'
  have e2 : x.n = y.n := by
    rcases Int.lt_trichotomy x.n y.n with h1 | h1 | h1
    · exact absurd (.inr ⟨e1, .inl h1⟩) h'
    · exact h1
    · exact absurd (.inr ⟨e1.symm, .inl h1⟩) g'
  refine ⟨e1, e2, text_ext (lexB_tot ?_ ?_)⟩
  · cases hl : lexB x.s.data.toList y.s.data.toList with
    | false => rfl
    | true => exact absurd (.inr ⟨e1, .inr ⟨e2, hl⟩⟩) h'
  · cases hl : lexB y.s.data.toList x.s.data.toList with
    | false => rfl
    | true => exact absurd (.inr ⟨e1.symm, .inr ⟨e2.symm, hl⟩⟩) g'
theorem kl_eq {x y z : V} (h : x.k = y.k ∧ x.n = y.n ∧ x.s = y.s) : kl x z = kl y z ∧ kl z x = kl z y := by
  unfold kl kc
  rw [h.1, h.2.1, h.2.2]
  exact ⟨rfl, rfl⟩
theorem kl_ntr {x y z : V} (h : kl x y = false) (g : kl y z = false) : kl x z = false := by
  cases hz : kl x z with
  | false => rfl
  | true =>
    cases hy : kl z y with
    | true => rw [kl_tr hz hy] at h; cases h
    | false =>
      have e := kl_tot g hy
      rw [(kl_eq (z := x) e).2] at h
      rw [hz] at h; cases h
theorem kc_swo {α : Type} (f : α → V) : SWO (ltOf fun x y : α => kc (f x) (f y)) :=
  ⟨fun x => kl_irr (f x), fun x y z h g => kl_tr (x := f x) (y := f y) h g, fun x y z h g => kl_ntr (x := f x) (y := f y) h g⟩
/-- spec's order of two keys. -/
def sl (x y : V) : Bool := if x.k = y.k then (if x.k = 3 then lexB x.s.data.toList y.s.data.toList else decide (x.n < y.n)) else decide (x.k < y.k)
/-- A key in its one form. -/
structure Ky (v : V) : Prop where
  k1 : 1 ≤ v.k
  k3 : v.k ≤ 3
  num : v.k = 3 → v.n = 0
  txt : v.k ≠ 3 → v.s.data.toList = []
  pl : v.a = 0
theorem ky_tot {x y : V} (hx : Ky x) (hy : Ky y) (h : kl x y = false) (g : kl y x = false) : x = y := by
  obtain ⟨e1, e2, e3⟩ := kl_tot h g
  have e4 := hx.pl
  have e5 := hy.pl
  cases x; cases y
  simp only at e1 e2 e3 e4 e5
  rw [e1, e2, e3, e4, e5]
/-! ### lists of pairs in order -/
def Srt (l : List Pr) : Prop := l.Pairwise fun p q => kl q.key p.key = false
/-- One order alone, where keys are told apart. -/
theorem srt_uniq {xs ys zs : List Pr} (hk : ∀ p ∈ xs, Ky p.key) (hd : (xs.map Pr.key).Nodup) (h1 : ys.Perm xs) (h2 : zs.Perm xs) (s1 : Srt ys) (s2 : Srt zs) : ys = zs := by
  refine List.Perm.eq_of_pairwise (le := fun p q : Pr => kl q.key p.key = false) (fun a b ha hb h g => ?_) s1 s2 (h1.trans h2.symm)
  have ma := h1.mem_iff.1 ha
  have mb := h2.mem_iff.1 hb
  have e := ky_tot (hk a ma) (hk b mb) g h
  have : ∀ {l : List Pr}, (l.map Pr.key).Nodup → ∀ {a b : Pr}, a ∈ l → b ∈ l → a.key = b.key → a = b := fun {l} => by
    induction l with
    | nil => intro _ a b ha; cases ha
    | cons x r ih =>
      intro hn a b ha hb e
      rw [List.map_cons, List.nodup_cons] at hn
      rcases List.mem_cons.1 ha with rfl | ha
      · rcases List.mem_cons.1 hb with rfl | hb
        · rfl
        · exact absurd (by rw [e]; exact List.mem_map_of_mem hb) hn.1
      · rcases List.mem_cons.1 hb with eb | hb
        · exact absurd (by rw [← eb, ← e]; exact List.mem_map_of_mem ha) hn.1
        · exact ih hn.2 ha hb e
  exact this hd ma mb e
/-- The pairs of a table in the order of their keys. -/
def srt (t : List Pr) : List Pr := t.mergeSort fun p q => !kl q.key p.key
theorem srt_perm (t : List Pr) : (srt t).Perm t := List.mergeSort_perm _ _
theorem srt_srt (t : List Pr) : Srt (srt t) := by
  have h := List.pairwise_mergeSort (le := fun p q : Pr => !kl q.key p.key) (fun a b c h g => by
    simp only [Bool.not_eq_true'] at h g ⊢
    exact kl_ntr g h) (fun a b => by
    cases h1 : kl b.key a.key with
    | false => rfl
    | true =>
      cases h2 : kl a.key b.key with
      | false => rfl
      | true => have := kl_tr h1 h2; rw [kl_irr] at this; cases this) t
  exact h.imp fun {a b} h => by simpa using h
theorem srt_of {xs ys : List Pr} (hk : ∀ p ∈ xs, Ky p.key) (hd : (xs.map Pr.key).Nodup) (h1 : ys.Perm xs) (s1 : Srt ys) : ys = srt xs := srt_uniq hk hd h1 (srt_perm xs) s1 (srt_srt xs)
end Go.Sy
/- The order of two values: cmp.Compare, strings.Compare, cmp.Or, impl.order, sortedPairs$1. No condition. -/
namespace Go.Proofs.YtkamfnmbidnhdaaDoor
open Go.Sy
set_option maxRecDepth 100000
set_option maxHeartbeats 4000000
set_option linter.unusedVariables false
set_option linter.unusedSimpArgs false
theorem isNaN156 (x : Int) (h : Hp) : Pur Tryd.prog 156 [.v (.int .i64 x)] h (fun y : Bool => .v (.bool y)) false := by
  refine enterS Tryd.func156 rfl (n := 6) rfl rfl (fun k N => ?_)
  repeat' (first | (refine r_pure hT rfl rfl rfl rfl ?_) | (refine r_new hT rfl rfl rfl rfl ?_) | (refine r_write hT rfl rfl rfl ?_) | (refine r_nil ?_) | (refine q_nil ?_) | (refine r_arith rfl rfl rfl rfl rfl rfl rfl (by omega) ?_) | (with_reducible refine r_seq ?_) | (with_reducible refine x_then ?_) | (with_reducible refine r_region ?_) | (refine r_draw hM (by kernel_rfl) ?_) | (with_reducible refine r_skip ?_) | (with_reducible refine r_ret ?_) | (with_reducible refine x_then_ret ?_) | (with_reducible refine r_block ?_) | (with_reducible refine x_block ?_) | (with_reducible refine x_block_ret ?_) | (with_reducible refine r_exit ?_) | (with_reducible refine x_then_exit ?_) | (with_reducible refine x_block_here ?_) | (refine x_block_past rfl ?_) | (refine c_yes rfl (by omega) ?_) | (refine c_no rfl (by omega) ?_) | (refine c_no rfl (fun h => h rfl) ?_) | (refine r_cond_false rfl ?_) | (refine r_cond_true rfl ?_) | (refine r_cond_dec rfl (fun _ => ?_) (fun _ => ?_)) | (refine r_cond_true rfl ?_) | (refine r_cond_false rfl ?_) | (refine c_not rfl (fun _ => ?_) (fun _ => ?_)) | (refine r_off rfl rfl rfl ?_) | (refine q_guard rfl rfl (fun _ => ?_) (fun _ => ?_)) | (refine q_guardn rfl rfl (fun _ => ?_) (fun _ => ?_)))
  exact r_fin hT rfl _ rfl rfl rfl trivial rfl ⟨by simp, rfl⟩
def cmpI (x y : Int) : Int := if x < y then -1 else if y < x then 1 else 0
theorem cmp123 (x y : Int) (h : Hp) : Pur Tryd.prog 123 [.v (.int .i64 x), .v (.int .i64 y)] h (fun y : Int => .v (.int .i64 y)) (cmpI x y) := by
  refine enterS Tryd.func123 rfl (n := 20) rfl rfl (fun k N => ?_)
  by_cases h1 : x < y
  · repeat' (first | (refine r_pure hT rfl rfl rfl rfl ?_) | (refine r_new hT rfl rfl rfl rfl ?_) | (refine r_write hT rfl rfl rfl ?_) | (refine r_nil ?_) | (refine q_nil ?_) | (refine p_call (isNaN156 _ h) rfl rfl rfl rfl rfl (hC _ rfl) rfl rfl rfl ?_) | (refine c_yes rfl h1 ?_) | (refine r_arith rfl rfl rfl rfl rfl rfl rfl (by omega) ?_) | (with_reducible refine r_seq ?_) | (with_reducible refine x_then ?_) | (with_reducible refine r_region ?_) | (refine r_draw hM (by kernel_rfl) ?_) | (with_reducible refine r_skip ?_) | (with_reducible refine r_ret ?_) | (with_reducible refine x_then_ret ?_) | (with_reducible refine r_block ?_) | (with_reducible refine x_block ?_) | (with_reducible refine x_block_ret ?_) | (with_reducible refine r_exit ?_) | (with_reducible refine x_then_exit ?_) | (with_reducible refine x_block_here ?_) | (refine x_block_past rfl ?_) | (refine c_yes rfl (by omega) ?_) | (refine c_no rfl (by omega) ?_) | (refine c_no rfl (fun h => h rfl) ?_) | (refine r_cond_false rfl ?_) | (refine r_cond_true rfl ?_) | (refine r_cond_dec rfl (fun _ => ?_) (fun _ => ?_)) | (refine r_cond_true rfl ?_) | (refine r_cond_false rfl ?_) | (refine c_not rfl (fun _ => ?_) (fun _ => ?_)) | (refine r_off rfl rfl rfl ?_) | (refine q_guard rfl rfl (fun _ => ?_) (fun _ => ?_)) | (refine q_guardn rfl rfl (fun _ => ?_) (fun _ => ?_)))
    exact r_fin hT rfl _ rfl rfl rfl trivial rfl ⟨by unfold cmpI; rw [if_pos h1], rfl⟩
  · by_cases h2 : y < x
    · repeat' (first | (refine r_pure hT rfl rfl rfl rfl ?_) | (refine r_new hT rfl rfl rfl rfl ?_) | (refine r_write hT rfl rfl rfl ?_) | (refine r_nil ?_) | (refine q_nil ?_) | (refine p_call (isNaN156 _ h) rfl rfl rfl rfl rfl (hC _ rfl) rfl rfl rfl ?_) | (refine c_no rfl h1 ?_) | (refine c_yes rfl h2 ?_) | (refine r_arith rfl rfl rfl rfl rfl rfl rfl (by omega) ?_) | (with_reducible refine r_seq ?_) | (with_reducible refine x_then ?_) | (with_reducible refine r_region ?_) | (refine r_draw hM (by kernel_rfl) ?_) | (with_reducible refine r_skip ?_) | (with_reducible refine r_ret ?_) | (with_reducible refine x_then_ret ?_) | (with_reducible refine r_block ?_) | (with_reducible refine x_block ?_) | (with_reducible refine x_block_ret ?_) | (with_reducible refine r_exit ?_) | (with_reducible refine x_then_exit ?_) | (with_reducible refine x_block_here ?_) | (refine x_block_past rfl ?_) | (refine c_yes rfl (by omega) ?_) | (refine c_no rfl (by omega) ?_) | (refine c_no rfl (fun h => h rfl) ?_) | (refine r_cond_false rfl ?_) | (refine r_cond_true rfl ?_) | (refine r_cond_dec rfl (fun _ => ?_) (fun _ => ?_)) | (refine r_cond_true rfl ?_) | (refine r_cond_false rfl ?_) | (refine c_not rfl (fun _ => ?_) (fun _ => ?_)) | (refine r_off rfl rfl rfl ?_) | (refine q_guard rfl rfl (fun _ => ?_) (fun _ => ?_)) | (refine q_guardn rfl rfl (fun _ => ?_) (fun _ => ?_)))
      exact r_fin hT rfl _ rfl rfl rfl trivial rfl ⟨by unfold cmpI; rw [if_neg h1, if_pos h2], rfl⟩
    · repeat' (first | (refine r_pure hT rfl rfl rfl rfl ?_) | (refine r_new hT rfl rfl rfl rfl ?_) | (refine r_write hT rfl rfl rfl ?_) | (refine r_nil ?_) | (refine q_nil ?_) | (refine p_call (isNaN156 _ h) rfl rfl rfl rfl rfl (hC _ rfl) rfl rfl rfl ?_) | (refine c_no rfl h1 ?_) | (refine c_no rfl h2 ?_) | (refine r_arith rfl rfl rfl rfl rfl rfl rfl (by omega) ?_) | (with_reducible refine r_seq ?_) | (with_reducible refine x_then ?_) | (with_reducible refine r_region ?_) | (refine r_draw hM (by kernel_rfl) ?_) | (with_reducible refine r_skip ?_) | (with_reducible refine r_ret ?_) | (with_reducible refine x_then_ret ?_) | (with_reducible refine r_block ?_) | (with_reducible refine x_block ?_) | (with_reducible refine x_block_ret ?_) | (with_reducible refine r_exit ?_) | (with_reducible refine x_then_exit ?_) | (with_reducible refine x_block_here ?_) | (refine x_block_past rfl ?_) | (refine c_yes rfl (by omega) ?_) | (refine c_no rfl (by omega) ?_) | (refine c_no rfl (fun h => h rfl) ?_) | (refine r_cond_false rfl ?_) | (refine r_cond_true rfl ?_) | (refine r_cond_dec rfl (fun _ => ?_) (fun _ => ?_)) | (refine r_cond_true rfl ?_) | (refine r_cond_false rfl ?_) | (refine c_not rfl (fun _ => ?_) (fun _ => ?_)) | (refine r_off rfl rfl rfl ?_) | (refine q_guard rfl rfl (fun _ => ?_) (fun _ => ?_)) | (refine q_guardn rfl rfl (fun _ => ?_) (fun _ => ?_)))
      exact r_fin hT rfl _ rfl rfl rfl trivial rfl ⟨by unfold cmpI; rw [if_neg h1, if_neg h2], rfl⟩
theorem str124 (a b : ByteArray) (h : Hp) : Pur Tryd.prog 124 [.v (.string a), .v (.string b)] h (fun y : Int => .v (.int .i64 y)) (Lib.compareBytes a.data.toList b.data.toList) :=
  pur_calls _ rfl rfl (fun w _ => (Tryd.strings_Compare a b w).mono fun e w' ⟨he, hw⟩ => ⟨he, by rw [hw]; exact fun b o h => h, by rw [hw]; exact Ge.refl w⟩)
def orL : List Int → Int
  | [] => 0
  | x :: r => if x = 0 then orL r else x
theorem or122 (xs : List Int) (A : Option Addr) (n c : Nat) (h : Hp) (hP : Ints h A n xs) (hl : xs.length ≤ 1000000) : Pur Tryd.prog 122 [.v (.slice A n c)] h (fun y : Int => .v (.int .i64 y)) (orL xs) := by
  obtain rfl := hP.1
  refine enterS Tryd.func122 rfl (n := 18) rfl rfl (fun k N => ?_)
  repeat' (first | (refine r_pure hT rfl rfl rfl rfl ?_) | (refine r_new hT rfl rfl rfl rfl ?_) | (refine r_write hT rfl rfl rfl ?_) | (refine r_nil ?_) | (refine q_nil ?_) | (refine r_arith rfl rfl rfl rfl rfl rfl rfl (by omega) ?_) | (with_reducible refine r_seq ?_) | (with_reducible refine x_then ?_) | (with_reducible refine r_region ?_) | (refine r_draw hM (by kernel_rfl) ?_) | (with_reducible refine r_skip ?_) | (with_reducible refine r_ret ?_) | (with_reducible refine x_then_ret ?_) | (with_reducible refine r_block ?_) | (with_reducible refine x_block ?_) | (with_reducible refine x_block_ret ?_) | (with_reducible refine r_exit ?_) | (with_reducible refine x_then_exit ?_) | (with_reducible refine x_block_here ?_) | (refine x_block_past rfl ?_) | (refine c_yes rfl (by omega) ?_) | (refine c_no rfl (by omega) ?_) | (refine c_no rfl (fun h => h rfl) ?_) | (refine r_cond_false rfl ?_) | (refine r_cond_true rfl ?_) | (refine r_cond_dec rfl (fun _ => ?_) (fun _ => ?_)) | (refine r_cond_true rfl ?_) | (refine r_cond_false rfl ?_) | (refine c_not rfl (fun _ => ?_) (fun _ => ?_)) | (refine r_off rfl rfl rfl ?_) | (refine q_guard rfl rfl (fun _ => ?_) (fun _ => ?_)) | (refine q_guardn rfl rfl (fun _ => ?_) (fun _ => ?_)))
  refine r_loop (γ := Nat) (fun i => i ≤ xs.length ∧ orL xs = orL (xs.drop i)) (fun i => [(3, .v (.int .i64 0)), (6, .v (.slice A xs.length c)), (7, .v (.int .i64 (xs.length : Int))), (8, .v (.int .i64 (i : Int)))]) (fun _ => []) (fun _ => h) (fun i => xs.length - i)
    0 ⟨Nat.zero_le _, rfl⟩ (into rfl ⟨rfl, rfl, rfl, rfl, trivial⟩ trivial rfl rfl) ?_
  rintro i ⟨hi, ho⟩
  by_cases hlt : i < xs.length
  · obtain ⟨b, off, p, rfl, hd, hix, hm, hat⟩ := hP.elem Ic_len hlt
    rw [hd, orL] at ho
    by_cases hz : p = 0
    · repeat' (first | (refine r_pure hT rfl rfl rfl rfl ?_) | (refine r_new hT rfl rfl rfl rfl ?_) | (refine r_write hT rfl rfl rfl ?_) | (refine r_nil ?_) | (refine q_nil ?_) | (refine r_indexN hT rfl rfl rfl rfl rfl rfl rfl rfl rfl (by omega) ?_) | (refine r_load hT hat rfl rfl rfl rfl rfl (Nat.add_zero _).symm rfl rfl rfl rfl rfl ?_) | (refine c_no rfl (fun h => h hz) ?_) | (refine r_arith rfl rfl rfl rfl rfl rfl rfl (by omega) ?_) | (with_reducible refine r_seq ?_) | (with_reducible refine x_then ?_) | (with_reducible refine r_region ?_) | (refine r_draw hM (by kernel_rfl) ?_) | (with_reducible refine r_skip ?_) | (with_reducible refine r_ret ?_) | (with_reducible refine x_then_ret ?_) | (with_reducible refine r_block ?_) | (with_reducible refine x_block ?_) | (with_reducible refine x_block_ret ?_) | (with_reducible refine r_exit ?_) | (with_reducible refine x_then_exit ?_) | (with_reducible refine x_block_here ?_) | (refine x_block_past rfl ?_) | (refine c_yes rfl (by omega) ?_) | (refine c_no rfl (by omega) ?_) | (refine c_no rfl (fun h => h rfl) ?_) | (refine r_cond_false rfl ?_) | (refine r_cond_true rfl ?_) | (refine r_cond_dec rfl (fun _ => ?_) (fun _ => ?_)) | (refine r_cond_true rfl ?_) | (refine r_cond_false rfl ?_) | (refine c_not rfl (fun _ => ?_) (fun _ => ?_)) | (refine r_off rfl rfl rfl ?_) | (refine q_guard rfl rfl (fun _ => ?_) (fun _ => ?_)) | (refine q_guardn rfl rfl (fun _ => ?_) (fun _ => ?_)))
      exact x_round (i + 1) ⟨hlt, by rw [ho, if_pos hz]⟩ (by omega) (into rfl ⟨rfl, rfl, rfl, rfl, trivial⟩ trivial rfl rfl)
    · repeat' (first | (refine r_pure hT rfl rfl rfl rfl ?_) | (refine r_new hT rfl rfl rfl rfl ?_) | (refine r_write hT rfl rfl rfl ?_) | (refine r_nil ?_) | (refine q_nil ?_) | (refine r_indexN hT rfl rfl rfl rfl rfl rfl rfl rfl rfl (by omega) ?_) | (refine r_load hT hat rfl rfl rfl rfl rfl (Nat.add_zero _).symm rfl rfl rfl rfl rfl ?_) | (refine c_yes rfl hz ?_) | (refine r_arith rfl rfl rfl rfl rfl rfl rfl (by omega) ?_) | (with_reducible refine r_seq ?_) | (with_reducible refine x_then ?_) | (with_reducible refine r_region ?_) | (refine r_draw hM (by kernel_rfl) ?_) | (with_reducible refine r_skip ?_) | (with_reducible refine r_ret ?_) | (with_reducible refine x_then_ret ?_) | (with_reducible refine r_block ?_) | (with_reducible refine x_block ?_) | (with_reducible refine x_block_ret ?_) | (with_reducible refine r_exit ?_) | (with_reducible refine x_then_exit ?_) | (with_reducible refine x_block_here ?_) | (refine x_block_past rfl ?_) | (refine c_yes rfl (by omega) ?_) | (refine c_no rfl (by omega) ?_) | (refine c_no rfl (fun h => h rfl) ?_) | (refine r_cond_false rfl ?_) | (refine r_cond_true rfl ?_) | (refine r_cond_dec rfl (fun _ => ?_) (fun _ => ?_)) | (refine r_cond_true rfl ?_) | (refine r_cond_false rfl ?_) | (refine c_not rfl (fun _ => ?_) (fun _ => ?_)) | (refine r_off rfl rfl rfl ?_) | (refine q_guard rfl rfl (fun _ => ?_) (fun _ => ?_)) | (refine q_guardn rfl rfl (fun _ => ?_) (fun _ => ?_)))
      exact r_fin hT rfl _ rfl rfl rfl trivial rfl ⟨by rw [ho, if_neg hz], rfl⟩
  · obtain rfl : i = xs.length := by omega
    repeat' (first | (refine r_pure hT rfl rfl rfl rfl ?_) | (refine r_new hT rfl rfl rfl rfl ?_) | (refine r_write hT rfl rfl rfl ?_) | (refine r_nil ?_) | (refine q_nil ?_) | (refine r_arith rfl rfl rfl rfl rfl rfl rfl (by omega) ?_) | (with_reducible refine r_seq ?_) | (with_reducible refine x_then ?_) | (with_reducible refine r_region ?_) | (refine r_draw hM (by kernel_rfl) ?_) | (with_reducible refine r_skip ?_) | (with_reducible refine r_ret ?_) | (with_reducible refine x_then_ret ?_) | (with_reducible refine r_block ?_) | (with_reducible refine x_block ?_) | (with_reducible refine x_block_ret ?_) | (with_reducible refine r_exit ?_) | (with_reducible refine x_then_exit ?_) | (with_reducible refine x_block_here ?_) | (refine x_block_past rfl ?_) | (refine c_yes rfl (by omega) ?_) | (refine c_no rfl (by omega) ?_) | (refine c_no rfl (fun h => h rfl) ?_) | (refine r_cond_false rfl ?_) | (refine r_cond_true rfl ?_) | (refine r_cond_dec rfl (fun _ => ?_) (fun _ => ?_)) | (refine r_cond_true rfl ?_) | (refine r_cond_false rfl ?_) | (refine c_not rfl (fun _ => ?_) (fun _ => ?_)) | (refine r_off rfl rfl rfl ?_) | (refine q_guard rfl rfl (fun _ => ?_) (fun _ => ?_)) | (refine q_guardn rfl rfl (fun _ => ?_) (fun _ => ?_)))
    exact r_fin hT rfl _ rfl rfl rfl trivial rfl ⟨by rw [ho, List.drop_length]; rfl, rfl⟩
theorem orL3 (a b c : Int) : orL [a, b, c] = if a = 0 then (if b = 0 then c else b) else a := by
  have hc : (if c = 0 then (0 : Int) else c) = c := by
    by_cases h : c = 0
    · rw [if_pos h, h]
    · rw [if_neg h]
  simp only [orL, hc]
theorem cmpI_cases (x y : Int) : (x < y ∧ cmpI x y = -1) ∨ (¬ x < y ∧ y < x ∧ cmpI x y = 1) ∨ (¬ x < y ∧ ¬ y < x ∧ cmpI x y = 0) := by
  unfold cmpI
  by_cases h1 : x < y
  · exact .inl ⟨h1, if_pos h1⟩
  · by_cases h2 : y < x
    · exact .inr (.inl ⟨h1, h2, by rw [if_neg h1, if_pos h2]⟩)
    · exact .inr (.inr ⟨h1, h2, by rw [if_neg h1, if_neg h2]⟩)
theorem kc_or (x y : V) : orL [x.k - y.k, cmpI x.n y.n, Lib.compareBytes x.s.data.toList y.s.data.toList] = kc x y := by
  rw [orL3]
  unfold kc
  by_cases h1 : x.k - y.k = 0
  · rw [if_pos h1, if_neg (show ¬ (x.k - y.k ≠ 0) from fun h => h h1)]
    rcases cmpI_cases x.n y.n with ⟨a, e⟩ | ⟨a, b, e⟩ | ⟨a, b, e⟩
    · rw [e, if_pos a, if_neg (by omega)]
    · rw [e, if_neg a, if_pos b, if_neg (by omega)]
    · rw [e, if_neg a, if_neg b, if_pos rfl]
  · rw [if_neg h1, if_pos h1]
/-- Its kind is one of the five. -/
def Kd (v : V) : Prop := 0 ≤ v.k ∧ v.k ≤ 4
theorem order81 (x y : V) (h : Hp) (hx : Kd x) (hy : Kd y) : TriS Tryd.prog 81 [.ag x.sv, .ag y.sv] [] h (fun z : Int => .v (.int .i64 z)) (fun _ => []) (fun z h' => z = kc x y ∧ Le h h') := by
  refine enterS Tryd.func81 rfl (n := 22) rfl rfl (fun k N => ?_)
  unfold Kd at hx hy
  repeat' (first | (refine r_pure hT rfl rfl rfl rfl ?_) | (refine r_new hT rfl rfl rfl rfl ?_) | (refine r_write hT rfl rfl rfl ?_) | (refine r_nil ?_) | (refine q_nil ?_) | (refine r_many (id := 1) [0, 1, 2, 3, 4, 5, 6, 7, 8, 10, 11, 12, 13] [] h (Le.refl h) hM (by kernel_rfl) rfl (by kernel_rfl) rfl rfl rfl (fun β0 => ?_)) | (refine p_call (cmp123 x.n y.n h) rfl rfl rfl rfl rfl (hC _ rfl) rfl rfl rfl ?_) | (refine p_call (str124 x.s y.s h) rfl rfl rfl rfl rfl (hC _ rfl) rfl rfl rfl ?_) | (refine m_keep (Le.refl h) ⟨rfl, rfl, trivial⟩ rfl rfl ?_) | (refine r_bslice hT (ps := [(0, .tmp 9), (1, .tmp 14), (2, .tmp 19)]) rfl rfl rfl rfl rfl rfl rfl (by simp) rfl rfl (by decide) (fun b3 hb3 => ?_)) | (refine m_keep (le_frsh (Le.refl h) hb3) ⟨rfl, rfl, trivial⟩ rfl rfl ?_) | (refine p_call (or122 [x.k - y.k, cmpI x.n y.n, Lib.compareBytes x.s.data.toList y.s.data.toList] _ 3 3 _ ⟨rfl, sl_blk (upd_here ..) rfl⟩ (by simp)) rfl rfl rfl rfl rfl (hC _ rfl) rfl rfl rfl ?_) | (refine r_arith rfl rfl rfl rfl rfl rfl rfl (by omega) ?_) | (with_reducible refine r_seq ?_) | (with_reducible refine x_then ?_) | (with_reducible refine r_region ?_) | (with_reducible refine r_skip ?_) | (with_reducible refine r_ret ?_) | (with_reducible refine x_then_ret ?_) | (with_reducible refine r_block ?_) | (with_reducible refine x_block ?_) | (with_reducible refine x_block_ret ?_) | (with_reducible refine r_exit ?_) | (with_reducible refine x_then_exit ?_) | (with_reducible refine x_block_here ?_) | (refine x_block_past rfl ?_) | (refine c_yes rfl (by omega) ?_) | (refine c_no rfl (by omega) ?_) | (refine c_no rfl (fun h => h rfl) ?_) | (refine r_cond_false rfl ?_) | (refine r_cond_true rfl ?_) | (refine r_cond_dec rfl (fun _ => ?_) (fun _ => ?_)) | (refine r_cond_true rfl ?_) | (refine r_cond_false rfl ?_) | (refine c_not rfl (fun _ => ?_) (fun _ => ?_)) | (refine r_off rfl rfl rfl ?_) | (refine q_guard rfl rfl (fun _ => ?_) (fun _ => ?_)) | (refine q_guardn rfl rfl (fun _ => ?_) (fun _ => ?_)) | (refine s_nil ?_) | (with_reducible refine a_full ?_) | (refine m_step rfl rfl (List.cons_ne_nil _ _) ?_) | (refine allR_cons rfl ?_ ?_) | (exact allR_nil) | (refine m_end rfl rfl rfl ?_))
  exact r_fin hT rfl _ rfl rfl rfl trivial rfl ⟨kc_or x y, le_frsh (Le.refl h) hb3⟩
theorem cmp118 (p q : Pr) (h : Hp) (hx : Kd p.key) (hy : Kd q.key) : TriS Tryd.prog 118 [.ag p.sv, .ag q.sv] [] h (fun z : Int => .v (.int .i64 z)) (fun _ => []) (fun z h' => z = kc p.key q.key ∧ Le h h') := by
  refine enterS Tryd.func118 rfl (n := 10) rfl rfl (fun k N => ?_)
  repeat' (first | (refine r_pure hT rfl rfl rfl rfl ?_) | (refine r_new hT rfl rfl rfl rfl ?_) | (refine r_write hT rfl rfl rfl ?_) | (refine r_nil ?_) | (refine q_nil ?_) | (refine r_call (order81 p.key q.key h hx hy) rfl rfl rfl rfl rfl (hC _ rfl) rfl rfl (fun z h' hz => ?_)) | (refine r_arith rfl rfl rfl rfl rfl rfl rfl (by omega) ?_) | (with_reducible refine r_seq ?_) | (with_reducible refine x_then ?_) | (with_reducible refine r_region ?_) | (refine r_draw hM (by kernel_rfl) ?_) | (with_reducible refine r_skip ?_) | (with_reducible refine r_ret ?_) | (with_reducible refine x_then_ret ?_) | (with_reducible refine r_block ?_) | (with_reducible refine x_block ?_) | (with_reducible refine x_block_ret ?_) | (with_reducible refine r_exit ?_) | (with_reducible refine x_then_exit ?_) | (with_reducible refine x_block_here ?_) | (refine x_block_past rfl ?_) | (refine c_yes rfl (by omega) ?_) | (refine c_no rfl (by omega) ?_) | (refine c_no rfl (fun h => h rfl) ?_) | (refine r_cond_false rfl ?_) | (refine r_cond_true rfl ?_) | (refine r_cond_dec rfl (fun _ => ?_) (fun _ => ?_)) | (refine r_cond_true rfl ?_) | (refine r_cond_false rfl ?_) | (refine c_not rfl (fun _ => ?_) (fun _ => ?_)) | (refine r_off rfl rfl rfl ?_) | (refine q_guard rfl rfl (fun _ => ?_) (fun _ => ?_)) | (refine q_guardn rfl rfl (fun _ => ?_) (fun _ => ?_)))
  exact r_fin hT rfl _ rfl rfl rfl trivial rfl hz
end Go.Proofs.YtkamfnmbidnhdaaDoor
/- The classes of tables in plain words: texts of what a table looks like, and the rounds in which tables are told apart. No program in sight; no condition. -/
namespace Go.Sy
open Go.Lib
set_option linter.unusedVariables false
/-! ### numbers in decimal are read back -/
theorem u8n (k : Nat) (h : k < 256) : (UInt8.ofNat k).toNat = k := by simp [Nat.mod_eq_of_lt h]
theorem dec_rng : ∀ (u : Nat), ∀ c ∈ decDigits u, 48 ≤ c.toNat ∧ c.toNat ≤ 57 := by
  intro u
  induction u using Nat.strongRecOn with
  | _ u ih =>
    intro c hc
    rw [decDigits] at hc
    split at hc
    · simp only [List.mem_singleton] at hc; subst hc
      rw [u8n _ (by omega)]; omega
    · rcases List.mem_append.1 hc with h | h
      · exact ih (u / 10) (by omega) c h
      · simp only [List.mem_singleton] at h; subst h
        rw [u8n _ (by omega)]; omega
def dval (l : List UInt8) : Nat := l.foldl (fun a c => a * 10 + (c.toNat - 48)) 0
theorem dval_dec : ∀ u : Nat, dval (decDigits u) = u := by
  intro u
  induction u using Nat.strongRecOn with
  | _ u ih =>
    rw [decDigits]
    split
    · simp only [dval, List.foldl_cons, List.foldl_nil]
      rw [u8n _ (by omega)]; omega
    · rename_i h
      have e := ih (u / 10) (by omega)
      unfold dval at e ⊢
      rw [List.foldl_append, e]
      simp only [List.foldl_cons, List.foldl_nil]
      rw [u8n _ (by omega)]; omega
theorem dec_inj {a b : Nat} (h : decDigits a = decDigits b) : a = b := by rw [← dval_dec a, ← dval_dec b, h]
theorem itoa_rng (n : Int) : ∀ c ∈ itoa n, c.toNat = 45 ∨ (48 ≤ c.toNat ∧ c.toNat ≤ 57) := by
  intro c hc
  unfold itoa at hc
  split at hc
  · rcases List.mem_cons.1 hc with h | h
    · subst h; exact .inl rfl
    · exact .inr (dec_rng _ c h)
  · exact .inr (dec_rng _ c hc)
theorem itoa_inj {a b : Int} (h : itoa a = itoa b) : a = b := by
  have hne : ∀ (u v : Nat), 45 :: decDigits u ≠ decDigits v := fun u v e => by
    have := dec_rng v 45 (by rw [← e]; exact .head _)
    exact absurd this.1 (by decide)
  unfold itoa at h
  split at h
  · split at h
    · have := dec_inj (List.cons.inj h).2; omega
    · exact absurd h (hne _ _)
  · split at h
    · exact absurd h.symm (hne _ _)
    · have := dec_inj h; omega
/-- Up to the first separator. -/
theorem sep_inj {p : UInt8 → Prop} : ∀ {a b r r' : List UInt8} {x y : UInt8}, (∀ c ∈ a, p c) → (∀ c ∈ b, p c) → ¬ p x → ¬ p y → a ++ x :: r = b ++ y :: r' → a = b ∧ x = y ∧ r = r'
  | [], [], r, r', x, y, _, _, _, _, h => by simp only [List.nil_append, List.cons.injEq] at h; exact ⟨rfl, h.1, h.2⟩
  | [], d :: b, r, r', x, y, _, hb, hx, _, h => by
    simp only [List.nil_append, List.cons_append, List.cons.injEq] at h
    exact absurd (h.1 ▸ hb d (.head _)) hx
  | c :: a, [], r, r', x, y, ha, _, _, hy, h => by
    simp only [List.nil_append, List.cons_append, List.cons.injEq] at h
    exact absurd (h.1 ▸ ha c (.head _)) hy
  | c :: a, d :: b, r, r', x, y, ha, hb, hx, hy, h => by
    simp only [List.cons_append, List.cons.injEq] at h
    obtain ⟨e1, e2, e3⟩ := sep_inj (fun z hz => ha z (.tail _ hz)) (fun z hz => hb z (.tail _ hz)) hx hy h.2
    exact ⟨by rw [h.1, e1], e2, e3⟩
def digP (c : UInt8) : Prop := c.toNat = 45 ∨ (48 ≤ c.toNat ∧ c.toNat ≤ 57)
theorem num_inj {a b : Int} {x : UInt8} {r r' : List UInt8} (hx : x = 44 ∨ x = 58) (h : itoa a ++ x :: r = itoa b ++ x :: r') : a = b ∧ r = r' := by
  have hn : ¬ digP x := by rcases hx with rfl | rfl <;> (unfold digP; decide)
  obtain ⟨h1, _, h2⟩ := sep_inj (p := digP) (itoa_rng a) (itoa_rng b) hn hn h
  exact ⟨itoa_inj h1, h2⟩
/-! ### the text of a value, of a table -/
def tx1 (v : V) : List UInt8 := itoa v.k ++ 44 :: (itoa v.n ++ 44 :: (itoa v.a ++ 44 :: (itoa (v.s.size : Int) ++ 58 :: v.s.data.toList)))
def tx2 (p : Pr) : List UInt8 := tx1 p.key ++ tx1 p.val
theorem bytes_ext {s t : ByteArray} (h : s.data.toList = t.data.toList) : s = t := by
  cases s; cases t
  simp only [ByteArray.mk.injEq]
  exact Array.toList_inj.1 h
theorem tx1_inj {v w : V} {r r' : List UInt8} (h : tx1 v ++ r = tx1 w ++ r') : v = w ∧ r = r' := by
  simp only [tx1, List.append_assoc, List.cons_append] at h
  obtain ⟨h1, h⟩ := num_inj (.inl rfl) h
  obtain ⟨h2, h⟩ := num_inj (.inl rfl) h
  obtain ⟨h3, h⟩ := num_inj (.inl rfl) h
  obtain ⟨h4, h⟩ := num_inj (.inr rfl) h
  have hl : v.s.data.toList.length = w.s.data.toList.length := by
    have : v.s.size = w.s.size := by omega
    exact (Array.length_toList).trans (this.trans (Array.length_toList).symm)
  obtain ⟨h5, h6⟩ := List.append_inj h hl
  refine ⟨?_, h6⟩
  cases v; cases w
  simp only at h1 h2 h3 h5
  rw [h1, h2, h3, bytes_ext h5]
theorem tx1_ne (v : V) : tx1 v ≠ [] := fun h => by
  unfold tx1 at h
  have := (List.append_eq_nil_iff.1 h).2
  cases this
theorem tx2_inj {p q : Pr} {r r' : List UInt8} (h : tx2 p ++ r = tx2 q ++ r') : p = q ∧ r = r' := by
  simp only [tx2, List.append_assoc] at h
  obtain ⟨h1, h⟩ := tx1_inj h
  obtain ⟨h2, h⟩ := tx1_inj h
  exact ⟨by cases p; cases q; simp only at h1 h2; rw [h1, h2], h⟩
theorem txs_inj : ∀ {l m : List Pr}, l.flatMap tx2 = m.flatMap tx2 → l = m
  | [], [], _ => rfl
  | [], q :: m, h => by
    simp only [List.flatMap_nil, List.flatMap_cons] at h
    have := (List.append_eq_nil_iff.1 h.symm).1
    exact absurd (List.append_eq_nil_iff.1 this).1 (tx1_ne _)
  | p :: l, [], h => by
    simp only [List.flatMap_nil, List.flatMap_cons] at h
    have := (List.append_eq_nil_iff.1 h).1
    exact absurd (List.append_eq_nil_iff.1 this).1 (tx1_ne _)
  | p :: l, q :: m, h => by
    simp only [List.flatMap_cons] at h
    obtain ⟨h1, h2⟩ := tx2_inj h
    rw [h1, txs_inj h2]
/-! ### what a table looks like -/
def lk (c : List Nat) (v : V) : V := if v.k = 4 then { v with a := (c.getD v.a.toNat 0 : Nat) } else v
def lookT (c : List Nat) (t : List Pr) : List Pr := t.map fun p => ⟨p.key, lk c p.val⟩
def keyS (c : List Nat) (t : List Pr) : List UInt8 := (lookT c t).flatMap tx2
theorem keyS_iff {c : List Nat} {t t' : List Pr} : keyS c t = keyS c t' ↔ lookT c t = lookT c t' := ⟨txs_inj, fun h => by unfold keyS; rw [h]⟩
def kss (st : List (List Pr)) (c : List Nat) : List (List UInt8) := st.map (keyS c)
/-- One round: of each table the first that looks like it. -/
def nxt (st : List (List Pr)) (c : List Nat) : List Nat := (kss st c).map fun k => (kss st c).idxOf k
theorem kss_len (st : List (List Pr)) (c : List Nat) : (kss st c).length = st.length := by simp [kss]
theorem nxt_len (st : List (List Pr)) (c : List Nat) : (nxt st c).length = st.length := by simp [nxt, kss]
def at0 (c : List Nat) (i : Nat) : Nat := c.getD i 0
theorem kss_get {st : List (List Pr)} {c : List Nat} {i : Nat} (h : i < st.length) : (kss st c)[i]'(by rw [kss_len]; exact h) = keyS c st[i] := by simp [kss]
theorem nxt_at {st : List (List Pr)} {c : List Nat} {i : Nat} (h : i < st.length) : at0 (nxt st c) i = (kss st c).idxOf ((kss st c)[i]'(by rw [kss_len]; exact h)) := by
  unfold at0 nxt
  rw [List.getD_eq_getElem?_getD, List.getElem?_map, List.getElem?_eq_getElem (by rw [kss_len]; exact h)]
  rfl
theorem idx_le {l : List (List UInt8)} {i : Nat} (h : i < l.length) : l.idxOf l[i] ≤ i := by
  rcases Nat.lt_or_ge i (l.idxOf l[i]) with h1 | h1
  · have := List.not_of_lt_findIdx (p := (· == l[i])) (xs := l) h1
    simp at this
  · exact h1
theorem idx_at {l : List (List UInt8)} {i : Nat} (h : i < l.length) : l[l.idxOf l[i]]'(Nat.lt_of_le_of_lt (idx_le h) h) = l[i] := by
  exact List.getElem_idxOf _
theorem nxt_iff {st : List (List Pr)} {c : List Nat} {i j : Nat} (hi : i < st.length) (hj : j < st.length) : at0 (nxt st c) i = at0 (nxt st c) j ↔ keyS c st[i] = keyS c st[j] := by
  rw [nxt_at hi, nxt_at hj, ← kss_get hi, ← kss_get hj]
  constructor
  · intro h
    have h1 := idx_at (l := kss st c) (by rw [kss_len]; exact hi)
    have h2 := idx_at (l := kss st c) (by rw [kss_len]; exact hj)
    rw [← h1, ← h2]
    congr 1
  · intro h; rw [h]
structure GoodC (n : Nat) (c : List Nat) : Prop where
  len : c.length = n
  le : ∀ i, i < n → at0 c i ≤ i
  idem : ∀ i, i < n → at0 c (at0 c i) = at0 c i
def Fine (st : List (List Pr)) (c : List Nat) : Prop := ∀ i j (hi : i < st.length) (hj : j < st.length), keyS c st[i] = keyS c st[j] → at0 c i = at0 c j
theorem good_nxt (st : List (List Pr)) (c : List Nat) : GoodC st.length (nxt st c) := by
  refine ⟨nxt_len st c, fun i hi => ?_, fun i hi => ?_⟩
  · rw [nxt_at hi]; exact idx_le _
  · have h1 : at0 (nxt st c) i ≤ i := by rw [nxt_at hi]; exact idx_le _
    have h2 : at0 (nxt st c) i < st.length := by omega
    rw [nxt_iff h2 hi, ← kss_get h2, ← kss_get hi]
    have h3 := idx_at (l := kss st c) (i := i) (by rw [kss_len]; exact hi)
    rw [← h3]
    congr 1
    rw [nxt_at hi]
/-- What one round tells apart is told apart in the next. -/
theorem nxt_finer {st : List (List Pr)} {c : List Nat} (hF : Fine st c) {i j : Nat} (hi : i < st.length) (hj : j < st.length) (h : at0 (nxt st c) i = at0 (nxt st c) j) : at0 c i = at0 c j :=
  hF i j hi hj ((nxt_iff hi hj).1 h)
theorem lk_mono {st : List (List Pr)} {c : List Nat} (hF : Fine st c) {v w : V} (hv : In st.length v) (hw : In st.length w) (h : lk (nxt st c) v = lk (nxt st c) w) : lk c v = lk c w := by
  have hk : v.k = w.k := by
    have := congrArg V.k h
    unfold lk at this
    split at this <;> split at this <;> exact this
  unfold lk at h ⊢
  by_cases h4 : v.k = 4
  · have h4' : w.k = 4 := hk ▸ h4
    rw [if_pos h4, if_pos h4'] at h ⊢
    have e1 := congrArg V.n h
    have e2 := congrArg V.s h
    have e3 := congrArg V.a h
    simp only at e1 e2 e3
    have hv' := hv h4
    have hw' := hw h4'
    have e4 := nxt_finer hF (i := v.a.toNat) (j := w.a.toNat) (by omega) (by omega) (by unfold at0; omega)
    unfold at0 at e4
    rw [hk, e1, e2, e4]
  · have h4' : w.k ≠ 4 := hk ▸ h4
    rw [if_neg h4, if_neg h4'] at h ⊢
    exact h
theorem look_mono {st : List (List Pr)} {c : List Nat} (hF : Fine st c) : ∀ {t t' : List Pr}, (∀ p ∈ t, In st.length p.val) → (∀ p ∈ t', In st.length p.val) → lookT (nxt st c) t = lookT (nxt st c) t' → lookT c t = lookT c t'
  | [], [], _, _, _ => rfl
  | [], q :: t', _, _, h => by simp [lookT] at h
  | p :: t, [], _, _, h => by simp [lookT] at h
  | p :: t, q :: t', h1, h2, h => by
    simp only [lookT, List.map_cons, List.cons.injEq, Pr.mk.injEq] at h
    have ih := look_mono hF (t := t) (t' := t') (fun x hx => h1 x (.tail _ hx)) (fun x hx => h2 x (.tail _ hx)) h.2
    simp only [lookT, List.map_cons, List.cons.injEq, Pr.mk.injEq]
    exact ⟨⟨h.1.1, lk_mono hF (h1 p (.head _)) (h2 q (.head _)) h.1.2⟩, ih⟩
theorem fine_nxt {st : List (List Pr)} {c : List Nat} (hA : AllIn st) (hF : Fine st c) : Fine st (nxt st c) := by
  intro i j hi hj h
  rw [nxt_iff hi hj]
  exact keyS_iff.2 (look_mono hF (hA _ (List.getElem_mem hi)) (hA _ (List.getElem_mem hj)) (keyS_iff.1 h))
/-- How many classes there are. -/
def cnt (n : Nat) (c : List Nat) : Nat := ((List.range n).filter fun i => at0 c i == i).length
theorem cnt_le (n : Nat) (c : List Nat) : cnt n c ≤ n := by
  have := List.length_filter_le (fun i => at0 c i == i) (List.range n)
  simpa [cnt] using this
theorem lead_up {st : List (List Pr)} {c : List Nat} (hG : GoodC st.length c) (hF : Fine st c) {i : Nat} (hi : i < st.length) (h : at0 c i = i) : at0 (nxt st c) i = i := by
  have g := good_nxt st c
  have h1 := g.le i hi
  have h2 := g.idem i hi
  have h3 := nxt_finer hF (i := at0 (nxt st c) i) (j := i) (by omega) hi h2
  have h4 := hG.le (at0 (nxt st c) i) (by omega)
  omega
theorem filter_len_le {p q : Nat → Bool} : ∀ (l : List Nat), (∀ i ∈ l, p i = true → q i = true) → (l.filter p).length ≤ (l.filter q).length ∧ ((l.filter p).length = (l.filter q).length → ∀ i ∈ l, q i = true → p i = true)
  | [], _ => ⟨Nat.le_refl _, fun _ i hi => by cases hi⟩
  | x :: r, h => by
    obtain ⟨h1, h2⟩ := filter_len_le r (fun i hi => h i (.tail _ hi))
    by_cases hp : p x = true
    · have hq := h x (.head _) hp
      simp only [List.filter_cons, if_pos hp, if_pos hq, List.length_cons]
      refine ⟨by omega, fun e i hi hqi => ?_⟩
      rcases List.mem_cons.1 hi with rfl | hi
      · exact hp
      · exact h2 (by omega) i hi hqi
    · by_cases hq : q x = true
      · simp only [List.filter_cons, if_neg hp, if_pos hq, List.length_cons]
        exact ⟨by omega, fun e => by omega⟩
      · simp only [List.filter_cons, if_neg hp, if_neg hq]
        refine ⟨h1, fun e i hi hqi => ?_⟩
        rcases List.mem_cons.1 hi with rfl | hi
        · exact absurd hqi hq
        · exact h2 e i hi hqi
theorem good_ext {n : Nat} {c d : List Nat} (hc : c.length = n) (hd : d.length = n) (h : ∀ i, i < n → at0 c i = at0 d i) : c = d := by
  refine List.ext_getElem (hc.trans hd.symm) fun i h1 h2 => ?_
  have := h i (hc ▸ h1)
  unfold at0 at this
  rw [List.getD_eq_getElem?_getD, List.getD_eq_getElem?_getD, List.getElem?_eq_getElem h1, List.getElem?_eq_getElem h2] at this
  exact this
theorem cnt_up {st : List (List Pr)} {c : List Nat} (hG : GoodC st.length c) (hF : Fine st c) : cnt st.length c ≤ cnt st.length (nxt st c) ∧ (cnt st.length (nxt st c) = cnt st.length c ↔ nxt st c = c) := by
  have key := filter_len_le (p := fun i => at0 c i == i) (q := fun i => at0 (nxt st c) i == i) (List.range st.length) (fun i hi h => by
    simp only [beq_iff_eq] at h ⊢
    exact lead_up hG hF (List.mem_range.1 hi) h)
  refine ⟨key.1, fun h => ?_, fun h => by rw [h]⟩
  refine good_ext (nxt_len st c) hG.len fun i hi => ?_
  have g := good_nxt st c
  have h1 := g.le i hi
  have h2 := g.idem i hi
  have h3 := key.2 h.symm (at0 (nxt st c) i) (List.mem_range.2 (by omega)) (by simpa using h2)
  simp only [beq_iff_eq] at h3
  have h4 := nxt_finer hF (i := at0 (nxt st c) i) (j := i) (by omega) hi h2
  omega
/-! ### the rounds -/
def rounds (st : List (List Pr)) : Nat → List Nat → List Nat
  | 0, c => c
  | f + 1, c => if nxt st c = c then c else rounds st f (nxt st c)
def cls (st : List (List Pr)) : List Nat := rounds st (st.length + 1) (List.replicate st.length 0)
structure Rch (st : List (List Pr)) (f : Nat) (c : List Nat) : Prop where
  good : GoodC st.length c
  fine : Fine st c
  fuel : st.length + 1 ≤ f + cnt st.length c
  same : cls st = rounds st f c
theorem at0_zero (n i : Nat) : at0 (List.replicate n 0) i = 0 := by
  unfold at0
  rw [List.getD_eq_getElem?_getD, List.getElem?_replicate]
  split <;> rfl
theorem rch_start (st : List (List Pr)) : Rch st (st.length + 1) (List.replicate st.length 0) :=
  ⟨⟨by simp, fun i hi => by rw [at0_zero]; omega, fun i hi => by rw [at0_zero, at0_zero]⟩, fun i j hi hj h => by rw [at0_zero, at0_zero], by omega, rfl⟩
theorem Rch.stop {st : List (List Pr)} {f : Nat} {c : List Nat} (h : Rch st f c) (e : nxt st c = c) : cls st = c := by
  rw [h.same]
  cases f with
  | zero => rfl
  | succ f => simp only [rounds, if_pos e]
theorem Rch.step {st : List (List Pr)} {f : Nat} {c : List Nat} (hA : AllIn st) (h : Rch st f c) (e : nxt st c ≠ c) : ∃ f', f = f' + 1 ∧ Rch st f' (nxt st c) := by
  have h1 := cnt_up h.good h.fine
  have h2 := cnt_le st.length (nxt st c)
  have h3 := h.fuel
  have h4 : cnt st.length (nxt st c) ≠ cnt st.length c := fun x => e (h1.2.1 x)
  obtain ⟨f', rfl⟩ : ∃ f', f = f' + 1 := ⟨f - 1, by omega⟩
  exact ⟨f', rfl, good_nxt st c, fine_nxt hA h.fine, by omega, by rw [h.same]; simp only [rounds, if_neg e]⟩
theorem cnt_zero {n : Nat} (h : n ≠ 0) : cnt n (List.replicate n 0) = 1 := by
  unfold cnt
  obtain ⟨m, rfl⟩ : ∃ m, n = m + 1 := ⟨n - 1, by omega⟩
  rw [List.range_succ_eq_map, List.filter_cons]
  simp only [at0_zero, beq_self_eq_true, if_true, List.length_cons]
  have : List.filter (fun i => (0 : Nat) == i) (List.map Nat.succ (List.range m)) = [] := by
    rw [List.filter_eq_nil_iff]
    intro a ha
    obtain ⟨b, _, rfl⟩ := List.mem_map.1 ha
    simp
  rw [this]; rfl
theorem Rch.cls_good {st : List (List Pr)} (hA : AllIn st) : ∀ {f : Nat} {c : List Nat}, Rch st f c → GoodC st.length (cls st) ∧ Fine st (cls st) ∧ nxt st (cls st) = cls st := by
  intro f
  induction f with
  | zero =>
    intro c h
    have h2 := cnt_le st.length c
    have h3 := h.fuel
    omega
  | succ f ih =>
    intro c h
    by_cases e : nxt st c = c
    · rw [h.stop e]; exact ⟨h.good, h.fine, e⟩
    · obtain ⟨f', e', h'⟩ := h.step hA e
      obtain rfl : f' = f := by omega
      exact ih h'
theorem cls_fix {st : List (List Pr)} (hA : AllIn st) : GoodC st.length (cls st) ∧ Fine st (cls st) ∧ nxt st (cls st) = cls st := (rch_start st).cls_good hA
theorem cls_len (st : List (List Pr)) (hA : AllIn st) : (cls st).length = st.length := (cls_fix hA).1.len
end Go.Sy
/- One round of telling tables apart: by a map of texts (the program), by comparing (the reference). Plain words; no condition. -/
namespace Go.Sy
open Go.Lib
set_option linter.unusedVariables false
def bs (l : List UInt8) : ByteArray := ⟨l.toArray⟩
theorem bs_inj {a b : List UInt8} (h : bs a = bs b) : a = b := by
  have := congrArg (fun s : ByteArray => s.data.toList) h
  simpa [bs] using this
/-- The map after i tables: of each text the first table that has it. -/
structure LM (ks : List (List UInt8)) (i : Nat) (m : List (ByteArray × Int)) : Prop where
  has : ∀ s, mhas m (bs s) = decide (s ∈ ks.take i)
  get : ∀ s, s ∈ ks.take i → mget m (bs s) = (ks.idxOf s : Nat)
  len : m.length = ((List.range i).filter fun j => ks.idxOf (ks.getD j []) == j).length
theorem LM.start (ks : List (List UInt8)) : LM ks 0 [] := ⟨fun s => by simp [mhas], fun s hs => by simp at hs, by simp⟩
theorem mhas_mem {m : List (ByteArray × Int)} {x : ByteArray} : mhas m x = true ↔ x ∈ m.map (·.1) := by
  unfold mhas
  rw [List.find?_isSome]
  constructor
  · rintro ⟨p, hp, h⟩
    rw [of_decide_eq_true h]
    exact List.mem_map_of_mem hp
  · intro h
    obtain ⟨p, hp, rfl⟩ := List.mem_map.1 h
    exact ⟨p, hp, by simp⟩
theorem idxOf_new {ks : List (List UInt8)} {i : Nat} (hi : i < ks.length) : ks.idxOf ks[i] = i ↔ ks[i] ∉ ks.take i := by
  constructor
  · intro h hm
    obtain ⟨j, hj, e⟩ := List.getElem_of_mem hm
    have hj' : j < i := by simp at hj; omega
    rw [List.getElem_take] at e
    have h1 := idx_le (l := ks) (i := j) (by omega)
    rw [e, h] at h1
    omega
  · intro h
    have h1 := idx_le hi
    rcases Nat.lt_or_ge (ks.idxOf ks[i]) i with h2 | h2
    · exfalso
      refine h ?_
      have h3 := idx_at hi
      rw [List.mem_take_iff_getElem]
      exact ⟨ks.idxOf ks[i], by omega, h3⟩
    · omega
theorem LM.old {ks : List (List UInt8)} {i : Nat} {m : List (ByteArray × Int)} (h : LM ks i m) (hi : i < ks.length) (hm : mhas m (bs ks[i]) = true) : LM ks (i + 1) m ∧ mget m (bs ks[i]) = (ks.idxOf ks[i] : Nat) := by
  have hin : ks[i] ∈ ks.take i := by rw [h.has] at hm; exact of_decide_eq_true hm
  have ht : ∀ s, s ∈ ks.take (i + 1) ↔ s ∈ ks.take i := fun s => by
    rw [List.take_add_one, List.getElem?_eq_getElem hi]
    simp only [Option.toList_some, List.mem_append, List.mem_singleton]
    exact ⟨fun h => h.elim id (fun e => e ▸ hin), .inl⟩
  refine ⟨⟨fun s => by rw [h.has, decide_eq_decide]; exact (ht s).symm, fun s hs => h.get s ((ht s).1 hs), ?_⟩, h.get _ hin⟩
  rw [h.len, List.range_succ, List.filter_append]
  have : ks.idxOf ks[i] ≠ i := fun e => (idxOf_new hi).1 e hin
  have e2 : ks.getD i [] = ks[i] := by rw [List.getD_eq_getElem?_getD, List.getElem?_eq_getElem hi]; rfl
  have e3 : (ks.idxOf (ks.getD i []) == i) = false := by rw [e2]; simpa using this
  simp only [List.filter_cons, List.filter_nil, e3]
  simp
theorem LM.new {ks : List (List UInt8)} {i : Nat} {m : List (ByteArray × Int)} (h : LM ks i m) (hi : i < ks.length) (hm : mhas m (bs ks[i]) = false) :
    LM ks (i + 1) (mset m (bs ks[i]) i) ∧ mget (mset m (bs ks[i]) i) (bs ks[i]) = (ks.idxOf ks[i] : Nat) := by
  have hin : ks[i] ∉ ks.take i := by rw [h.has] at hm; exact of_decide_eq_false hm
  have hidx := (idxOf_new hi).2 hin
  have ht : ∀ s, s ∈ ks.take (i + 1) ↔ s ∈ ks.take i ∨ s = ks[i] := fun s => by
    rw [List.take_add_one, List.getElem?_eq_getElem hi]
    simp only [Option.toList_some, List.mem_append, List.mem_singleton]
  have hg : mget (mset m (bs ks[i]) i) (bs ks[i]) = (ks.idxOf ks[i] : Nat) := by rw [mget_mset, if_pos rfl, hidx]
  refine ⟨⟨fun s => ?_, fun s hs => ?_, ?_⟩, hg⟩
  · rw [mhas_mset, h.has]
    rw [← Bool.decide_or, decide_eq_decide, ht]
    exact ⟨fun h => h.elim (fun e => .inr (bs_inj e)) .inl, fun h => h.elim .inr (fun e => .inl (by rw [e]))⟩
  · by_cases e : s = ks[i]
    · subst e; exact hg
    · rw [mget_mset, if_neg (fun x => e (bs_inj x))]
      exact h.get s (((ht s).1 hs).resolve_right e)
  · have hk : bs ks[i] ∉ m.map (·.1) := fun x => by rw [mhas_mem.2 x] at hm; cases hm
    rw [mset_length, if_neg hk, h.len, List.range_succ, List.filter_append]
    have e2 : ks.getD i [] = ks[i] := by rw [List.getD_eq_getElem?_getD, List.getElem?_eq_getElem hi]; rfl
    have e3 : (ks.idxOf (ks.getD i []) == i) = true := by rw [e2]; simpa using hidx
    simp only [List.filter_cons, List.filter_nil, e3]
    simp
theorem LM.count {st : List (List Pr)} {c : List Nat} {m : List (ByteArray × Int)} (h : LM (kss st c) st.length m) : m.length = cnt st.length (nxt st c) := by
  rw [h.len]
  unfold cnt
  congr 1
  refine List.filter_congr fun j hj => ?_
  have hj' := List.mem_range.1 hj
  rw [nxt_at hj']
  congr 2
  rw [List.getD_eq_getElem?_getD, List.getElem?_eq_getElem (by rw [kss_len]; exact hj')]
  rfl
/-! ### by comparing -/
def vEq (v w : V) : Bool := decide (v.k = w.k) && decide (v.n = w.n) && decide (v.s = w.s) && decide (v.a = w.a)
theorem vEq_iff {v w : V} : vEq v w = true ↔ v = w := by
  simp only [vEq, Bool.and_eq_true, decide_eq_true_eq]
  constructor
  · rintro ⟨⟨⟨h1, h2⟩, h3⟩, h4⟩; cases v; cases w; simp only at h1 h2 h3 h4; rw [h1, h2, h3, h4]
  · rintro rfl; exact ⟨⟨⟨rfl, rfl⟩, rfl⟩, rfl⟩
theorem vEq_dec {v w : V} {i : Decidable (v = w)} : @decide (v = w) i = vEq v w := by
  by_cases h : v = w
  · rw [decide_eq_true h, vEq_iff.2 h]
  · rw [decide_eq_false h]
    cases e : vEq v w with
    | false => rfl
    | true => exact absurd (vEq_iff.1 e) h
/-- A table's value is in its one form. -/
def Tv (v : V) : Prop := v.k = 4 → v.n = 0 ∧ v.s.data.toList = []
def alike (c : List Nat) (v w : V) : Bool := if v.k = w.k then (if v.k = 4 then decide (at0 c v.a.toNat = at0 c w.a.toNat) else vEq v w) else false
theorem alike_lk {c : List Nat} {v w : V} (hv : Tv v) (hw : Tv w) : alike c v w = true ↔ lk c v = lk c w := by
  unfold alike lk
  by_cases h1 : v.k = w.k
  · rw [if_pos h1]
    by_cases h4 : v.k = 4
    · have h4' : w.k = 4 := h1 ▸ h4
      rw [if_pos h4, if_pos h4, if_pos h4', decide_eq_true_eq]
      unfold at0
      obtain ⟨a1, a2⟩ := hv h4
      obtain ⟨b1, b2⟩ := hw h4'
      constructor
      · intro h
        cases v; cases w
        simp only at h1 a1 a2 b1 b2 h ⊢
        rw [h1, a1, b1, h, bytes_ext (a2.trans b2.symm)]
      · intro h
        have := congrArg V.a h
        simp only at this
        omega
    · have h4' : w.k ≠ 4 := h1 ▸ h4
      rw [if_neg h4, if_neg h4, if_neg h4', vEq_iff]
  · rw [if_neg h1]
    constructor
    · intro h; cases h
    · intro h
      have := congrArg V.k h
      split at this <;> split at this <;> exact absurd this h1
/-- What stands at place i while the tables before it are gone through from behind, down to k. -/
def Mid (st : List (List Pr)) (c : List Nat) (i k x : Nat) : Prop := x = at0 (nxt st c) i ∨ (x = i ∧ ∀ j (hj : j < st.length) (hi : i < st.length), k ≤ j → j < i → keyS c st[j] ≠ keyS c st[i])
theorem Mid.start (st : List (List Pr)) (c : List Nat) (i : Nat) : Mid st c i i i := .inr ⟨rfl, fun j _ _ h1 h2 => by omega⟩
theorem Mid.hit {st : List (List Pr)} {c : List Nat} {i k x : Nat} (hi : i < st.length) (hk : k < i) (e : keyS c (st[k]'(by omega)) = keyS c st[i]) : Mid st c i k (at0 (nxt st c) k) := .inl ((nxt_iff (by omega) hi).2 e)
theorem Mid.fin {st : List (List Pr)} {c : List Nat} {i x : Nat} (h : Mid st c i 0 x) (hi : i < st.length) : x = at0 (nxt st c) i := by
  rcases h with h | ⟨h1, h2⟩
  · exact h
  · have g := (good_nxt st c).le i hi
    have g2 := (good_nxt st c).idem i hi
    rcases Nat.lt_or_ge (at0 (nxt st c) i) i with h3 | h3
    · exact absurd ((nxt_iff (by omega) hi).1 g2) (h2 _ (by omega) hi (Nat.zero_le _) h3)
    · omega
end Go.Sy
/- spec.l2less, spec.l3alike, spec.l3looks. No condition. -/
namespace Go.Proofs.YtkamfnmbidnhdaaDoor
open Go.Sy
set_option maxRecDepth 100000
set_option maxHeartbeats 4000000
set_option linter.unusedVariables false
set_option linter.unusedSimpArgs false
/-- Classes, as the program holds them. -/
def cI (c : List Nat) : List Int := c.map fun x : Nat => (x : Int)
theorem cI_len (c : List Nat) : (cI c).length = c.length := by simp [cI]
theorem cI_get {c : List Nat} {i : Nat} {p : Int} (h : (cI c)[i]? = some p) : p = (at0 c i : Nat) := by
  unfold cI at h
  rw [List.getElem?_map] at h
  unfold at0
  cases e : c[i]? with
  | none => rw [e] at h; cases h
  | some x =>
    rw [e] at h
    rw [List.getD_eq_getElem?_getD, e]
    exact (Option.some.inj h).symm
end Go.Proofs.YtkamfnmbidnhdaaDoor
/- Well-made graphs and the order of keys; what stays well made when tables are told by their classes. Plain; no condition. -/
namespace Go.Proofs.YtkamfnmbidnhdaaDoor
open Go.Sy
set_option linter.unusedVariables false
theorem ky_of {v : V} (h : KOk v) : Ky v := by
  obtain ⟨hk, h⟩ := h
  rcases h with ⟨a, _⟩ | ⟨a, b, c, d⟩ | ⟨a, c, d⟩ | ⟨a, b, c, d⟩ | ⟨a, b, c, d, e⟩
  · omega
  · exact ⟨by omega, by omega, fun x => by omega, fun _ => by rw [← ByteArray.toList_eq]; exact c, d⟩
  · exact ⟨by omega, by omega, fun x => by omega, fun _ => by rw [← ByteArray.toList_eq]; exact c, d⟩
  · exact ⟨by omega, by omega, fun x => b, fun x => absurd a x, c⟩
  · omega
theorem tv_of {v : V} {n : Nat} (h : VOk v n) : Tv v := fun h4 => by
  rcases h with ⟨a, _⟩ | ⟨a, b, c, d⟩ | ⟨a, c, d⟩ | ⟨a, b, c, d⟩ | ⟨a, b, c, d, e⟩
  · omega
  · omega
  · omega
  · omega
  · exact ⟨b, by rw [← ByteArray.toList_eq]; exact c⟩
theorem tok_srt {t : List Pr} {n : Nat} (h : TOk t n) : TOk (srt t) n :=
  ⟨by rw [(srt_perm t).length_eq]; exact h.1, fun p hp => h.2.1 p ((srt_perm t).mem_iff.1 hp), ((srt_perm t).map _).nodup_iff.2 h.2.2⟩
theorem tok_uniq {t ys : List Pr} {n : Nat} (h : TOk t n) (h1 : ys.Perm t) (h2 : Srt ys) : ys = srt t := srt_of (fun p hp => ky_of (h.2.1 p hp).1) h.2.2 h1 h2
def CIn (n : Nat) (c : List Nat) : Prop := ∀ i, i < n → at0 c i < n
theorem good_cin {n : Nat} {c : List Nat} (h : GoodC n c) : CIn n c := fun i hi => Nat.lt_of_le_of_lt (h.le i hi) hi
theorem vok_lk {c : List Nat} {n : Nat} {v : V} (h : VOk v n) (hc : CIn n c) : VOk (lk c v) n := by
  unfold lk
  split
  · rename_i h4
    rcases h with ⟨a, _⟩ | ⟨a, b, c, d⟩ | ⟨a, c, d⟩ | ⟨a, b, c, d⟩ | ⟨a, b, c, d, e⟩
    · omega
    · omega
    · omega
    · omega
    · have := hc v.a.toNat (by omega)
      unfold at0 at this
      exact .inr (.inr (.inr (.inr ⟨h4, b, c, by simp only; omega, by simp only; omega⟩)))
  · exact h
theorem lk_k (c : List Nat) (v : V) : (lk c v).k = v.k := by unfold lk; split <;> rfl
theorem tok_look {c : List Nat} {n : Nat} {t : List Pr} (h : TOk t n) (hc : CIn n c) : TOk (lookT c t) n := by
  refine ⟨by simp only [lookT, List.length_map]; exact h.1, fun p hp => ?_, ?_⟩
  · obtain ⟨q, hq, rfl⟩ := List.mem_map.1 hp
    obtain ⟨h1, h2, h3⟩ := h.2.1 q hq
    exact ⟨h1, vok_lk h2 hc, by rw [lk_k]; exact h3⟩
  · have : (lookT c t).map (·.key) = t.map (·.key) := by simp [lookT]
    rw [this]; exact h.2.2
theorem gok_look {c : List Nat} {v : V} {ts : List (List Pr)} (h : GOk v ts) (hc : CIn ts.length c) : GOk (lk c v) (ts.map fun t => lookT c (srt t)) := by
  refine ⟨by simp only [List.length_map]; exact h.1, by rw [List.length_map]; exact vok_lk h.2.1 hc, fun t ht => ?_⟩
  obtain ⟨t', ht', rfl⟩ := List.mem_map.1 ht
  rw [List.length_map]
  exact tok_look (tok_srt (h.2.2 t' ht')) hc
theorem allin_srt {ts : List (List Pr)} (h : AllIn ts) : AllIn (ts.map srt) := fun t ht p hp => by
  obtain ⟨t', ht', rfl⟩ := List.mem_map.1 ht
  rw [List.length_map]
  exact h t' ht' p ((srt_perm t').mem_iff.1 hp)
end Go.Proofs.YtkamfnmbidnhdaaDoor
/- spec.l3sorted: the pairs of a table, put in the order of their keys one by one. No condition. -/
namespace Go.Proofs.YtkamfnmbidnhdaaDoor
open Go.Sy
set_option maxRecDepth 100000
set_option maxHeartbeats 4000000
set_option linter.unusedVariables false
set_option linter.unusedSimpArgs false
theorem Pr.one (ps : List Pr) : ∀ v ∈ ps.flatMap Pr.c, Go.Sy.one v = true := fun v hv => by
  obtain ⟨x, _, hx⟩ := List.mem_flatMap.1 hv
  simp only [Pr.c, List.mem_cons, List.not_mem_nil, or_false] at hx
  rcases hx with rfl | rfl | rfl | rfl | rfl | rfl | rfl | rfl <;> rfl
theorem own_eq {u : Hp} {A : Option Addr} {n c e sz : Nat} {cs ds : List Value} (h : Own u A n c e sz cs) (e1 : cs = ds) : Own u A n c e sz ds := e1 ▸ h
theorem own_pairs {u : Hp} {A : Option Addr} {n c e : Nat} {ps : List Pr} (h : Own u A n c e 8 (ps.flatMap Pr.c)) : Pairs u A n ps := ⟨by have := h.len; rw [flat_length Pr.c_len] at this; omega, h.sl⟩
end Go.Proofs.YtkamfnmbidnhdaaDoor
