/- Graphs: copies, sizes, sameness, well-madeness; what the printed functions on them answer. -/
import Derived.Test.YtkamfnmbidnhdaaLoops
import Derived.Test.YtkamfnmbidnhdaaG27
import Derived.Test.YtkamfnmbidnhdaaPf25
import Derived.Test.YtkamfnmbidnhdaaPf24
import Derived.Test.YtkamfnmbidnhdaaPf26
import Derived.Test.YtkamfnmbidnhdaaPf28
set_option linter.unusedVariables false
set_option linter.unusedSimpArgs false
namespace Go.Proofs.Ytkamfnmbidnhdaa.P
open Go.RowKit Go.Proofs.YtkamfnmbidnhdaaW.PrintWords Go.Proofs.Ytkamfnmbidnhdaa.M
abbrev LV := S26
abbrev LP := S146
abbrev LT := S117
abbrev IV := S29
abbrev IP := S82
abbrev IT := S80
def tV (x : LV) : IV := ⟨x.f0, x.f1, x.f2, x.f3⟩
def tP (x : LP) : IP := ⟨tV x.f0, tV x.f1⟩
def tT (x : LT) : IT := ⟨x.f0.map tP⟩
def zIP : IP := z82
def zIT : IT := z80
theorem rdLP (x : List LP) (i : Nat) (h : i < x.length) : rd_T146 x (i : Int) = x[i] := by simp [rd_T146, h]
theorem rdLT (x : List LT) (i : Nat) (h : i < x.length) : rd_T117 x (i : Int) = x[i] := by simp [rd_T117, h]
theorem rdIP (x : List IP) (i : Nat) (h : i < x.length) : rd_T82 x (i : Int) = x[i] := by simp [rd_T82, h]
theorem rdIT (x : List IT) (i : Nat) (h : i < x.length) : rd_T80 x (i : Int) = x[i] := by simp [rd_T80, h]
theorem toPairS_says (x : List LP) (hx : x.length ≤ 3518437208883) : Ev (fun r => laws_toPairS.f r x) (x.map tP) := by
  have h := ev_from (n := x.length) (L := fun r i => laws_toPairS.l0 r x ((x.map tP).take i ++ List.replicate ((x.map tP).length - i) zIP) (i : Int)) (R := fun _ => x.map tP)
    (Ev.up0 fun k => by simp [laws_toPairS.l0, ← List.map_take])
    (fun i hi ih => Ev.up ih fun k hk => by
      simp only [laws_toPairS.l0]
      have hi' : i < (x.map tP).length := by simpa using hi
      have hl : ((x.map tP).take i ++ List.replicate ((x.map tP).length - i) zIP).length = x.length := by simp; omega
      have hs := set_step (x.map tP) zIP i hi'
      rw [List.getElem_map] at hs
      rw [if_pos (by omega), if_pos (by omega), rdLP x i hi]
      simp only [laws_toPair.f, laws_toVal.f, Option.bind_some]
      rw [if_pos (by rw [hl]; omega), Int.toNat_natCast, wrap_up hi (by omega)]
      exact (congrArg (fun l => laws_toPairS.l0 k x l ((i + 1 : Nat) : Int)) hs).trans hk) (Nat.zero_le _)
  refine Ev.map h fun k hk => ?_
  simp only [laws_toPairS.f]
  rw [if_pos (by omega), if_pos (by simpa using hx)]
  simpa [zIP] using hk
theorem toTableS_says (x : List LT) (hx : x.length ≤ 11728124029610) (hr : ∀ t, t ∈ x → t.f0.length ≤ 3518437208883) : Ev (fun r => laws_toTableS.f r x) (x.map tT) := by
  have h := ev_from (n := x.length) (L := fun r i => laws_toTableS.l0 r x ((x.map tT).take i ++ List.replicate ((x.map tT).length - i) zIT) (i : Int)) (R := fun _ => x.map tT)
    (Ev.up0 fun k => by simp [laws_toTableS.l0, ← List.map_take])
    (fun i hi ih => Ev.up2 (toPairS_says x[i].f0 (hr _ (List.getElem_mem hi))) ih fun k hk' hk => by
      simp only [laws_toTableS.l0]
      have hi' : i < (x.map tT).length := by simpa using hi
      have hl : ((x.map tT).take i ++ List.replicate ((x.map tT).length - i) zIT).length = x.length := by simp; omega
      have hs := set_step (x.map tT) zIT i hi'
      rw [List.getElem_map] at hs
      rw [if_pos (by omega), if_pos (by omega), rdLT x i hi]
      simp only [laws_toTable.f, hk', Option.bind_some]
      rw [if_pos (by rw [hl]; omega), Int.toNat_natCast, wrap_up hi (by omega)]
      exact (congrArg (fun l => laws_toTableS.l0 k x l ((i + 1 : Nat) : Int)) hs).trans hk) (Nat.zero_le _)
  refine Ev.map h fun k hk => ?_
  simp only [laws_toTableS.f]
  rw [if_pos (by omega), if_pos (by simpa using hx)]
  simpa [zIT] using hk
theorem toGraph_says (k n : Int) (s : ByteArray) (a : Int) (x : List LT) (hx : x.length ≤ 11728124029610) (hr : ∀ t, t ∈ x → t.f0.length ≤ 3518437208883) : Ev (fun r => laws_toGraph.f r k n s a x) (k, n, s, a, x.map tT) :=
  Ev.mapx (toTableS_says x hx hr) fun r hr => by simp only [laws_toGraph.f, laws_toVal.f, hr, Option.bind_some]
theorem eqVal_refl (k n : Int) (s : ByteArray) (a : Int) : laws_eqVal.f k n s a k n s a = some true := by simp [laws_eqVal.f]
theorem eqPairS_refl (x : List IP) (hx : x.length ≤ 9223372036854775807) : Ev (fun r => laws_eqPairS.f r x x) true := by
  have h := ev_from (n := x.length) (L := fun r i => laws_eqPairS.l0 r x x (i : Int)) (R := fun _ => true)
    (Ev.up0 fun k => by simp [laws_eqPairS.l0])
    (fun i hi ih => Ev.up ih fun k hk => by
      simp only [laws_eqPairS.l0]
      rw [if_pos (by omega), if_pos (by omega), if_pos (by omega)]
      simp only [laws_eqPair.f, eqVal_refl, Option.bind_some, if_true]
      rw [wrap_up hi hx]
      exact hk) (Nat.zero_le _)
  exact Ev.map h fun k hk => by simpa [laws_eqPairS.f] using hk
theorem eqTableS_refl (m : List IT) (hm : m.length ≤ 9223372036854775807) (hr : ∀ x, x ∈ m → x.f0.length ≤ 9223372036854775807) : Ev (fun r => laws_eqTableS.f r m m) true := by
  have h := ev_from (n := m.length) (L := fun r i => laws_eqTableS.l0 r m m (i : Int)) (R := fun _ => true)
    (Ev.up0 fun k => by simp [laws_eqTableS.l0])
    (fun i hi ih => Ev.up2 (eqPairS_refl m[i].f0 (hr _ (List.getElem_mem hi))) ih fun k hk' hk => by
      simp only [laws_eqTableS.l0]
      rw [if_pos (by omega), if_pos (by omega), if_pos (by omega), rdIT m i hi]
      simp only [laws_eqTable.f, hk', Option.bind_some, if_true]
      rw [wrap_up hi hm]
      exact hk) (Nat.zero_le _)
  exact Ev.map h fun k hk => by simpa [laws_eqTableS.f] using hk
theorem eqGraph_refl (k n : Int) (s : ByteArray) (a : Int) (m : List IT) (hm : m.length ≤ 9223372036854775807) (hr : ∀ x, x ∈ m → x.f0.length ≤ 9223372036854775807) : Ev (fun r => laws_eqGraph.f r k n s a m k n s a m) true :=
  Ev.map (eqTableS_refl m hm hr) fun r h => by simp only [laws_eqGraph.f, eqVal_refl, h, Option.bind_some, if_true]
/-! Sizes. -/
def cut (a : Int) (n : Nat) : Int := if (n : Int) ≤ a then a - n else -1
def szv (x : LV) : Nat := x.f2.size
def szp (x : LP) : Nat := szv x.f0 + szv x.f1
def szps (x : List LP) : Nat := x.length + (x.map szp).sum
def szt (x : LT) : Nat := szps x.f0
def szts (x : List LT) : Nat := x.length + (x.map szt).sum
def smallV (x : LV) : Prop := x.f2.size ≤ 9223372036854775807
def smallP (x : LP) : Prop := smallV x.f0 ∧ smallV x.f1
def smallT (x : LT) : Prop := x.f0.length ≤ 9223372036854775807 ∧ ∀ p, p ∈ x.f0 → smallP p
theorem cut_neg {a : Int} {n : Nat} (h0 : 0 ≤ a) : cut a n < 0 ↔ a < n := by unfold cut; split <;> omega
theorem cut_pos {a : Int} {n : Nat} (h : (n : Int) ≤ a) : cut a n = a - n := by unfold cut; rw [if_pos h]
theorem cut_over {a : Int} {n : Nat} (h : a < (n : Int)) : cut a n = -1 := by unfold cut; rw [if_neg (by omega)]
theorem cut_cut {a : Int} {n m : Nat} (h : (n : Int) ≤ a) : cut (a - n) m = cut a (n + m) := by unfold cut; split <;> split <;> omega
theorem szVal_says (k n : Int) (s : ByteArray) (p a : Int) (h0 : 0 ≤ a) (h1 : a ≤ 1048576) (hs : s.size ≤ 9223372036854775807) : laws_szVal.f k n s p a = some (cut a s.size) := by
  have hw : wrap64 (a - (s.size : Int)) = a - (s.size : Int) := by unfold wrap64; omega
  unfold laws_szVal.f cut
  rw [hw]
  by_cases h : (s.size : Int) ≤ a
  · rw [if_neg (by omega), if_pos h]
  · rw [if_pos (by omega), if_neg h]
theorem szPair_says (x : LP) (a : Int) (h0 : 0 ≤ a) (h1 : a ≤ 1048576) (hs : smallP x) : laws_szPair.f x.f0.f0 x.f0.f1 x.f0.f2 x.f0.f3 x.f1.f0 x.f1.f1 x.f1.f2 x.f1.f3 a = some (cut a (szp x)) := by
  unfold laws_szPair.f
  rw [szVal_says _ _ _ _ a h0 h1 hs.1]
  simp only [Option.bind_some]
  by_cases h : (x.f0.f2.size : Int) ≤ a
  · rw [if_neg (by rw [cut_pos h]; omega), cut_pos h, szVal_says _ _ _ _ _ (by omega) (by omega) hs.2, cut_cut h]
    simp only [Option.bind_some]
    by_cases h2 : cut a (x.f0.f2.size + x.f1.f2.size) < 0
    · rw [if_pos h2]
      have := (cut_neg h0).1 h2
      rw [show szp x = x.f0.f2.size + x.f1.f2.size from rfl, cut_over this]
    · rw [if_neg h2]; rfl
  · rw [if_pos ((cut_neg h0).2 (by omega)), cut_over (n := szp x) (by simp only [szp, szv]; omega)]
theorem szPairS_says (x : List LP) (hx : x.length ≤ 9223372036854775807) (hs : ∀ p, p ∈ x → smallP p) (a : Int) (h0 : 0 ≤ a) (h1 : a ≤ 1048576) : Ev (fun r => laws_szPairS.f r x a) (cut a (szps x)) := by
  have hL : ∀ d i : Nat, i + d = x.length → ∀ b : Int, 0 ≤ b → b ≤ 1048576 → Ev (fun r => laws_szPairS.l0 r x b (i : Int)) (cut b ((x.drop i).map szp).sum) := by
    intro d
    induction d with
    | zero =>
      intro i hi b hb0 hb1
      refine Ev.up0 fun k => ?_
      simp only [laws_szPairS.l0]
      rw [if_neg (by omega), List.drop_of_length_le (by omega)]
      rw [cut_pos (by simp; omega)]; simp
    | succ d ih =>
      intro i hi b hb0 hb1
      have hi' : i < x.length := by omega
      have hp := szPair_says x[i] b hb0 hb1 (hs _ (List.getElem_mem hi'))
      rw [List.drop_eq_getElem_cons hi', List.map_cons, List.sum_cons]
      by_cases h : (szp x[i] : Int) ≤ b
      · rw [← cut_cut h]
        refine Ev.up (ih (i + 1) (by omega) (b - szp x[i]) (by omega) (by omega)) fun k hk => ?_
        simp only [laws_szPairS.l0]
        rw [if_pos (by omega), if_pos (by omega), rdLP x i hi', hp]
        simp only [Option.bind_some]
        rw [if_neg (by rw [cut_pos h]; omega), cut_pos h, wrap_up hi' hx]
        exact hk
      · refine Ev.up0 fun k => ?_
        simp only [laws_szPairS.l0]
        rw [if_pos (by omega), if_pos (by omega), rdLP x i hi', hp]
        simp only [Option.bind_some]
        rw [if_pos ((cut_neg hb0).2 (by omega)), cut_over (by omega)]
  have hw : wrap64 (a - (x.length : Int)) = a - (x.length : Int) := by unfold wrap64; omega
  by_cases h : (x.length : Int) ≤ a
  · have := hL x.length 0 (by omega) (a - x.length) (by omega) (by omega)
    rw [cut_cut h] at this
    refine Ev.map this fun k hk => ?_
    simp only [laws_szPairS.f]
    rw [hw, if_neg (by omega)]
    exact hk
  · refine ⟨0, fun k _ => ?_⟩
    simp only [laws_szPairS.f]
    rw [hw, if_pos (by omega), cut_over (by simp only [szps]; omega)]
theorem szTable_says (x : LT) (hs : smallT x) (a : Int) (h0 : 0 ≤ a) (h1 : a ≤ 1048576) : Ev (fun r => laws_szTable.f r x.f0 a) (cut a (szt x)) :=
  Ev.map (szPairS_says x.f0 hs.1 hs.2 a h0 h1) fun r h => by
    simp only [laws_szTable.f, h, Option.bind_some]
    by_cases c : cut a (szt x) < 0
    · rw [if_pos c, cut_over ((cut_neg h0).1 c)]
    · rw [if_neg c]
theorem szTableS_says (x : List LT) (hx : x.length ≤ 9223372036854775807) (hs : ∀ p, p ∈ x → smallT p) (a : Int) (h0 : 0 ≤ a) (h1 : a ≤ 1048576) : Ev (fun r => laws_szTableS.f r x a) (cut a (szts x)) := by
  have hL : ∀ d i : Nat, i + d = x.length → ∀ b : Int, 0 ≤ b → b ≤ 1048576 → Ev (fun r => laws_szTableS.l0 r x b (i : Int)) (cut b ((x.drop i).map szt).sum) := by
    intro d
    induction d with
    | zero =>
      intro i hi b hb0 hb1
      refine Ev.up0 fun k => ?_
      simp only [laws_szTableS.l0]
      rw [if_neg (by omega), List.drop_of_length_le (by omega)]
      rw [cut_pos (by simp; omega)]; simp
    | succ d ih =>
      intro i hi b hb0 hb1
      have hi' : i < x.length := by omega
      have hp := szTable_says x[i] (hs _ (List.getElem_mem hi')) b hb0 hb1
      rw [List.drop_eq_getElem_cons hi', List.map_cons, List.sum_cons]
      by_cases h : (szt x[i] : Int) ≤ b
      · rw [← cut_cut h]
        refine Ev.up2 hp (ih (i + 1) (by omega) (b - szt x[i]) (by omega) (by omega)) fun k hk' hk => ?_
        simp only [laws_szTableS.l0]
        rw [if_pos (by omega), if_pos (by omega), rdLT x i hi', hk']
        simp only [Option.bind_some]
        rw [if_neg (by rw [cut_pos h]; omega), cut_pos h, wrap_up hi' hx]
        exact hk
      · refine Ev.upx hp fun k hk' => ?_
        rw [cut_over (n := szt x[i]) (by omega)] at hk'
        simp only [laws_szTableS.l0]
        rw [if_pos (by omega), if_pos (by omega), rdLT x i hi', hk']
        simp only [Option.bind_some]
        rw [if_pos (by omega), cut_over (by omega)]
  have hw : wrap64 (a - (x.length : Int)) = a - (x.length : Int) := by unfold wrap64; omega
  by_cases h : (x.length : Int) ≤ a
  · have := hL x.length 0 (by omega) (a - x.length) (by omega) (by omega)
    rw [cut_cut h] at this
    refine Ev.map this fun k hk => ?_
    simp only [laws_szTableS.f]
    rw [hw, if_neg (by omega)]
    exact hk
  · refine ⟨0, fun k _ => ?_⟩
    simp only [laws_szTableS.f]
    rw [hw, if_pos (by omega), cut_over (by simp only [szts]; omega)]
theorem szGraph_says (k n : Int) (s : ByteArray) (p : Int) (hr : s.size ≤ 9223372036854775807) (x : List LT) (hx : x.length ≤ 9223372036854775807) (hs : ∀ p, p ∈ x → smallT p) (a : Int) (h0 : 0 ≤ a) (h1 : a ≤ 1048576) :
    Ev (fun r => laws_szGraph.f r k n s p x a) (cut a (s.size + szts x)) := by
  by_cases h : (s.size : Int) ≤ a
  · have := szTableS_says x hx hs (a - s.size) (by omega) (by omega)
    rw [cut_cut h] at this
    refine Ev.map this fun r hk => ?_
    simp only [laws_szGraph.f, szVal_says k n s p a h0 h1 hr, Option.bind_some]
    rw [if_neg (by rw [cut_pos h]; omega), cut_pos h, hk]
    simp only [Option.bind_some]
    by_cases c : cut a (s.size + szts x) < 0
    · rw [if_pos c, cut_over ((cut_neg h0).1 c)]
    · rw [if_neg c]
  · refine ⟨0, fun r _ => ?_⟩
    simp only [laws_szGraph.f, szVal_says k n s p a h0 h1 hr, Option.bind_some]
    rw [if_pos ((cut_neg h0).2 (by omega)), cut_over (by omega)]
theorem sum_le {α : Type} (f : α → Nat) (l : List α) (x : α) (h : x ∈ l) : f x ≤ (l.map f).sum := by
  induction l with
  | nil => cases h
  | cons y r ih =>
    rw [List.map_cons, List.sum_cons]
    rcases List.mem_cons.1 h with rfl | h
    · omega
    · have := ih h; omega
/-- Of a graph that is not too large. -/
theorem sz_small {x : List LT} {N : Nat} (h : szts x ≤ N) : x.length ≤ N ∧ ∀ t, t ∈ x → t.f0.length ≤ N := by
  refine ⟨by simp only [szts] at h; omega, fun t ht => ?_⟩
  have := sum_le szt x t ht
  simp only [szts, szt, szps] at h this
  omega
/-! Well made. -/
/-- The pairs of one table, behind the keys ks. -/
def goodB (n : Int) : List V → List IP → Bool
  | _, [] => true
  | ks, p :: r => if keyB p.f0.f0 p.f0.f1 p.f0.f2 p.f0.f3 = false then false else if valB p.f1.f0 p.f1.f1 p.f1.f2 p.f1.f3 n = false then false else if p.f1.f0 = 0 then false
    else if toV p.f0 ∈ ks then false else goodB n (ks ++ [toV p.f0]) r
theorem pairsB_good (n : Int) : ∀ (ps : List IP) (m : List (V × Int)), (∀ e, e ∈ m → e.2 = 1) → pairsB n m ps = goodB n (m.map (·.1)) ps
  | [], m, h => rfl
  | p :: r, m, h => by
    simp only [pairsB, goodB, mget_mset, if_true]
    have key : (if 1 < wrap64 (mget m (toV p.f0) + 1) then false else pairsB n (mset m (toV p.f0) (wrap64 (mget m (toV p.f0) + 1))) r) = (if toV p.f0 ∈ m.map (·.1) then false else goodB n (m.map (·.1) ++ [toV p.f0]) r) := by
      rcases find_idx m (toV p.f0) with ⟨i, hi, _, h2, h3, _⟩ | ⟨_, h2, _, h4⟩
      · have h1 : mget m (toV p.f0) = 1 := by rw [h3]; exact h _ (List.getElem_mem hi)
        have hm : toV p.f0 ∈ m.map (·.1) := List.mem_map.2 ⟨m[i], List.getElem_mem hi, h2⟩
        rw [h1, if_pos (by unfold wrap64; omega), if_pos hm]
      · rw [h2, if_neg (by unfold wrap64; omega), if_neg h4, mset_new _ _ h4, pairsB_good n r _ (by
          intro e he
          rcases List.mem_append.1 he with he | he
          · exact h e he
          · rw [List.mem_singleton] at he; subst he; show wrap64 (0 + 1) = 1; unfold wrap64; omega)]
        simp
    rw [key]
theorem specOk_l2 (T : List IT) (M I : Int) (ps : List IP) (i : Nat) (hi : i < ps.length) (hps : ps.length ≤ 9223372036854775807) (r0 r1 : Int) (r2 : ByteArray) (r3 k0 k1 : Int) (k2 : ByteArray) (k3 v0 v1 : Int) (v2 : ByteArray) (v3 : Int) (R1 : Bool)
    (h1 : Ev (fun r => spec_GraphOk.l1 r T M I ps (ps.length : Int) (wrap64 ((i : Int) + 1)) r0 r1 r2 r3 T ps) R1) :
    Ev (fun r => spec_GraphOk.l2 r (i : Int) 0 T M I ps (ps.length : Int) (i : Int) r0 r1 r2 r3 T ps k0 k1 k2 k3 v0 v1 v2 v3) (if (⟨k0, k1, k2, k3⟩ : V) ∈ (ps.take i).map (fun p => toV p.f0) then false else R1) := by
  have h := ev_from (n := i) (L := fun r j => spec_GraphOk.l2 r (i : Int) (j : Int) T M I ps (ps.length : Int) (i : Int) r0 r1 r2 r3 T ps k0 k1 k2 k3 v0 v1 v2 v3) (R := fun j => if (⟨k0, k1, k2, k3⟩ : V) ∈ ((ps.take i).drop j).map (fun p => toV p.f0) then false else R1)
    (by
      have : ((ps.take i).drop i).map (fun p => toV p.f0) = [] := by simp
      simp only [this, List.not_mem_nil, if_false]
      exact Ev.up h1 fun k hk => by simp only [spec_GraphOk.l2]; rw [if_neg (by omega)]; exact hk)
    (fun j hj ih => by
      have hj' : j < ps.length := by omega
      have hd : (ps.take i).drop j = ps[j] :: (ps.take i).drop (j + 1) := by
        rw [List.drop_eq_getElem_cons (by simp; omega)]; simp
      have ht : ((ps[j].f0.f0) == k0 && ((ps[j].f0.f1) == k1 && (((ps[j].f0.f2).toList) == k2.toList && ((ps[j].f0.f3) == k3)))) = decide ((⟨k0, k1, k2, k3⟩ : V) = toV ps[j].f0) := by
        rw [text_beq, show (decide ((⟨k0, k1, k2, k3⟩ : V) = toV ps[j].f0)) = decide (toV ps[j].f0 = (⟨k0, k1, k2, k3⟩ : V)) from decide_eq_decide.2 eq_comm]
        simp only [toV, V.mk.injEq, Bool.decide_and]
        rfl
      rw [hd]
      by_cases c : (⟨k0, k1, k2, k3⟩ : V) = toV ps[j].f0
      · rw [if_pos (by rw [List.map_cons]; exact List.mem_cons.2 (.inl c))]
        refine Ev.up0 fun k => ?_
        simp only [spec_GraphOk.l2]
        rw [if_pos (by omega), if_pos (by omega), if_pos (by omega), rdIP ps j hj', ht, if_pos (decide_eq_true c)]
      · have hm : ((⟨k0, k1, k2, k3⟩ : V) ∈ (ps[j] :: (ps.take i).drop (j + 1)).map (fun p => toV p.f0)) = ((⟨k0, k1, k2, k3⟩ : V) ∈ ((ps.take i).drop (j + 1)).map (fun p => toV p.f0)) := by
          rw [List.map_cons, List.mem_cons]; simp [c]
        simp only [hm]
        refine Ev.up ih fun k hk => ?_
        simp only [spec_GraphOk.l2]
        rw [if_pos (by omega), if_pos (by omega), if_pos (by omega), rdIP ps j hj', ht, if_neg (by simp [c]), wrap_up hj' hps]
        exact hk) (Nat.zero_le _)
  simpa using h
theorem specOk_l1 (T : List IT) (M I : Int) (ps : List IP) (hps : ps.length ≤ 9223372036854775807) (r0 r1 : Int) (r2 : ByteArray) (r3 : Int) (R0 : Bool)
    (h0 : Ev (fun r => spec_GraphOk.l0 r T M (wrap64 (I + 1)) r0 r1 r2 r3 T) R0) :
    Ev (fun r => spec_GraphOk.l1 r T M I ps (ps.length : Int) 0 r0 r1 r2 r3 T ps) (goodB (T.length : Int) [] ps && R0) := by
  have h := ev_from (n := ps.length) (L := fun r i => spec_GraphOk.l1 r T M I ps (ps.length : Int) (i : Int) r0 r1 r2 r3 T ps) (R := fun i => goodB (T.length : Int) ((ps.take i).map (fun p => toV p.f0)) (ps.drop i) && R0)
    (by
      rw [List.drop_of_length_le (Nat.le_refl _)]
      simp only [goodB, Bool.true_and]
      exact Ev.up h0 fun k hk => by simp only [spec_GraphOk.l1]; rw [if_neg (by omega)]; exact hk)
    (fun i hi ih => by
      have hd := List.drop_eq_getElem_cons hi
      have ht : (ps.take (i + 1)).map (fun p => toV p.f0) = (ps.take i).map (fun p => toV p.f0) ++ [toV ps[i].f0] := by
        rw [List.take_succ_eq_append_getElem hi, List.map_append]; rfl
      rw [hd]
      simp only [goodB]
      rw [ht] at ih
      by_cases kB : keyB ps[i].f0.f0 ps[i].f0.f1 ps[i].f0.f2 ps[i].f0.f3 = false
      · rw [if_pos kB, Bool.false_and]
        refine Ev.up (f := fun r => spec_GraphOk.j3 r (i : Int) T M I ps (ps.length : Int) (i : Int) true r0 r1 r2 r3 T ps ps[i].f0.f0 ps[i].f0.f1 ps[i].f0.f2 ps[i].f0.f3 ps[i].f1.f0 ps[i].f1.f1 ps[i].f1.f2 ps[i].f1.f3) (Ev.up0 fun k => by simp [spec_GraphOk.j3]) fun k hk => ?_
        simp only [spec_GraphOk.l1]
        rw [if_pos (by omega), if_pos (by omega), if_pos (by omega), rdIP ps i hi, l2key_says, kB]
        simp only [Option.bind_some, Bool.false_eq_true, if_false]
        exact hk
      · rw [if_neg kB]
        replace kB := (Bool.not_eq_false _).mp kB
        by_cases vB : valB ps[i].f1.f0 ps[i].f1.f1 ps[i].f1.f2 ps[i].f1.f3 (T.length : Int) = false
        · rw [if_pos vB, Bool.false_and]
          refine Ev.up (f := fun r => spec_GraphOk.j3 r (i : Int) T M I ps (ps.length : Int) (i : Int) true r0 r1 r2 r3 T ps ps[i].f0.f0 ps[i].f0.f1 ps[i].f0.f2 ps[i].f0.f3 ps[i].f1.f0 ps[i].f1.f1 ps[i].f1.f2 ps[i].f1.f3) (Ev.up0 fun k => by simp [spec_GraphOk.j3]) fun k hk => ?_
          simp only [spec_GraphOk.l1]
          rw [if_pos (by omega), if_pos (by omega), if_pos (by omega), rdIP ps i hi, l2key_says, kB]
          simp only [Option.bind_some, if_true]
          rw [l2val_says, vB]
          simp only [Option.bind_some, Bool.false_eq_true, if_false]
          exact hk
        · rw [if_neg vB]
          replace vB := (Bool.not_eq_false _).mp vB
          have up : ∀ R, Ev (fun r => spec_GraphOk.j3 r (i : Int) T M I ps (ps.length : Int) (i : Int) (ps[i].f1.f0 == 0) r0 r1 r2 r3 T ps ps[i].f0.f0 ps[i].f0.f1 ps[i].f0.f2 ps[i].f0.f3 ps[i].f1.f0 ps[i].f1.f1 ps[i].f1.f2 ps[i].f1.f3) R → Ev (fun r => spec_GraphOk.l1 r T M I ps (ps.length : Int) (i : Int) r0 r1 r2 r3 T ps) R := fun R h => Ev.up h fun k hk => by
            simp only [spec_GraphOk.l1]
            rw [if_pos (by omega), if_pos (by omega), if_pos (by omega), rdIP ps i hi, l2key_says, kB]
            simp only [Option.bind_some, if_true]
            rw [l2val_says, vB]
            simp only [Option.bind_some, if_true]
            exact hk
          refine up _ ?_
          by_cases zB : ps[i].f1.f0 = 0
          · rw [if_pos zB, Bool.false_and]
            exact Ev.up0 fun k => by simp [spec_GraphOk.j3, zB]
          · rw [if_neg zB]
            have h2 := specOk_l2 T M I ps i hi hps r0 r1 r2 r3 ps[i].f0.f0 ps[i].f0.f1 ps[i].f0.f2 ps[i].f0.f3 ps[i].f1.f0 ps[i].f1.f1 ps[i].f1.f2 ps[i].f1.f3 _ (by rw [wrap_up hi hps]; exact ih)
            refine Ev.up (f := fun r => spec_GraphOk.l2 r (i : Int) 0 T M I ps (ps.length : Int) (i : Int) r0 r1 r2 r3 T ps ps[i].f0.f0 ps[i].f0.f1 ps[i].f0.f2 ps[i].f0.f3 ps[i].f1.f0 ps[i].f1.f1 ps[i].f1.f2 ps[i].f1.f3) ?_ (fun k hk => by
              simp only [spec_GraphOk.j3]; rw [if_neg (by simpa using zB)]; exact hk)
            have : (toV ps[i].f0) = (⟨ps[i].f0.f0, ps[i].f0.f1, ps[i].f0.f2, ps[i].f0.f3⟩ : V) := rfl
            rw [this]
            by_cases mB : (⟨ps[i].f0.f0, ps[i].f0.f1, ps[i].f0.f2, ps[i].f0.f3⟩ : V) ∈ (ps.take i).map (fun p => toV p.f0)
            · rw [if_pos mB] at h2 ⊢
              exact h2
            · rw [if_neg mB] at h2 ⊢
              exact h2) (Nat.zero_le _)
  simpa using h
theorem specOk_l0 (T : List IT) (hT : T.length ≤ 9223372036854775807) (r0 r1 : Int) (r2 : ByteArray) (r3 : Int) : Ev (fun r => spec_GraphOk.l0 r T (T.length : Int) 0 r0 r1 r2 r3 T) (tablesB (T.length : Int) T) := by
  have h := ev_from (n := T.length) (L := fun r i => spec_GraphOk.l0 r T (T.length : Int) (i : Int) r0 r1 r2 r3 T) (R := fun i => tablesB (T.length : Int) (T.drop i))
    (by
      rw [List.drop_of_length_le (Nat.le_refl _)]
      exact Ev.up0 fun k => by simp only [spec_GraphOk.l0]; rw [if_neg (by omega)]; rfl)
    (fun i hi ih => by
      rw [List.drop_eq_getElem_cons hi, tablesB]
      by_cases c : 100 < T[i].f0.length
      · rw [if_pos c]
        refine Ev.up0 fun k => ?_
        simp only [spec_GraphOk.l0]
        rw [if_pos (by omega), if_pos (by omega), if_pos (by omega), rdIT T i hi, if_pos (by omega)]
      · rw [if_neg c]
        have h1 := specOk_l1 T (T.length : Int) (i : Int) T[i].f0 (by omega) r0 r1 r2 r3 _ (by rw [wrap_up hi hT]; exact ih)
        have e : (if pairsB (T.length : Int) [] T[i].f0 = false then false else tablesB (T.length : Int) (T.drop (i + 1))) = (goodB (T.length : Int) [] T[i].f0 && tablesB (T.length : Int) (T.drop (i + 1))) := by
          rw [pairsB_good _ _ _ (by simp)]
          simp only [List.map_nil]
          cases goodB (T.length : Int) [] T[i].f0 <;> simp
        rw [e]
        refine Ev.up h1 fun k hk => ?_
        simp only [spec_GraphOk.l0]
        rw [if_pos (by omega), if_pos (by omega), if_pos (by omega), rdIT T i hi, if_neg (by omega)]
        exact hk) (Nat.zero_le _)
  simpa using h
theorem specOk_says (k n : Int) (s : ByteArray) (a : Int) (T : List IT) (hT : T.length ≤ 9223372036854775807) : Ev (fun r => spec_GraphOk.f r k n s a T) (graphB k n s a T) := by
  unfold graphB
  by_cases c : 200 < T.length
  · rw [if_pos c]
    refine Ev.up0 fun r => ?_
    simp only [spec_GraphOk.f]
    rw [if_pos (by omega)]
    simp [spec_GraphOk.j0]
  · rw [if_neg c]
    have hf : ∀ r, spec_GraphOk.f r k n s a T = spec_GraphOk.j0 r (!valB k n s a (T.length : Int)) k n s a T := fun r => by
      simp only [spec_GraphOk.f]
      rw [if_neg (by omega), l2val_says]
      rfl
    simp only [hf]
    by_cases v : valB k n s a (T.length : Int) = false
    · rw [if_pos v, v]
      exact Ev.up0 fun r => by simp [spec_GraphOk.j0]
    · rw [if_neg v, (Bool.not_eq_false _).mp v]
      exact Ev.up (specOk_l0 T hT k n s a) fun r hr => by simp only [spec_GraphOk.j0, Bool.not_true, Bool.false_eq_true, if_false]; exact hr
end Go.Proofs.Ytkamfnmbidnhdaa.P
