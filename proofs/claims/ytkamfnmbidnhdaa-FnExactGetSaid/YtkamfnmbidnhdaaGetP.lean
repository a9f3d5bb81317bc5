/- Get: what stands at a path. Both sides answer one plain function. -/
import Derived.Test.YtkamfnmbidnhdaaPathsP
import Derived.Test.YtkamfnmbidnhdaaPf32
import Derived.Test.YtkamfnmbidnhdaaPf30
set_option linter.unusedVariables false
set_option linter.unusedSimpArgs false
namespace Go.Proofs.Ytkamfnmbidnhdaa.P
open Go.RowKit Go.Proofs.YtkamfnmbidnhdaaW.PrintWords Go.Proofs.Ytkamfnmbidnhdaa.M
abbrev V4 := Int × Int × ByteArray × Int
def zero4 : V4 := (0, 0, ⟨#[]⟩, 0)
def v4 (x : IV) : V4 := (x.f0, x.f1, x.f2, x.f3)
def findV : List IP → IV → V4
  | [], _ => zero4
  | p :: r, k => if toV p.f0 = toV k then v4 p.f1 else findV r k
theorem key_test (p : IP) (k : IV) : ((p.f0.f0) == k.f0 && ((p.f0.f1) == k.f1 && (((p.f0.f2).toList) == k.f2.toList && ((p.f0.f3) == k.f3)))) = decide (toV p.f0 = toV k) := by
  rw [text_beq]
  simp only [toV, V.mk.injEq, Bool.decide_and]
  rfl
theorem find_says (x : List IP) (hx : x.length ≤ 9223372036854775807) (k : IV) : Ev (fun r => impl_find.f r x k.f0 k.f1 k.f2 k.f3) (findV x k) := by
  have h := ev_from (n := x.length) (L := fun r i => impl_find.l0 r x (x.length : Int) (i : Int) k.f0 k.f1 k.f2 k.f3) (R := fun i => findV (x.drop i) k)
    (by
      rw [List.drop_of_length_le (Nat.le_refl _)]
      exact Ev.up0 fun r => by simp only [impl_find.l0]; rw [if_neg (by omega)]; rfl)
    (fun i hi ih => by
      rw [List.drop_eq_getElem_cons hi, findV]
      by_cases c : toV x[i].f0 = toV k
      · rw [if_pos c]
        refine Ev.up0 fun r => ?_
        simp only [impl_find.l0]
        rw [if_pos (by omega), if_pos (by omega), if_pos (by omega), rdIP x i hi, key_test, if_pos (decide_eq_true c)]
        rfl
      · rw [if_neg c]
        refine Ev.up ih fun r hr => ?_
        simp only [impl_find.l0]
        rw [if_pos (by omega), if_pos (by omega), if_pos (by omega), rdIP x i hi, key_test, if_neg (by simp [c]), wrap_up hi hx]
        exact hr) (Nat.zero_le _)
  exact Ev.map h fun r hr => by simpa [impl_find.f] using hr
theorem l2at_says (r0 r1 : Int) (r2 : ByteArray) (r3 : Int) (T : List IT) (a : Int) (h0 : 0 ≤ a) (h1 : a < (T.length : Int)) (hr : ∀ t, t ∈ T → t.f0.length ≤ 9223372036854775807) (k : IV) :
    Ev (fun r => spec_l2at.f r r0 r1 r2 r3 T a k.f0 k.f1 k.f2 k.f3) (findV (rd_T80 T a).f0 k) := by
  have ha : a.toNat < T.length := by omega
  have hmem : rd_T80 T a ∈ T := by
    simp only [rd_T80, List.getD_eq_getElem?_getD, List.getElem?_eq_getElem ha, Option.getD_some]
    exact List.getElem_mem ha
  have hx := hr _ hmem
  generalize hq : (rd_T80 T a).f0 = x at *
  have h := ev_from (n := x.length) (L := fun r i => spec_l2at.l0 r x (x.length : Int) (i : Int) k.f0 k.f1 k.f2 k.f3) (R := fun i => findV (x.drop i) k)
    (by
      rw [List.drop_of_length_le (Nat.le_refl _)]
      exact Ev.up0 fun r => by simp only [spec_l2at.l0]; rw [if_neg (by omega)]; rfl)
    (fun i hi ih => by
      rw [List.drop_eq_getElem_cons hi, findV]
      by_cases c : toV x[i].f0 = toV k
      · rw [if_pos c]
        refine Ev.up0 fun r => ?_
        simp only [spec_l2at.l0]
        rw [if_pos (by omega), if_pos (by omega), if_pos (by omega), rdIP x i hi, key_test, if_pos (decide_eq_true c)]
        rfl
      · rw [if_neg c]
        refine Ev.up ih fun r hr => ?_
        simp only [spec_l2at.l0]
        rw [if_pos (by omega), if_pos (by omega), if_pos (by omega), rdIP x i hi, key_test, if_neg (by simp [c]), wrap_up hi hx]
        exact hr) (Nat.zero_le _)
  exact Ev.map h fun r hr => by simp only [spec_l2at.f]; rw [if_pos h0, if_pos h1, hq]; simpa using hr
def getV (T : List IT) : List IV → V4 → V4
  | [], v => v
  | k :: r, v => if v.1 = 4 then getV T r (findV (rd_T80 T v.2.2.2).f0 k) else zero4
/-- A value leads to a table of the graph, or to none. -/
def okv (n : Nat) (v : V4) : Prop := v.1 = 4 → 0 ≤ v.2.2.2 ∧ v.2.2.2 < (n : Int)
theorem okv_val {n : Nat} {x : IV} (h : valB x.f0 x.f1 x.f2 x.f3 (n : Int) = true) : okv n (v4 x) := by
  intro h4
  simp only [v4] at h4 ⊢
  unfold valB at h
  rw [h4] at h
  simp at h
  omega
theorem good_vals {n : Int} : ∀ (ps : List IP) (ks : List V), goodB n ks ps = true → ∀ p, p ∈ ps → valB p.f1.f0 p.f1.f1 p.f1.f2 p.f1.f3 n = true
  | [], _, _, p, hp => by cases hp
  | q :: r, ks, h, p, hp => by
    simp only [goodB] at h
    split at h
    · cases h
    · split at h
      · cases h
      · rename_i hv
        split at h
        · cases h
        · split at h
          · cases h
          · rcases List.mem_cons.1 hp with rfl | hp
            · exact (Bool.not_eq_false _).mp hv
            · exact good_vals r _ h p hp
theorem tables_good {n : Int} : ∀ (T : List IT), tablesB n T = true → ∀ t, t ∈ T → t.f0.length ≤ 100 ∧ goodB n [] t.f0 = true
  | [], _, t, ht => by cases ht
  | q :: r, h, t, ht => by
    simp only [tablesB] at h
    split at h
    · cases h
    · rename_i h1
      split at h
      · cases h
      · rename_i h2
        rcases List.mem_cons.1 ht with rfl | ht
        · exact ⟨by omega, by have := (Bool.not_eq_false _).mp h2; rw [pairsB_good _ _ _ (by simp)] at this; simpa using this⟩
        · exact tables_good r h t ht
theorem graph_good {k n : Int} {s : ByteArray} {a : Int} {T : List IT} (h : graphB k n s a T = true) : T.length ≤ 200 ∧ valB k n s a (T.length : Int) = true ∧ ∀ t, t ∈ T → t.f0.length ≤ 100 ∧ goodB (T.length : Int) [] t.f0 = true := by
  unfold graphB at h
  split at h
  · cases h
  · rename_i h1
    split at h
    · cases h
    · rename_i h2
      exact ⟨by omega, (Bool.not_eq_false _).mp h2, tables_good T h⟩
theorem okv_find {n : Nat} {ps : List IP} (h : ∀ p, p ∈ ps → valB p.f1.f0 p.f1.f1 p.f1.f2 p.f1.f3 (n : Int) = true) (k : IV) : okv n (findV ps k) := by
  induction ps with
  | nil => intro h4; cases h4
  | cons p r ih =>
    simp only [findV]
    split
    · exact okv_val (h p List.mem_cons_self)
    · exact ih fun q hq => h q (List.mem_cons_of_mem _ hq)
theorem rdT_mem {T : List IT} {a : Int} (h0 : 0 ≤ a) (h1 : a < (T.length : Int)) : rd_T80 T a ∈ T := by
  have ha : a.toNat < T.length := by omega
  simp only [rd_T80, List.getD_eq_getElem?_getD, List.getElem?_eq_getElem ha, Option.getD_some]
  exact List.getElem_mem ha
theorem get_both {k n : Int} {s : ByteArray} {a : Int} {T : List IT} (hg : graphB k n s a T = true) (p : List IV) (hp : p.length ≤ 9223372036854775807) :
    Ev (fun r => spec_l2get.f r k n s a T p) (getV T p (k, n, s, a)) ∧ Ev (fun r => impl_Get.l0 r p (p.length : Int) 0 k n s a T k n s a) (getV T p (k, n, s, a)) := by
  obtain ⟨_, hv, hT⟩ := graph_good hg
  have hl : ∀ t, t ∈ T → t.f0.length ≤ 9223372036854775807 := fun t ht => by have := (hT t ht).1; omega
  have step : ∀ v : V4, okv T.length v → v.1 = 4 → ∀ q : IV, okv T.length (findV (rd_T80 T v.2.2.2).f0 q) := fun v h h4 q => okv_find (fun p hp => good_vals _ _ (hT _ (rdT_mem (h h4).1 (h h4).2)).2 p hp) q
  have hL : ∀ d i : Nat, i + d = p.length → ∀ v : V4, okv T.length v →
      Ev (fun r => spec_l2get.l0 r p (p.length : Int) (i : Int) k n s a T v.1 v.2.1 v.2.2.1 v.2.2.2) (getV T (p.drop i) v) ∧ Ev (fun r => impl_Get.l0 r p (p.length : Int) (i : Int) k n s a T v.1 v.2.1 v.2.2.1 v.2.2.2) (getV T (p.drop i) v) := by
    intro d
    induction d with
    | zero =>
      intro i hi v ho
      rw [List.drop_of_length_le (by omega)]
      constructor
      · refine Ev.up0 fun r => ?_
        simp only [spec_l2get.l0]
        rw [if_neg (by omega)]
        rfl
      · refine Ev.up0 fun r => ?_
        simp only [impl_Get.l0]
        rw [if_neg (by omega)]
        rfl
    | succ d ih =>
      intro i hi v ho
      have hi' : i < p.length := by omega
      rw [List.drop_eq_getElem_cons hi', getV]
      by_cases c : v.1 = 4
      · rw [if_pos c]
        obtain ⟨c0, c1⟩ := ho c
        obtain ⟨i1, i2⟩ := ih (i + 1) (by omega) _ (step v ho c p[i])
        constructor
        · refine Ev.up2 (l2at_says k n s a T v.2.2.2 c0 c1 hl p[i]) i1 fun r hr' hr => ?_
          simp only [spec_l2get.l0]
          rw [if_pos (by omega), if_pos (by omega), if_pos (by omega), if_pos c, rdIV p i hi', hr']
          simp only [Option.bind_some]
          rw [wrap_up hi' hp]
          exact hr
        · refine Ev.up2 (find_says _ (hl _ (rdT_mem c0 c1)) p[i]) i2 fun r hr' hr => ?_
          simp only [impl_Get.l0]
          rw [if_pos (by omega), if_pos (by omega), if_pos (by omega), if_pos c, if_pos c0, if_pos c1, rdIV p i hi', hr']
          simp only [Option.bind_some]
          rw [wrap_up hi' hp]
          exact hr
      · rw [if_neg c]
        constructor
        · refine Ev.up0 fun r => ?_
          simp only [spec_l2get.l0]
          rw [if_pos (by omega), if_pos (by omega), if_pos (by omega), if_neg c]
          rfl
        · refine Ev.up0 fun r => ?_
          simp only [impl_Get.l0]
          rw [if_pos (by omega), if_pos (by omega), if_pos (by omega), if_neg c]
          rfl
  have hroot : okv T.length (k, n, s, a) := okv_val (x := ⟨k, n, s, a⟩) hv
  obtain ⟨h1, h2⟩ := hL p.length 0 (by omega) (k, n, s, a) hroot
  exact ⟨Ev.map h1 fun r hr => by simp only [spec_l2get.f]; exact hr, h2⟩
theorem get_says (k n : Int) (s : ByteArray) (a : Int) (T : List IT) (hT : T.length ≤ 9223372036854775807) (p : List IV) (hp : p.length ≤ 9223372036854775807) :
    ∃ v : V4, Ev (fun r => spec_Get.f r k n s a T p) v ∧ Ev (fun r => impl_Get.f r k n s a T p) v := by
  have ho := specOk_says k n s a T hT
  by_cases c : graphB k n s a T = true
  · obtain ⟨h1, h2⟩ := get_both c p hp
    refine ⟨getV T p (k, n, s, a), ?_, ?_⟩
    · obtain ⟨K, hK⟩ := Ev.two ho h1
      refine ⟨K, fun r hr => ?_⟩
      obtain ⟨a1, a2⟩ := hK r hr
      simp only [spec_Get.f, a1, c, a2, Option.bind_some, if_true]
    · exact Ev.map h2 fun r hr => by simp only [impl_Get.f, impl_GraphOk.f, c, Option.bind_some, if_true]; exact hr
  · replace c := (Bool.not_eq_true _).mp c
    refine ⟨zero4, Ev.mapx ho fun r hr => ?_, ⟨0, fun r _ => ?_⟩⟩
    · simp only [spec_Get.f, hr, c, Option.bind_some, Bool.false_eq_true, if_false]; rfl
    · simp only [impl_Get.f, impl_GraphOk.f, c, Option.bind_some, Bool.false_eq_true, if_false]; rfl
end Go.Proofs.Ytkamfnmbidnhdaa.P
