/- The walk by a symbolic frame (Sy1U): contracts of functions; each with its own conditions as hypotheses. -/
import Derived.Test.YtkamfnmbidnhdaaSy1S
import Derived.Test.YtkamfnmbidnhdaaSyX4
import Derived.Test.YtkamfnmbidnhdaaSyX5
import Derived.Test.YtkamfnmbidnhdaaSyX6
import Derived.Test.YtkamfnmbidnhdaaSyX8
namespace Go.Sy
theorem q_glt {P : Program} {F : Fr} {tm : Tm} {L : Lm} {u : Hp} {Q : Exit → Act → World → Prop} {q : Md} {l r : List Oper} {o : Oper} {d : Nat} {x y : Int} (hg : guardE l o = some d) (hd : kget tm d = some (.v (.bool (decide (x < y))))) (hp : ¬ x < y) (h2 : Run P Q F ((d, .v (.bool false)) :: tm) L u q l (o :: r)) :
    Run P Q F tm L u q l (o :: r) := q_guard hg hd (fun h => absurd h hp) (fun _ => h2)
end Go.Sy
namespace Go.Proofs.Ytkamfnmbidnhdaa
open Go.Sy
set_option maxRecDepth 100000
set_option maxHeartbeats 4000000
set_option linter.unusedVariables false
set_option linter.unusedSimpArgs false
theorem szTsf_len : ∀ (ts : List (List Pr)) (l : Int), 0 ≤ szTsf ts l → 0 ≤ l → ∀ t ∈ ts, (t.length : Int) ≤ l
  | [], l, _, _, t, ht => by cases ht
  | s :: r, l, h, h0, t, ht => by
    have h1 := szTf_le s l h0
    have h2 : 0 ≤ szTf s l ∧ 0 ≤ szTsf r (szTf s l) := by
      simp only [szTsf] at h
      split at h
      · omega
      · exact ⟨by omega, h⟩
    rcases List.mem_cons.1 ht with rfl | ht
    · have h3 := h2.1
      unfold szTf at h3
      split at h3
      · omega
      · unfold szPairsF at h3
        split at h3 <;> omega
    · have := szTsf_len r _ h2.2 h2.1 t ht
      omega
theorem szG_len {v : V} {ts : List (List Pr)} {l : Int} (h0 : 0 ≤ l) (h : 0 ≤ szGf v ts l) : (ts.length : Int) ≤ l ∧ ∀ t ∈ ts, (t.length : Int) ≤ l := by
  have h1 := szVf_le v.s l h0
  unfold szGf at h
  split at h
  · omega
  · split at h
    · omega
    · rename_i a b
      unfold szTablesF at h b
      split at h
      · omega
      · rename_i c
        refine ⟨by omega, fun t ht => ?_⟩
        have := szTsf_len ts _ h (by omega) t ht
        omega
theorem cnt_le : ∀ (ts : List (List Pr)) (m : Nat), (∀ t ∈ ts, t.length ≤ m) → cnt ts ≤ ts.length * m
  | [], m, _ => by simp [cnt]
  | t :: r, m, h => by
    have h1 := cnt_le r m (fun s hs => h s (.tail _ hs))
    have h2 := h t (.head _)
    simp only [cnt, List.length_cons, Nat.add_mul]; omega
theorem cT_le (v : V) (ts : List (List Pr)) : (cT v ts).length ≤ 200 ∧ ∀ t ∈ cT v ts, t.length ≤ 100 := by
  unfold cT
  split
  · rename_i hg
    obtain ⟨h1, h2, h3, h4⟩ := gok_in hg
    refine ⟨by have := (ordOf_nm h1 h2).len; simp [cTs]; omega, fun t ht => ?_⟩
    simp only [cTs, List.mem_map] at ht
    obtain ⟨a, ha, rfl⟩ := ht
    have hlt := (ordOf_nm h1 h2).lt a ha
    rw [List.getD_eq_getElem?_getD, List.getElem?_eq_getElem hlt]
    simp only [Option.getD_some, List.length_map]
    exact h4 _ (List.getElem_mem hlt)
  · exact ⟨by simp, fun t ht => by cases ht⟩
theorem cT_ok (v : V) {ts : List (List Pr)} (h : okTs ts) : okTs (cT v ts) := by
  obtain ⟨g1, g2⟩ := cT_le v ts
  refine ⟨by omega, fun t ht => ⟨by have := g2 t ht; omega, fun p hp => ?_⟩⟩
  unfold cT at ht
  split at ht
  · rename_i hg
    obtain ⟨h1, h2, h3, h4⟩ := gok_in hg
    simp only [cTs, List.mem_map] at ht
    obtain ⟨a, ha, rfl⟩ := ht
    have hlt := (ordOf_nm h1 h2).lt a ha
    rw [List.getD_eq_getElem?_getD, List.getElem?_eq_getElem hlt, Option.getD_some] at hp
    obtain ⟨q, hq, rfl⟩ := List.mem_map.1 hp
    obtain ⟨k1, k2⟩ := (h.2 _ (List.getElem_mem hlt)).2 q hq
    refine ⟨k1, ?_⟩
    show (ren (ordOf ts v) q.val).okS
    unfold ren
    split
    · exact k2
    · exact k2
  · cases ht
/-- A heap stays where other rows are written. -/
theorem le_rows {u0 u u' : Hp} {A : Option Addr} {hs : List Hd} (hl : Le u0 u) (ho : OffAll u0 A hs) (hu : ∀ b, (∀ y ∈ hs, blk y.A ≠ some b) → u' b = u b) : Le u0 u' := fun b o hb => by
  rw [hu b (fun y hy e => by rw [ho.2 y hy b e] at hb; cases hb)]; exact hl b o hb
theorem ot_rows {w u u' : Hp} {A B : Option Addr} {n c m d : Nat} {hs gs : List Hd} {ts ss : List (List Pr)} (hO : OT u 80 82 A n c hs ts) (hB : OT w 80 82 B m d gs ss) (hof : OffAll w A hs) (hu : ∀ b, (∀ y ∈ gs, blk y.A ≠ some b) → u' b = u b) : OT u' 80 82 A n c hs ts :=
  hO.keep fun b o hb ho => by
    rw [hu b (fun y hy e => ?_)]
    · exact ho
    · have hlive := hB.rows.live hy e
      rcases hb with hb | ⟨x, hx, hb⟩
      · exact hlive (hof.1 b hb)
      · exact hlive (hof.2 x hx b hb)
end Go.Proofs.Ytkamfnmbidnhdaa
