/- The specification's freezer: its state; how often tables are led to. No condition. -/
import Derived.Test.YtkamfnmbidnhdaaDoorSqAJ
import Derived.Test.YtkamfnmbidnhdaaDoorSqAG
import Derived.Test.YtkamfnmbidnhdaaDoorSqAI
set_option linter.unusedVariables false
set_option linter.unusedSimpArgs false
set_option linter.unusedSectionVars false
namespace Go.Proofs.YtkamfnmbidnhdaaDoor
open Go.Sy
set_option maxRecDepth 100000
set_option maxHeartbeats 4000000
set_option linter.unusedVariables false
/-- A pair, a table, a graph that is well made. -/
def POk (p : Pr) (n : Nat) : Prop := KOk p.key ∧ VOk p.val n ∧ p.val.k ≠ 0
def TOk (t : List Pr) (n : Nat) : Prop := t.length ≤ 100 ∧ (∀ p ∈ t, POk p n) ∧ (t.map (·.key)).Nodup
def GOk (v : V) (ts : List (List Pr)) : Prop := ts.length ≤ 200 ∧ VOk v ts.length ∧ ∀ t ∈ ts, TOk t ts.length
instance (p : Pr) (n : Nat) : Decidable (POk p n) := by unfold POk; infer_instance
instance (t : List Pr) (n : Nat) : Decidable (TOk t n) := by unfold TOk; infer_instance
instance (v : V) (ts : List (List Pr)) : Decidable (GOk v ts) := by unfold GOk; infer_instance
theorem gok_not {b : Bool} {p : Prop} [Decidable p] (hb : b = false) (h : ¬ p) : b = decide p := by rw [hb, decide_eq_false h]
theorem keys_take {t : List Pr} {i : Nat} {p : Pr} (h : t[i]? = some p) : (t.take (i + 1)).map (·.key) = (t.take i).map (·.key) ++ [p.key] := by rw [take_snoc h]; simp
theorem nodup_take {t : List Pr} (h : (t.map (·.key)).Nodup) (i : Nat) : ((t.take i).map (·.key)).Nodup := by
  rw [List.map_take]; exact h.sublist (List.take_sublist _ _)
theorem nodup_next {t : List Pr} {i : Nat} {p : Pr} (h : t[i]? = some p) : ((t.take (i + 1)).map (·.key)).Nodup ↔ ((t.take i).map (·.key)).Nodup ∧ p.key ∉ (t.take i).map (·.key) := by
  rw [keys_take h, List.nodup_append]
  constructor
  · rintro ⟨h1, _, h3⟩; exact ⟨h1, fun hm => h3 _ hm _ (by simp) rfl⟩
  · rintro ⟨h1, h2⟩; exact ⟨h1, by simp, fun a ha b hb e => h2 (by rw [List.mem_singleton] at hb; rw [← hb, ← e]; exact ha)⟩
theorem key_at {t : List Pr} {i j : Nat} {p q : Pr} (hj : t[j]? = some q) (hji : j < i) (he : q.key = p.key) : p.key ∈ (t.take i).map (·.key) := by
  rw [← he]
  refine List.mem_map.2 ⟨q, ?_, rfl⟩
  refine List.mem_of_getElem? (i := j) ?_
  rw [List.getElem?_take, if_pos hji]; exact hj
set_option linter.unusedSimpArgs false
theorem tok_take {t : List Pr} {n i : Nat} {p : Pr} (h : t[i]? = some p) (h1 : ∀ p ∈ t.take i, POk p n) (h2 : POk p n) : ∀ p ∈ t.take (i + 1), POk p n := by
  rw [take_snoc h]
  intro q hq
  rcases List.mem_append.1 hq with hq | hq
  · exact h1 q hq
  · rw [List.mem_singleton] at hq; rw [hq]; exact h2
theorem gok_no_t {v : V} {ts : List (List Pr)} {t : List Pr} (hm : t ∈ ts) (h : ¬ TOk t ts.length) : ¬ GOk v ts := fun g => h (g.2.2 t hm)
theorem tok_no_p {t : List Pr} {n : Nat} {p : Pr} (hm : p ∈ t) (h : ¬ POk p n) : ¬ TOk t n := fun g => h (g.2.1 p hm)
theorem tok_no_k {t : List Pr} {n i j : Nat} {p q : Pr} (hi : t[i]? = some p) (hj : t[j]? = some q) (hji : j < i) (he : q.key = p.key) : ¬ TOk t n := fun g =>
  ((nodup_next hi).1 (nodup_take g.2.2 (i + 1))).2 (key_at hj hji he)
theorem specOk (v : V) (ts : List (List Pr)) (A : Option Addr) (n c : Nat) (h : Hp) (hP : Tabs h A n ts) : Pur Tryd.prog 63 [.ag (gsv v A n c)] h (fun y : Bool => .v (.bool y)) (decide (GOk v ts)) := by
  obtain rfl := hP.len
  refine enterS Tryd.func63 rfl (n := 71) rfl rfl (fun k N => ?_)
  repeat' (first | (refine r_pure hT rfl rfl rfl rfl ?_) | (refine r_new hT rfl rfl rfl rfl ?_) | (refine r_write hT rfl rfl rfl ?_) | (refine r_nil ?_) | (refine q_nil ?_) | (refine p_call (l2val v v A ts.length c _) rfl rfl rfl rfl rfl (hC _ rfl) rfl rfl rfl ?_) | (refine r_arith rfl rfl rfl rfl rfl rfl rfl (by omega) ?_) | (with_reducible refine r_seq ?_) | (with_reducible refine x_then ?_) | (with_reducible refine r_region ?_) | (refine r_draw hM (by kernel_rfl) ?_) | (with_reducible refine r_skip ?_) | (with_reducible refine r_ret ?_) | (with_reducible refine x_then_ret ?_) | (with_reducible refine r_block ?_) | (with_reducible refine x_block ?_) | (with_reducible refine x_block_ret ?_) | (with_reducible refine r_exit ?_) | (with_reducible refine x_then_exit ?_) | (with_reducible refine x_block_here ?_) | (refine x_block_past rfl ?_) | (refine c_yes rfl (by omega) ?_) | (refine c_no rfl (by omega) ?_) | (refine c_no rfl (fun h => h rfl) ?_) | (refine r_cond_false rfl ?_) | (refine r_cond_true rfl ?_) | (refine r_cond_dec rfl (fun _ => ?_) (fun _ => ?_)) | (refine r_cond_true rfl ?_) | (refine r_cond_false rfl ?_) | (refine c_not rfl (fun _ => ?_) (fun _ => ?_)) | (refine r_off rfl rfl rfl ?_) | (refine q_guard rfl rfl (fun _ => ?_) (fun _ => ?_)) | (refine q_guardn rfl rfl (fun _ => ?_) (fun _ => ?_)))
  · exact r_fin hT rfl _ rfl rfl rfl trivial rfl ⟨gok_not rfl (fun g => by have := g.1; omega), rfl⟩
  · rename_i h1 h2
    exact r_fin hT rfl _ rfl rfl rfl trivial rfl ⟨gok_not rfl (fun g => h2 g.2.1), rfl⟩
  rename_i h1 h2
  refine r_loop (γ := Nat) (fun i => i ≤ ts.length ∧ ∀ t ∈ ts.take i, TOk t ts.length) (fun i => [(1, .p 1 0), (2, .v (.bool false)), (20, .v (.slice A ts.length c)), (21, .v (.int .i64 ts.length)), (22, .v (.int .i64 i))])
    (fun _ => [(1, ⟨none, gsv v A ts.length c, 51⟩)]) (fun _ => h) (fun i => ts.length - i) 0 ⟨by omega, by simp⟩ (into rfl ⟨rfl, rfl, rfl, rfl, rfl, trivial⟩ ⟨rfl, trivial⟩ rfl rfl) ?_
  rintro i ⟨hi, hg⟩
  by_cases hlt : i < ts.length
  · obtain ⟨b, off, A1, n1, c1, t, rfl, hd, hix, hm, hat, hc1, hp1⟩ := hP.elem hlt
    obtain rfl := hp1.1
    repeat' (first | (refine r_pure hT rfl rfl rfl rfl ?_) | (refine r_new hT rfl rfl rfl rfl ?_) | (refine r_write hT rfl rfl rfl ?_) | (refine r_nil ?_) | (refine q_nil ?_) | (refine r_indexN hT rfl rfl rfl rfl rfl rfl rfl rfl rfl (by omega) ?_) | (refine r_load hT hat rfl rfl rfl rfl rfl (Nat.add_zero _).symm rfl rfl rfl rfl rfl ?_) | (refine r_arith rfl rfl rfl rfl rfl rfl rfl (by omega) ?_) | (with_reducible refine r_seq ?_) | (with_reducible refine x_then ?_) | (with_reducible refine r_region ?_) | (refine r_draw hM (by kernel_rfl) ?_) | (with_reducible refine r_skip ?_) | (with_reducible refine r_ret ?_) | (with_reducible refine x_then_ret ?_) | (with_reducible refine r_block ?_) | (with_reducible refine x_block ?_) | (with_reducible refine x_block_ret ?_) | (with_reducible refine r_exit ?_) | (with_reducible refine x_then_exit ?_) | (with_reducible refine x_block_here ?_) | (refine x_block_past rfl ?_) | (refine c_yes rfl (by omega) ?_) | (refine c_no rfl (by omega) ?_) | (refine c_no rfl (fun h => h rfl) ?_) | (refine r_cond_false rfl ?_) | (refine r_cond_true rfl ?_) | (refine r_cond_dec rfl (fun _ => ?_) (fun _ => ?_)) | (refine r_cond_true rfl ?_) | (refine r_cond_false rfl ?_) | (refine c_not rfl (fun _ => ?_) (fun _ => ?_)) | (refine r_off rfl rfl rfl ?_) | (refine q_guard rfl rfl (fun _ => ?_) (fun _ => ?_)) | (refine q_guardn rfl rfl (fun _ => ?_) (fun _ => ?_)))
    · exact r_fin hT rfl _ rfl rfl rfl trivial rfl ⟨gok_not rfl (gok_no_t hm fun g => by have := g.1; omega), rfl⟩
    refine r_loop (γ := Nat) (fun j => j ≤ t.length ∧ (∀ p ∈ t.take j, POk p ts.length) ∧ ((t.take j).map (·.key)).Nodup) (fun j => [(1, .p 1 0), (2, .v (.bool false)), (4, .p 4 0), (20, .v (.slice (some ⟨b, off, none⟩) ts.length c)), (21, .v (.int .i64 ts.length)), (22, .v (.int .i64 i)),
        (31, .v (.slice A1 t.length c1)), (32, .v (.int .i64 t.length)), (33, .v (.int .i64 j))])
      (fun _ => [(4, ⟨none, [.v (.slice A1 t.length c1)], 59⟩), (1, ⟨none, gsv v (some ⟨b, off, none⟩) ts.length c, 51⟩)]) (fun _ => h) (fun j => t.length - j) 0 ⟨by omega, by simp, by simp⟩ (into rfl ⟨rfl, rfl, rfl, rfl, rfl, rfl, rfl, rfl, rfl, trivial⟩ ⟨rfl, rfl, trivial⟩ rfl rfl) ?_
    rintro j ⟨hj, hg2, hnd⟩
    by_cases hlt2 : j < t.length
    · obtain ⟨b2, off2, p, rfl, hd2, hix2, hm2, hat2⟩ := hp1.elem Pr.c_len hlt2
      repeat' (first | (refine r_pure hT rfl rfl rfl rfl ?_) | (refine r_new hT rfl rfl rfl rfl ?_) | (refine r_write hT rfl rfl rfl ?_) | (refine r_nil ?_) | (refine q_nil ?_) | (refine r_indexN hT rfl rfl rfl rfl rfl rfl rfl rfl rfl (by omega) ?_) | (refine r_load hT hat2 rfl rfl rfl rfl rfl (Nat.add_zero _).symm rfl rfl rfl rfl rfl ?_) | (refine p_call (l2key p.key _) rfl rfl rfl rfl rfl (hC _ rfl) rfl rfl rfl ?_) | (refine p_call (l2val p.val v (some ⟨b, off, none⟩) ts.length c _) rfl rfl rfl rfl rfl (hC _ rfl) rfl rfl rfl ?_) | (refine r_arith rfl rfl rfl rfl rfl rfl rfl (by omega) ?_) | (with_reducible refine r_seq ?_) | (with_reducible refine x_then ?_) | (with_reducible refine r_region ?_) | (refine r_draw hM (by kernel_rfl) ?_) | (with_reducible refine r_skip ?_) | (with_reducible refine r_ret ?_) | (with_reducible refine x_then_ret ?_) | (with_reducible refine r_block ?_) | (with_reducible refine x_block ?_) | (with_reducible refine x_block_ret ?_) | (with_reducible refine r_exit ?_) | (with_reducible refine x_then_exit ?_) | (with_reducible refine x_block_here ?_) | (refine x_block_past rfl ?_) | (refine c_yes rfl (by omega) ?_) | (refine c_no rfl (by omega) ?_) | (refine c_no rfl (fun h => h rfl) ?_) | (refine r_cond_false rfl ?_) | (refine r_cond_true rfl ?_) | (refine r_cond_dec rfl (fun _ => ?_) (fun _ => ?_)) | (refine r_cond_true rfl ?_) | (refine r_cond_false rfl ?_) | (refine c_not rfl (fun _ => ?_) (fun _ => ?_)) | (refine r_off rfl rfl rfl ?_) | (refine q_guard rfl rfl (fun _ => ?_) (fun _ => ?_)) | (refine q_guardn rfl rfl (fun _ => ?_) (fun _ => ?_)))
      · rename_i x1 x2; exact r_fin hT rfl _ rfl rfl rfl trivial rfl ⟨gok_not rfl (gok_no_t hm (tok_no_p hm2 fun g => x2 g.1)), rfl⟩
      · rename_i x1 x2 x3; exact r_fin hT rfl _ rfl rfl rfl trivial rfl ⟨gok_not rfl (gok_no_t hm (tok_no_p hm2 fun g => x3 g.2.1)), rfl⟩
      · rename_i x1 x2 x3 x4; exact r_fin hT rfl _ rfl rfl rfl trivial rfl ⟨gok_not rfl (gok_no_t hm (tok_no_p hm2 fun g => g.2.2 x4)), rfl⟩
      rename_i x1 x2 x3 x4
      refine r_loop (γ := Nat) (fun l => l ≤ j ∧ p.key ∉ (t.take l).map (·.key)) (fun l => [(1, .p 1 0), (2, .v (.bool false)), (4, .p 4 0), (5, .v (.int .i64 j)), (6, .p 6 0), (7, .v (.int .i64 l)), (20, .v (.slice (some ⟨b, off, none⟩) ts.length c)), (21, .v (.int .i64 ts.length)), (22, .v (.int .i64 i)),
          (31, .v (.slice (some ⟨b2, off2, none⟩) t.length c1)), (32, .v (.int .i64 t.length)), (33, .v (.int .i64 j))])
        (fun _ => [(6, ⟨none, p.sv, 61⟩), (4, ⟨none, [.v (.slice (some ⟨b2, off2, none⟩) t.length c1)], 59⟩), (1, ⟨none, gsv v (some ⟨b, off, none⟩) ts.length c, 51⟩)]) (fun _ => h) (fun l => j - l) 0 ⟨by omega, by simp⟩
        (into rfl ⟨rfl, rfl, rfl, rfl, rfl, rfl, rfl, rfl, rfl, rfl, rfl, rfl, trivial⟩ ⟨rfl, rfl, rfl, trivial⟩ rfl rfl) ?_
      rintro l ⟨hl, hno⟩
      by_cases hlt3 : l < j
      · obtain ⟨b3, off3, q, e3, hd3, hix3, hm3, hat3⟩ := hp1.elem Pr.c_len (i := l) (by omega)
        have e3' := Option.some.inj e3
        simp only [Addr.mk.injEq] at e3'
        obtain ⟨rfl, rfl, _⟩ := e3'
        repeat' (first | (refine r_pure hT rfl rfl rfl rfl ?_) | (refine r_new hT rfl rfl rfl rfl ?_) | (refine r_write hT rfl rfl rfl ?_) | (refine r_nil ?_) | (refine q_nil ?_) | (refine r_indexN hT rfl rfl rfl rfl rfl rfl rfl rfl rfl (by omega) ?_) | (refine r_load hT hat3 rfl rfl rfl rfl rfl rfl rfl rfl rfl rfl rfl ?_) | (refine r_eqs (fun w => eq29f w q.key.k q.key.n q.key.s q.key.a p.key) (by kernel_rfl) (.inl rfl) rfl rfl rfl rfl rfl rfl rfl rfl ?_) | (refine r_arith rfl rfl rfl rfl rfl rfl rfl (by omega) ?_) | (with_reducible refine r_seq ?_) | (with_reducible refine x_then ?_) | (with_reducible refine r_region ?_) | (refine r_draw hM (by kernel_rfl) ?_) | (with_reducible refine r_skip ?_) | (with_reducible refine r_ret ?_) | (with_reducible refine x_then_ret ?_) | (with_reducible refine r_block ?_) | (with_reducible refine x_block ?_) | (with_reducible refine x_block_ret ?_) | (with_reducible refine r_exit ?_) | (with_reducible refine x_then_exit ?_) | (with_reducible refine x_block_here ?_) | (refine x_block_past rfl ?_) | (refine c_yes rfl (by omega) ?_) | (refine c_no rfl (by omega) ?_) | (refine c_no rfl (fun h => h rfl) ?_) | (refine r_cond_false rfl ?_) | (refine r_cond_true rfl ?_) | (refine r_cond_dec rfl (fun _ => ?_) (fun _ => ?_)) | (refine r_cond_true rfl ?_) | (refine r_cond_false rfl ?_) | (refine c_not rfl (fun _ => ?_) (fun _ => ?_)) | (refine r_off rfl rfl rfl ?_) | (refine q_guard rfl rfl (fun _ => ?_) (fun _ => ?_)) | (refine q_guardn rfl rfl (fun _ => ?_) (fun _ => ?_)))
        · rename_i x5; exact r_fin hT rfl _ rfl rfl rfl trivial rfl ⟨gok_not rfl (gok_no_t hm (tok_no_k hix2 hix3 hlt3 x5)), rfl⟩
        · rename_i x5
          exact x_round (l + 1) ⟨hlt3, by rw [keys_take hix3]; simp only [List.mem_append, List.mem_singleton, not_or]; exact ⟨hno, fun e => x5 e.symm⟩⟩ (by omega) (into rfl ⟨rfl, rfl, rfl, rfl, rfl, rfl, rfl, rfl, rfl, rfl, rfl, rfl, trivial⟩ ⟨rfl, rfl, rfl, trivial⟩ rfl rfl)
      · obtain rfl : l = j := by omega
        repeat' (first | (refine r_pure hT rfl rfl rfl rfl ?_) | (refine r_new hT rfl rfl rfl rfl ?_) | (refine r_write hT rfl rfl rfl ?_) | (refine r_nil ?_) | (refine q_nil ?_) | (refine r_arith rfl rfl rfl rfl rfl rfl rfl (by omega) ?_) | (with_reducible refine r_seq ?_) | (with_reducible refine x_then ?_) | (with_reducible refine r_region ?_) | (refine r_draw hM (by kernel_rfl) ?_) | (with_reducible refine r_skip ?_) | (with_reducible refine r_ret ?_) | (with_reducible refine x_then_ret ?_) | (with_reducible refine r_block ?_) | (with_reducible refine x_block ?_) | (with_reducible refine x_block_ret ?_) | (with_reducible refine r_exit ?_) | (with_reducible refine x_then_exit ?_) | (with_reducible refine x_block_here ?_) | (refine x_block_past rfl ?_) | (refine c_yes rfl (by omega) ?_) | (refine c_no rfl (by omega) ?_) | (refine c_no rfl (fun h => h rfl) ?_) | (refine r_cond_false rfl ?_) | (refine r_cond_true rfl ?_) | (refine r_cond_dec rfl (fun _ => ?_) (fun _ => ?_)) | (refine r_cond_true rfl ?_) | (refine r_cond_false rfl ?_) | (refine c_not rfl (fun _ => ?_) (fun _ => ?_)) | (refine r_off rfl rfl rfl ?_) | (refine q_guard rfl rfl (fun _ => ?_) (fun _ => ?_)) | (refine q_guardn rfl rfl (fun _ => ?_) (fun _ => ?_)))
        exact x_round (l + 1) ⟨hlt2, tok_take hix2 hg2 ⟨x2, x3, x4⟩, (nodup_next hix2).2 ⟨hnd, hno⟩⟩ (by omega) (into rfl ⟨rfl, rfl, rfl, rfl, rfl, rfl, rfl, rfl, rfl, trivial⟩ ⟨rfl, rfl, trivial⟩ rfl rfl)
    · obtain rfl : j = t.length := by omega
      rename_i x1
      repeat' (first | (refine r_pure hT rfl rfl rfl rfl ?_) | (refine r_new hT rfl rfl rfl rfl ?_) | (refine r_write hT rfl rfl rfl ?_) | (refine r_nil ?_) | (refine q_nil ?_) | (refine r_arith rfl rfl rfl rfl rfl rfl rfl (by omega) ?_) | (with_reducible refine r_seq ?_) | (with_reducible refine x_then ?_) | (with_reducible refine r_region ?_) | (refine r_draw hM (by kernel_rfl) ?_) | (with_reducible refine r_skip ?_) | (with_reducible refine r_ret ?_) | (with_reducible refine x_then_ret ?_) | (with_reducible refine r_block ?_) | (with_reducible refine x_block ?_) | (with_reducible refine x_block_ret ?_) | (with_reducible refine r_exit ?_) | (with_reducible refine x_then_exit ?_) | (with_reducible refine x_block_here ?_) | (refine x_block_past rfl ?_) | (refine c_yes rfl (by omega) ?_) | (refine c_no rfl (by omega) ?_) | (refine c_no rfl (fun h => h rfl) ?_) | (refine r_cond_false rfl ?_) | (refine r_cond_true rfl ?_) | (refine r_cond_dec rfl (fun _ => ?_) (fun _ => ?_)) | (refine r_cond_true rfl ?_) | (refine r_cond_false rfl ?_) | (refine c_not rfl (fun _ => ?_) (fun _ => ?_)) | (refine r_off rfl rfl rfl ?_) | (refine q_guard rfl rfl (fun _ => ?_) (fun _ => ?_)) | (refine q_guardn rfl rfl (fun _ => ?_) (fun _ => ?_)))
      exact x_round (i + 1) ⟨hlt, by
        rw [take_snoc hix]
        intro s hs
        rcases List.mem_append.1 hs with hs | hs
        · exact hg s hs
        · rw [List.mem_singleton] at hs; rw [hs]; exact ⟨by omega, by simpa using hg2, by simpa using hnd⟩⟩ (by omega) (into rfl ⟨rfl, rfl, rfl, rfl, rfl, trivial⟩ ⟨rfl, trivial⟩ rfl rfl)
  · repeat' (first | (refine r_pure hT rfl rfl rfl rfl ?_) | (refine r_new hT rfl rfl rfl rfl ?_) | (refine r_write hT rfl rfl rfl ?_) | (refine r_nil ?_) | (refine q_nil ?_) | (refine r_arith rfl rfl rfl rfl rfl rfl rfl (by omega) ?_) | (with_reducible refine r_seq ?_) | (with_reducible refine x_then ?_) | (with_reducible refine r_region ?_) | (refine r_draw hM (by kernel_rfl) ?_) | (with_reducible refine r_skip ?_) | (with_reducible refine r_ret ?_) | (with_reducible refine x_then_ret ?_) | (with_reducible refine r_block ?_) | (with_reducible refine x_block ?_) | (with_reducible refine x_block_ret ?_) | (with_reducible refine r_exit ?_) | (with_reducible refine x_then_exit ?_) | (with_reducible refine x_block_here ?_) | (refine x_block_past rfl ?_) | (refine c_yes rfl (by omega) ?_) | (refine c_no rfl (by omega) ?_) | (refine c_no rfl (fun h => h rfl) ?_) | (refine r_cond_false rfl ?_) | (refine r_cond_true rfl ?_) | (refine r_cond_dec rfl (fun _ => ?_) (fun _ => ?_)) | (refine r_cond_true rfl ?_) | (refine r_cond_false rfl ?_) | (refine c_not rfl (fun _ => ?_) (fun _ => ?_)) | (refine r_off rfl rfl rfl ?_) | (refine q_guard rfl rfl (fun _ => ?_) (fun _ => ?_)) | (refine q_guardn rfl rfl (fun _ => ?_) (fun _ => ?_)))
    obtain rfl : i = ts.length := by omega
    exact r_fin hT rfl _ rfl rfl rfl trivial rfl ⟨(decide_eq_true ⟨by omega, h2, by simpa using hg⟩).symm, rfl⟩
end Go.Proofs.YtkamfnmbidnhdaaDoor
namespace Go.Proofs.YtkamfnmbidnhdaaDoor
open Go.Sy
set_option maxRecDepth 100000
set_option maxHeartbeats 4000000
set_option linter.unusedVariables false
set_option linter.unusedSimpArgs false
theorem zero3 : ∀ u : World, (zeroValue 3).run Tryd.prog u = .ok (.int .i64 0) u := fun u => rfl
theorem map85 : Tryd.prog.underlying 143 = some (.map 48 3) := by kernel_rfl
theorem map88 : Tryd.prog.underlying 90 = some (.map 3 3) := by kernel_rfl
theorem implOk (v : V) (ts : List (List Pr)) (A : Option Addr) (n c : Nat) (h : Hp) (hP : Tabs h A n ts) : TriS Tryd.prog 67 [.ag (gsv v A n c)] [] h (fun y : Bool => .v (.bool y)) (fun _ => []) (fun y h' => y = decide (GOk v ts) ∧ Le h h') := by
  obtain rfl := hP.len
  refine enterS Tryd.func67 rfl (n := 73) rfl rfl (fun k N => ?_)
  repeat' (first | (refine r_pure hT rfl rfl rfl rfl ?_) | (refine r_new hT rfl rfl rfl rfl ?_) | (refine r_write hT rfl rfl rfl ?_) | (refine r_nil ?_) | (refine q_nil ?_) | (refine p_call (valOk v ts.length _) rfl rfl rfl rfl rfl (hC _ rfl) rfl rfl rfl ?_) | (refine r_arith rfl rfl rfl rfl rfl rfl rfl (by omega) ?_) | (with_reducible refine r_seq ?_) | (with_reducible refine x_then ?_) | (with_reducible refine r_region ?_) | (refine r_draw hM (by kernel_rfl) ?_) | (with_reducible refine r_skip ?_) | (with_reducible refine r_ret ?_) | (with_reducible refine x_then_ret ?_) | (with_reducible refine r_block ?_) | (with_reducible refine x_block ?_) | (with_reducible refine x_block_ret ?_) | (with_reducible refine r_exit ?_) | (with_reducible refine x_then_exit ?_) | (with_reducible refine x_block_here ?_) | (refine x_block_past rfl ?_) | (refine c_yes rfl (by omega) ?_) | (refine c_no rfl (by omega) ?_) | (refine c_no rfl (fun h => h rfl) ?_) | (refine r_cond_false rfl ?_) | (refine r_cond_true rfl ?_) | (refine r_cond_dec rfl (fun _ => ?_) (fun _ => ?_)) | (refine r_cond_true rfl ?_) | (refine r_cond_false rfl ?_) | (refine c_not rfl (fun _ => ?_) (fun _ => ?_)) | (refine r_off rfl rfl rfl ?_) | (refine q_guard rfl rfl (fun _ => ?_) (fun _ => ?_)) | (refine q_guardn rfl rfl (fun _ => ?_) (fun _ => ?_)))
  · exact r_fin hT rfl _ rfl rfl rfl trivial rfl ⟨gok_not rfl (fun g => by have := g.1; omega), Le.refl _⟩
  · rename_i h1 h2
    exact r_fin hT rfl _ rfl rfl rfl trivial rfl ⟨gok_not rfl (fun g => h2 g.2.1), Le.refl _⟩
  rename_i h1 h2
  refine r_loop (γ := Nat × Hp) (fun g => (g.1 ≤ ts.length ∧ ∀ t ∈ ts.take g.1, TOk t ts.length) ∧ Le h g.2) (fun g => [(1, .p 1 0), (2, .v (.bool false)), (3, .v (.int .i64 ts.length)), (22, .v (.slice A ts.length c)), (23, .v (.int .i64 ts.length)), (24, .v (.int .i64 g.1))])
    (fun _ => [(1, ⟨none, gsv v A ts.length c, 51⟩)]) (fun g => g.2) (fun g => ts.length - g.1) (0, h) ⟨⟨Nat.zero_le _, by simp⟩, Le.refl _⟩ (into rfl ⟨rfl, rfl, rfl, rfl, rfl, rfl, trivial⟩ ⟨rfl, trivial⟩ rfl rfl) ?_
  rintro ⟨i, u⟩ ⟨⟨hi, hg⟩, hle⟩
  dsimp only at *
  by_cases hlt : i < ts.length
  · obtain ⟨b, off, A1, n1, c1, t, rfl, hd, hix, hm, hat, hc1, hp1⟩ := (hP.le hle).elem hlt
    obtain rfl := hp1.1
    repeat' (first | (refine r_pure hT rfl rfl rfl rfl ?_) | (refine r_new hT rfl rfl rfl rfl ?_) | (refine r_write hT rfl rfl rfl ?_) | (refine r_nil ?_) | (refine q_nil ?_) | (refine r_indexN hT rfl rfl rfl rfl rfl rfl rfl rfl rfl (by omega) ?_) | (refine r_load hT hat rfl rfl rfl rfl rfl (Nat.add_zero _).symm rfl rfl rfl rfl rfl ?_) | (refine r_mkmap rfl rfl rfl rfl (fun g hg0 => ?_)) | (refine r_arith rfl rfl rfl rfl rfl rfl rfl (by omega) ?_) | (with_reducible refine r_seq ?_) | (with_reducible refine x_then ?_) | (with_reducible refine r_region ?_) | (refine r_draw hM (by kernel_rfl) ?_) | (with_reducible refine r_skip ?_) | (with_reducible refine r_ret ?_) | (with_reducible refine x_then_ret ?_) | (with_reducible refine r_block ?_) | (with_reducible refine x_block ?_) | (with_reducible refine x_block_ret ?_) | (with_reducible refine r_exit ?_) | (with_reducible refine x_then_exit ?_) | (with_reducible refine x_block_here ?_) | (refine x_block_past rfl ?_) | (refine c_yes rfl (by omega) ?_) | (refine c_no rfl (by omega) ?_) | (refine c_no rfl (fun h => h rfl) ?_) | (refine r_cond_false rfl ?_) | (refine r_cond_true rfl ?_) | (refine r_cond_dec rfl (fun _ => ?_) (fun _ => ?_)) | (refine r_cond_true rfl ?_) | (refine r_cond_false rfl ?_) | (refine c_not rfl (fun _ => ?_) (fun _ => ?_)) | (refine r_off rfl rfl rfl ?_) | (refine q_guard rfl rfl (fun _ => ?_) (fun _ => ?_)) | (refine q_guardn rfl rfl (fun _ => ?_) (fun _ => ?_)))
    · exact r_fin hT rfl _ rfl rfl rfl trivial rfl ⟨gok_not rfl (gok_no_t hm fun g => by have := g.1; omega), hle⟩
    rename_i x1
    have hng : h g = none := by
      cases hh : h g with
      | none => rfl
      | some o => have := hle _ _ hh; rw [hg0] at this; cases this
    refine r_loop (γ := (Nat × Hp) × List (V × Int)) (fun x => (x.1.1 ≤ t.length ∧ (∀ p ∈ t.take x.1.1, POk p ts.length) ∧ ((t.take x.1.1).map (·.key)).Nodup) ∧ Le u x.1.2 ∧ MAt Tryd.prog vKey x.1.2 g x.2 ∧ ∀ y, mget x.2 y = if y ∈ (t.take x.1.1).map (·.key) then 1 else 0)
      (fun x => [(1, .p 1 0), (2, .v (.bool false)), (3, .v (.int .i64 ts.length)), (5, .p 5 0), (6, .v (.map (some g))), (22, .v (.slice (some ⟨b, off, none⟩) ts.length c)), (23, .v (.int .i64 ts.length)), (24, .v (.int .i64 i)),
        (34, .v (.slice A1 t.length c1)), (35, .v (.int .i64 t.length)), (36, .v (.int .i64 x.1.1))])
      (fun _ => [(5, ⟨none, [.v (.slice A1 t.length c1)], 59⟩), (1, ⟨none, gsv v (some ⟨b, off, none⟩) ts.length c, 51⟩)]) (fun x => x.1.2) (fun x => t.length - x.1.1) ((0, upd u g (.map #[] 0)), []) ⟨⟨by simp, by simp, by simp⟩, (Le.refl u).upd hg0, MAt.made .., fun y => by simp [mget]⟩
      (into rfl ⟨rfl, rfl, rfl, rfl, rfl, rfl, rfl, rfl, rfl, rfl, rfl, trivial⟩ ⟨rfl, rfl, trivial⟩ rfl rfl) ?_
    rintro ⟨⟨j, u1⟩, m⟩ ⟨⟨hj, hg2, hnd⟩, hle1, hMm, hmg⟩
    dsimp only at *
    by_cases hlt2 : j < t.length
    · obtain ⟨b2, off2, p, rfl, hd2, hix2, hm2, hat2⟩ := (hp1.le hle1).elem Pr.c_len hlt2
      have hmk := hmg p.key
      have hmk2 : mget m p.key = 0 ∨ mget m p.key = 1 := by rw [hmk]; split <;> simp
      have hleh : Le u u1 := hle1
      repeat' (first | (refine r_pure hT rfl rfl rfl rfl ?_) | (refine r_new hT rfl rfl rfl rfl ?_) | (refine r_write hT rfl rfl rfl ?_) | (refine r_nil ?_) | (refine q_nil ?_) | (refine r_indexN hT rfl rfl rfl rfl rfl rfl rfl rfl rfl (by omega) ?_) | (refine r_load hT hat2 rfl rfl rfl rfl rfl (Nat.add_zero _).symm rfl rfl rfl rfl rfl ?_) | (refine p_call (keyOk p.key _) rfl rfl rfl rfl rfl (hC _ rfl) rfl rfl rfl ?_) | (refine p_call (valOk p.val ts.length _) rfl rfl rfl rfl rfl (hC _ rfl) rfl rfl rfl ?_) | (refine r_cut (γ := Hp) (fun x => MAt Tryd.prog vKey x g (mset m p.key (mget m p.key + 1)) ∧ Le u x) (fun _ => [(1, .p 1 0), (2, .v (.bool false)), (3, .v (.int .i64 ts.length)), (5, .p 5 0), (6, .v (.map (some g))), (8, .p 8 0), (22, .v (.slice (some ⟨b, off, none⟩) ts.length c)), (23, .v (.int .i64 ts.length)), (24, .v (.int .i64 i)), (34, .v (.slice (some ⟨b2, off2, none⟩) t.length c1)), (35, .v (.int .i64 t.length)), (36, .v (.int .i64 j))]) (fun _ => [(8, ⟨none, p.sv, 61⟩), (5, ⟨none, [.v (.slice (some ⟨b2, off2, none⟩) t.length c1)], 59⟩), (1, ⟨none, gsv v (some ⟨b, off, none⟩) ts.length c, 51⟩)]) (fun x => x) (r_many [0, 1, 2] [7] u hleh hM (by kernel_rfl) rfl (by kernel_rfl) rfl rfl rfl (fun β0 => ?_)) (fun u9 hu9 => ?_)) | (refine r_look vKeyOps p.key hMm map85 zero3 rfl rfl rfl rfl rfl rfl rfl ?_) | ((refine r_entry vKeyOps p.key hMm map85 zero3 rfl rfl rfl rfl rfl rfl rfl (fun u2 st m' hS hMm hmg' hu2 => ?_) ; have hleh := hleh.off hg0 hu2)) | ((refine r_estore p.key hS rfl rfl rfl rfl rfl rfl (fun u3 hMm hu3 => ?_) ; have hleh := hleh.off hg0 hu3)) | (refine m_keep hleh ⟨rfl, rfl, rfl, trivial⟩ rfl rfl ?_) | (refine m_late rfl rfl ?_) | (refine x_cut (γ := Hp) u3 ⟨by first | exact hMm | (rw [hmg'] at hMm; exact hMm), hleh⟩ (into rfl ⟨rfl, rfl, rfl, rfl, rfl, rfl, rfl, rfl, rfl, rfl, rfl, rfl, trivial⟩ ⟨rfl, rfl, rfl, trivial⟩ rfl rfl)) | (refine r_look vKeyOps p.key hu9.1 map85 zero3 rfl rfl rfl rfl rfl rfl rfl ?_) | (refine r_arith rfl rfl rfl rfl rfl rfl rfl (by omega) ?_) | (with_reducible refine r_seq ?_) | (with_reducible refine x_then ?_) | (with_reducible refine r_region ?_) | (with_reducible refine r_skip ?_) | (with_reducible refine r_ret ?_) | (with_reducible refine x_then_ret ?_) | (with_reducible refine r_block ?_) | (with_reducible refine x_block ?_) | (with_reducible refine x_block_ret ?_) | (with_reducible refine r_exit ?_) | (with_reducible refine x_then_exit ?_) | (with_reducible refine x_block_here ?_) | (refine x_block_past rfl ?_) | (refine c_yes rfl (by omega) ?_) | (refine c_no rfl (by omega) ?_) | (refine c_no rfl (fun h => h rfl) ?_) | (refine r_cond_false rfl ?_) | (refine r_cond_true rfl ?_) | (refine r_cond_dec rfl (fun _ => ?_) (fun _ => ?_)) | (refine r_cond_true rfl ?_) | (refine r_cond_false rfl ?_) | (refine c_not rfl (fun _ => ?_) (fun _ => ?_)) | (refine r_off rfl rfl rfl ?_) | (refine q_guard rfl rfl (fun _ => ?_) (fun _ => ?_)) | (refine q_guardn rfl rfl (fun _ => ?_) (fun _ => ?_)) | (refine s_nil ?_) | (with_reducible refine a_full ?_) | (refine m_step rfl rfl (List.cons_ne_nil _ _) ?_) | (refine allR_cons rfl ?_ ?_) | (exact allR_nil) | (refine m_end rfl rfl rfl ?_))
      · rename_i y1; exact r_fin hT rfl _ rfl rfl rfl trivial rfl ⟨gok_not rfl (gok_no_t hm (tok_no_p hm2 fun g => y1 g.1)), hle.trans hu9.2⟩
      · rename_i y1 y2; exact r_fin hT rfl _ rfl rfl rfl trivial rfl ⟨gok_not rfl (gok_no_t hm (tok_no_p hm2 fun g => y2 g.2.1)), hle.trans hu9.2⟩
      · rename_i y1 y2 y3; exact r_fin hT rfl _ rfl rfl rfl trivial rfl ⟨gok_not rfl (gok_no_t hm (tok_no_p hm2 fun g => g.2.2 y3)), hle.trans hu9.2⟩
      · rename_i y1 y2 y3 y4
        rw [mget_mset, if_pos rfl, hmk] at y4
        have hin : p.key ∈ (t.take j).map (·.key) := by
          by_cases hh : p.key ∈ (t.take j).map (·.key)
          · exact hh
          · rw [if_neg hh] at y4; omega
        exact r_fin hT rfl _ rfl rfl rfl trivial rfl ⟨gok_not rfl (gok_no_t hm fun g => ((nodup_next hix2).1 (nodup_take g.2.2 (j + 1))).2 hin), hle.trans hu9.2⟩
      · rename_i y1 y2 y3 y4
        rw [mget_mset, if_pos rfl, hmk] at y4
        have hin : p.key ∉ (t.take j).map (·.key) := fun hh => by rw [if_pos hh] at y4; omega
        rw [if_neg hin] at hmk
        refine x_round ((j + 1, u9), mset m p.key (mget m p.key + 1)) ⟨⟨hlt2, tok_take hix2 hg2 ⟨y1, y2, y3⟩, (nodup_next hix2).2 ⟨hnd, hin⟩⟩, hu9.2, hu9.1, fun y => ?_⟩ (by simp; omega) (into rfl ⟨rfl, rfl, rfl, rfl, rfl, rfl, rfl, rfl, rfl, rfl, rfl, trivial⟩ ⟨rfl, rfl, trivial⟩ rfl rfl)
        rw [mget_mset, hmk, keys_take hix2]
        by_cases hy : y = p.key
        · rw [if_pos hy, if_pos (by simp [hy])]; rfl
        · rw [if_neg hy, hmg y]
          have : y ∈ (t.take j).map (·.key) ++ [p.key] ↔ y ∈ (t.take j).map (·.key) := by simp [hy]
          simp only [this]
    · obtain rfl : j = t.length := by omega
      repeat' (first | (refine r_pure hT rfl rfl rfl rfl ?_) | (refine r_new hT rfl rfl rfl rfl ?_) | (refine r_write hT rfl rfl rfl ?_) | (refine r_nil ?_) | (refine q_nil ?_) | (refine r_arith rfl rfl rfl rfl rfl rfl rfl (by omega) ?_) | (with_reducible refine r_seq ?_) | (with_reducible refine x_then ?_) | (with_reducible refine r_region ?_) | (refine r_draw hM (by kernel_rfl) ?_) | (with_reducible refine r_skip ?_) | (with_reducible refine r_ret ?_) | (with_reducible refine x_then_ret ?_) | (with_reducible refine r_block ?_) | (with_reducible refine x_block ?_) | (with_reducible refine x_block_ret ?_) | (with_reducible refine r_exit ?_) | (with_reducible refine x_then_exit ?_) | (with_reducible refine x_block_here ?_) | (refine x_block_past rfl ?_) | (refine c_yes rfl (by omega) ?_) | (refine c_no rfl (by omega) ?_) | (refine c_no rfl (fun h => h rfl) ?_) | (refine r_cond_false rfl ?_) | (refine r_cond_true rfl ?_) | (refine r_cond_dec rfl (fun _ => ?_) (fun _ => ?_)) | (refine r_cond_true rfl ?_) | (refine r_cond_false rfl ?_) | (refine c_not rfl (fun _ => ?_) (fun _ => ?_)) | (refine r_off rfl rfl rfl ?_) | (refine q_guard rfl rfl (fun _ => ?_) (fun _ => ?_)) | (refine q_guardn rfl rfl (fun _ => ?_) (fun _ => ?_)))
      exact x_round (i + 1, u1) ⟨⟨hlt, by
        rw [take_snoc hix]
        intro s hs
        rcases List.mem_append.1 hs with hs | hs
        · exact hg s hs
        · rw [List.mem_singleton] at hs; rw [hs]; exact ⟨by omega, by simpa using hg2, by simpa using hnd⟩⟩, hle.trans hle1⟩ (by simp; omega) (into rfl ⟨rfl, rfl, rfl, rfl, rfl, rfl, trivial⟩ ⟨rfl, trivial⟩ rfl rfl)
  · repeat' (first | (refine r_pure hT rfl rfl rfl rfl ?_) | (refine r_new hT rfl rfl rfl rfl ?_) | (refine r_write hT rfl rfl rfl ?_) | (refine r_nil ?_) | (refine q_nil ?_) | (refine r_arith rfl rfl rfl rfl rfl rfl rfl (by omega) ?_) | (with_reducible refine r_seq ?_) | (with_reducible refine x_then ?_) | (with_reducible refine r_region ?_) | (refine r_draw hM (by kernel_rfl) ?_) | (with_reducible refine r_skip ?_) | (with_reducible refine r_ret ?_) | (with_reducible refine x_then_ret ?_) | (with_reducible refine r_block ?_) | (with_reducible refine x_block ?_) | (with_reducible refine x_block_ret ?_) | (with_reducible refine r_exit ?_) | (with_reducible refine x_then_exit ?_) | (with_reducible refine x_block_here ?_) | (refine x_block_past rfl ?_) | (refine c_yes rfl (by omega) ?_) | (refine c_no rfl (by omega) ?_) | (refine c_no rfl (fun h => h rfl) ?_) | (refine r_cond_false rfl ?_) | (refine r_cond_true rfl ?_) | (refine r_cond_dec rfl (fun _ => ?_) (fun _ => ?_)) | (refine r_cond_true rfl ?_) | (refine r_cond_false rfl ?_) | (refine c_not rfl (fun _ => ?_) (fun _ => ?_)) | (refine r_off rfl rfl rfl ?_) | (refine q_guard rfl rfl (fun _ => ?_) (fun _ => ?_)) | (refine q_guardn rfl rfl (fun _ => ?_) (fun _ => ?_)))
    obtain rfl : i = ts.length := by omega
    exact r_fin hT rfl _ rfl rfl rfl trivial rfl ⟨(decide_eq_true ⟨by omega, h2, by simpa using hg⟩).symm, hle⟩
end Go.Proofs.YtkamfnmbidnhdaaDoor
namespace Go.Proofs.YtkamfnmbidnhdaaDoor
open Go.Sy
set_option maxRecDepth 100000
set_option maxHeartbeats 4000000
set_option linter.unusedVariables false
set_option linter.unusedSimpArgs false
theorem own_at {u : Hp} {b off n c e sz : Nat} {cs : List Value} (h : Own u (some ⟨b, off, none⟩) n c e sz cs) {i : Nat} {v : Value} (hi : cs[i]? = some v) : At u b (off + i * 1) [v] := by
  obtain ⟨_, arr, g1, _, g3⟩ := h.row _ rfl
  refine ⟨arr, _, _, g1, fun j x hj => ?_⟩
  cases j with
  | zero => simp only [List.getElem?_cons_zero] at hj; rw [← hj]; have := g3 i v hi; simpa using this
  | succ j => simp at hj
def ordL (ord : List Nat) : List Value := ord.map fun (a : Nat) => .int .i64 (a : Int)
theorem ordL_snoc (ord : List Nat) (a : Nat) : ordL (ord ++ [a]) = ordL ord ++ [.int .i64 (a : Int)] := by simp [ordL]
def wCells (g : V) (A : Option Addr) (n c bn offn cn : Nat) (Ao : Option Addr) (m co : Nat) : List Value :=
  [.int .i64 g.k, .int .i64 g.n, .string g.s, .int .i64 g.a, .slice A n c, .slice (some ⟨bn, offn, none⟩) n cn, .slice Ao m co]
/-- What the walk of a graph holds: the graph, the numbers, the order. -/
structure WSt (h0 u : Hp) (pb : Nat) (g : V) (A : Option Addr) (c : Nat) (ts : List (List Pr)) (bn offn cn : Nat) (Ao : Option Addr) (co : Nat) (ord : List Nat) : Prop where
  cell : u pb = some (.cells (wCells g A ts.length c bn offn cn Ao ord.length co).toArray 172 (0, 0))
  no : Own u (some ⟨bn, offn, none⟩) ts.length cn 3 1 (numL ts.length ord)
  od : Own u Ao ord.length co 3 1 (ordL ord)
  base : Le h0 u
  hp : h0 pb = none
  hn : h0 bn = none
  ho : Off h0 Ao
  ap : pb ≠ bn ∧ blk Ao ≠ some pb ∧ blk Ao ≠ some bn
  tabs : Tabs h0 A ts.length ts
theorem WSt.at_ {h0 u : Hp} {pb : Nat} {g : V} {A : Option Addr} {c : Nat} {ts : List (List Pr)} {bn offn cn : Nat} {Ao : Option Addr} {co : Nat} {ord : List Nat} (h : WSt h0 u pb g A c ts bn offn cn Ao co ord) : At u pb 0 (wCells g A ts.length c bn offn cn Ao ord.length co) :=
  ⟨_, _, _, h.cell, fun j v hj => by simpa using hj⟩
def WS (pb bn : Nat) (Ao : Option Addr) : Nat → Prop := fun b => b = pb ∨ b = bn ∨ blk Ao = some b
/-- One table more. -/
theorem WSt.push {h0 u u1 u3 : Hp} {pb : Nat} {g : V} {A : Option Addr} {c : Nat} {ts : List (List Pr)} {bn offn cn : Nat} {Ao A' : Option Addr} {co c' : Nat} {ord : List Nat} {a b2 : Nat} {o2 : Obj} (h : WSt h0 u pb g A c ts bn offn cn Ao co ord) (ha : a < ts.length) (hn : a ∉ ord)
    (hno : Own u1 (some ⟨bn, offn, none⟩) ts.length cn 3 1 (setL (numL ts.length ord) a [.int .i64 (ord.length : Int)])) (hu1 : ∀ x, x ≠ bn → u1 x = u x) (hb2 : u1 b2 = none)
    (hO : Own u3 A' (ord.length + 1) c' 3 1 (ordL ord ++ [.int .i64 (a : Int)])) (hG : Grown (upd u1 b2 o2) u3 Ao A') :
    (u3 pb = some (.cells (wCells g A ts.length c bn offn cn Ao ord.length co).toArray 172 (0, 0))) ∧
    WSt h0 (upd u3 pb (.cells (wCells g A ts.length c bn offn cn A' (ord.length + 1) c').toArray 172 (0, 0))) pb g A c ts bn offn cn A' c' (ord ++ [a]) ∧ Keep u (WS pb bn Ao) (upd u3 pb (.cells (wCells g A ts.length c bn offn cn A' (ord.length + 1) c').toArray 172 (0, 0))) (WS pb bn A') := by
  have hK := hG.keep
  have k1 : ∀ x o, u1 x = some o → blk Ao ≠ some x → u3 x = some o ∧ blk A' ≠ some x := fun x o hx hb => hK x o (by rw [upd_ne (fun e => by subst e; rw [hb2] at hx; cases hx)]; exact hx) hb
  have hc1 : u1 pb = _ := (hu1 pb h.ap.1).trans h.cell
  obtain ⟨c3, c4⟩ := k1 pb _ hc1 h.ap.2.1
  obtain ⟨_, arrn, n1, _⟩ := hno.row _ rfl
  obtain ⟨c5, c6⟩ := k1 bn _ n1 h.ap.2.2
  have kk : Keep u (WS pb bn Ao) (upd u3 pb (.cells (wCells g A ts.length c bn offn cn A' (ord.length + 1) c').toArray 172 (0, 0))) (WS pb bn A') := fun x o hx hs => by
    simp only [WS, not_or] at hs ⊢
    obtain ⟨d1, d2⟩ := k1 x o (by rw [hu1 x hs.2.1]; exact hx) hs.2.2
    exact ⟨by rw [upd_ne hs.1]; exact d1, hs.1, hs.2.1, d2⟩
  have hS : ∀ b, WS pb bn Ao b → h0 b = none := fun b hb => by
    rcases hb with rfl | rfl | hb
    · exact h.hp
    · exact h.hn
    · exact h.ho b hb
  obtain ⟨e1, e2⟩ := kk.le h.base hS
  refine ⟨c3, ⟨by rw [upd_here]; simp, ?_, ?_, e1, h.hp, h.hn, fun b hb => e2 b (.inr (.inr hb)), ⟨h.ap.1, c4, c6⟩, h.tabs⟩, kk⟩
  · rw [← numL_set ha hn]
    refine hno.le fun b o hb ho => ?_
    have e := Option.some.inj hb; subst e
    rw [upd_ne (Ne.symm h.ap.1)]
    exact (k1 _ o ho h.ap.2.2).1
  · rw [ordL_snoc]
    have hl : (ord ++ [a]).length = ord.length + 1 := by simp
    rw [hl]
    refine hO.le fun b o hb ho => ?_
    rw [upd_ne (fun e => by subst e; exact c4 hb)]; exact ho
def part (u : Hp) (A : Option Addr) : Hp := fun x => if blk A = some x then none else u x
theorem part_le (u : Hp) (A : Option Addr) : Le (part u A) u := fun b o h => by
  unfold part at h; split at h
  · cases h
  · exact h
theorem part_at {u : Hp} {A : Option Addr} {b : Nat} (h : blk A ≠ some b) : part u A b = u b := by unfold part; rw [if_neg h]
theorem part_off (u : Hp) (A : Option Addr) : Off (part u A) A := fun b hb => by unfold part; rw [if_pos hb]
theorem sl_one {u : Hp} {b : Nat} {v : Value} {t : TypeId} (h : u b = some (.cells [v].toArray t (0, 0))) : Sl u (some ⟨b, 0, none⟩) 1 1 [v] :=
  ⟨rfl, fun h => (by cases h), fun a ha _ => by have e := Option.some.inj ha; subst e; exact ⟨rfl, _, _, _, h, fun j x hj => by simpa using hj⟩⟩
theorem valW (h0 : Hp) (pb : Nat) (g : V) (A : Option Addr) (c : Nat) (ts : List (List Pr)) (bn offn cn : Nat) (hA : AllIn ts) (hn : ts.length ≤ 1000000) (hc : ∀ t ∈ ts, t.length ≤ 1000000) : ∀ (f : Nat) (ord : List Nat) (v r : V) (u : Hp) (Ao : Option Addr) (co : Nat),
    WSt h0 u pb g A c ts bn offn cn Ao co ord → Nm ts.length ord → In ts.length v → ts.length - ord.length < f → r = ren (go ts f ord v) v →
    TriS Tryd.prog 130 [.v (.pointer (some ⟨pb, 0, none⟩)), .ag v.sv] [] u (fun _ : Option Addr × Nat => .ag r.sv) (fun _ => []) (fun y u' => WSt h0 u' pb g A c ts bn offn cn y.1 y.2 (go ts f ord v) ∧ Keep u (WS pb bn Ao) u' (WS pb bn y.1))
  | 0, ord, v, r, u, Ao, co, hW, hN, hv, hf, hr => absurd hf (by omega)
  | f + 1, ord, v, r, u, Ao, co, hW, hN, hv, hf, hr => by
    have hl := hN.len
    refine enterS Tryd.func130 rfl (n := 73) rfl rfl (fun k N => ?_)
    by_cases h4 : v.k = 4
    · have hva := hv h4
      have hlt : v.a.toNat < ts.length := by omega
      by_cases hin : v.a.toNat ∈ ord
      · have hx := numL_get (ord := ord) hlt
        rw [if_pos hin] at hx
        have hatW := hW.at_
        have hatn := own_at hW.no hx
        rw [go_old h4 hin] at hr ⊢
        simp only [ren, if_pos h4] at hr
        repeat' (first | (refine r_pure hT rfl rfl rfl rfl ?_) | (refine r_new hT rfl rfl rfl rfl ?_) | (refine r_write hT rfl rfl rfl ?_) | (refine r_nil ?_) | (refine q_nil ?_) | (refine r_draw (id := 3) hM (by kernel_rfl) ?_) | (refine r_load hT hatW rfl rfl rfl rfl rfl rfl rfl rfl rfl rfl rfl ?_) | (refine r_index hT rfl rfl rfl rfl rfl rfl rfl rfl rfl hva.1 hva.2 ?_) | (refine r_load hT hatn rfl rfl rfl rfl rfl (Nat.add_zero _).symm rfl rfl rfl rfl rfl ?_) | (refine c_no rfl (fun h => h h4) ?_) | (refine r_many (id := 11) [0, 1, 2, 3, 4, 5, 6, 7, 8] [9] u (Le.refl u) hM (by kernel_rfl) rfl (by kernel_rfl) rfl rfl rfl (fun β0 => ?_)) | (refine m_late rfl rfl ?_) | (refine r_arith rfl rfl rfl rfl rfl rfl rfl (by omega) ?_) | (with_reducible refine r_seq ?_) | (with_reducible refine x_then ?_) | (with_reducible refine r_region ?_) | (with_reducible refine r_skip ?_) | (with_reducible refine r_ret ?_) | (with_reducible refine x_then_ret ?_) | (with_reducible refine r_block ?_) | (with_reducible refine x_block ?_) | (with_reducible refine x_block_ret ?_) | (with_reducible refine r_exit ?_) | (with_reducible refine x_then_exit ?_) | (with_reducible refine x_block_here ?_) | (refine x_block_past rfl ?_) | (refine c_yes rfl (by omega) ?_) | (refine c_no rfl (by omega) ?_) | (refine c_no rfl (fun h => h rfl) ?_) | (refine r_cond_false rfl ?_) | (refine r_cond_true rfl ?_) | (refine r_cond_dec rfl (fun _ => ?_) (fun _ => ?_)) | (refine r_cond_true rfl ?_) | (refine r_cond_false rfl ?_) | (refine c_not rfl (fun _ => ?_) (fun _ => ?_)) | (refine r_off rfl rfl rfl ?_) | (refine q_guard rfl rfl (fun _ => ?_) (fun _ => ?_)) | (refine q_guardn rfl rfl (fun _ => ?_) (fun _ => ?_)) | (refine s_nil ?_) | (with_reducible refine a_full ?_) | (refine m_step rfl rfl (List.cons_ne_nil _ _) ?_) | (refine allR_cons rfl ?_ ?_) | (exact allR_nil) | (refine m_end rfl rfl rfl ?_))
        subst hr
        exact r_fin hT rfl (Ao, co) rfl rfl rfl trivial rfl ⟨hW, Keep.refl _ _⟩
      · have hx := numL_get (ord := ord) hlt
        rw [if_neg hin] at hx
        have hatW := hW.at_
        have hatn := own_at hW.no hx
        have hN1 := hN.snoc hlt hin
        have hl1 := hN1.len
        simp only [List.length_append, List.length_singleton] at hl1
        obtain ⟨bt, offt, A1, n1, c1, t, rfl, hd, hix, hm, hat, hc1, hp1⟩ := hW.tabs.elem hlt
        obtain rfl := hp1.1
        rw [go_new h4 hin hix] at hr ⊢
        have hatt := hat.le hW.base
        repeat' (first | (refine r_pure hT rfl rfl rfl rfl ?_) | (refine r_new hT rfl rfl rfl rfl ?_) | (refine r_write hT rfl rfl rfl ?_) | (refine r_nil ?_) | (refine q_nil ?_) | (refine r_draw (id := 3) hM (by kernel_rfl) ?_) | (refine r_load hT hatW rfl rfl rfl rfl rfl rfl rfl rfl rfl rfl rfl ?_) | (refine r_index hT rfl rfl rfl rfl rfl rfl rfl rfl rfl hva.1 hva.2 ?_) | (refine r_load hT hatn rfl rfl rfl rfl rfl (Nat.add_zero _).symm rfl rfl rfl rfl rfl ?_) | (refine c_no rfl (fun h => h h4) ?_) | (refine r_many (id := 4) [0, 1, 2, 3, 4, 5, 6, 7, 8, 9, 10, 11] [12] u (Le.refl u) hM (by kernel_rfl) rfl (by kernel_rfl) rfl rfl rfl (fun β0 => ?_)) | (refine m_late rfl rfl ?_) | (refine r_store_own (o := v.a.toNat * 1) hT hW.no rfl rfl rfl rfl rfl rfl rfl rfl rfl rfl rfl (by rw [numL_len]; show v.a.toNat * 1 + 1 ≤ ts.length; omega) (fun u1 hno1 hu1 => ?_)) | (refine r_arith rfl rfl rfl rfl rfl rfl rfl (by omega) ?_) | (with_reducible refine r_seq ?_) | (with_reducible refine x_then ?_) | (with_reducible refine r_region ?_) | (with_reducible refine r_skip ?_) | (with_reducible refine r_ret ?_) | (with_reducible refine x_then_ret ?_) | (with_reducible refine r_block ?_) | (with_reducible refine x_block ?_) | (with_reducible refine x_block_ret ?_) | (with_reducible refine r_exit ?_) | (with_reducible refine x_then_exit ?_) | (with_reducible refine x_block_here ?_) | (refine x_block_past rfl ?_) | (refine c_yes rfl (by omega) ?_) | (refine c_no rfl (by omega) ?_) | (refine c_no rfl (fun h => h rfl) ?_) | (refine r_cond_false rfl ?_) | (refine r_cond_true rfl ?_) | (refine r_cond_dec rfl (fun _ => ?_) (fun _ => ?_)) | (refine r_cond_true rfl ?_) | (refine r_cond_false rfl ?_) | (refine c_not rfl (fun _ => ?_) (fun _ => ?_)) | (refine r_off rfl rfl rfl ?_) | (refine q_guard rfl rfl (fun _ => ?_) (fun _ => ?_)) | (refine q_guardn rfl rfl (fun _ => ?_) (fun _ => ?_)) | (refine s_nil ?_) | (with_reducible refine a_full ?_) | (refine m_step rfl rfl (List.cons_ne_nil _ _) ?_) | (refine allR_cons rfl ?_ ?_) | (exact allR_nil) | (refine m_end rfl rfl rfl ?_))
        rw [Nat.mul_one] at hno1
        have hc1' : u1 pb = _ := (hu1 pb hW.ap.1).trans hW.cell
        have hod1 : Own u1 Ao ord.length co 3 1 (ordL ord) := hW.od.le fun b o hb ho => by rw [hu1 b (fun e => by subst e; exact hW.ap.2.2 hb)]; exact ho
        have hat0 : At (part u1 Ao) pb 0 (wCells g (some ⟨bt, offt, none⟩) ts.length c bn offn cn Ao ord.length co) := ⟨_, _, _, (part_at hW.ap.2.1).trans hc1', fun j v hj => by simpa using hj⟩
        have hle0 := part_le u1 Ao
        have hcast : ((v.a.toNat : Nat) : Int) = v.a := by omega
        repeat' (first | (refine r_pure hT rfl rfl rfl rfl ?_) | (refine r_new hT rfl rfl rfl rfl ?_) | (refine r_write hT rfl rfl rfl ?_) | (refine r_nil ?_) | (refine q_nil ?_) | (refine r_many (id := 5) [0, 1, 2, 3, 4, 5, 6] [11] (part u1 Ao) hle0 hM (by kernel_rfl) rfl (by kernel_rfl) rfl rfl rfl (fun β0 => ?_)) | (refine r_load hT hat0 rfl rfl rfl rfl rfl rfl rfl rfl rfl rfl rfl ?_) | ((refine r_bslice hT (ps := [(0, .tmp 38)]) rfl rfl rfl rfl rfl rfl rfl (by simp) rfl rfl (by decide) (fun b2 hb2 => ?_) ; have hle0 := hle0.trans ((Le.refl u1).upd (o := .cells [.int .i64 v.a].toArray 3 (0, 0)) hb2))) | ((refine r_append hT (cs := ordL ord) (news := [.int .i64 v.a]) rfl rfl rfl rfl rfl rfl rfl rfl rfl rfl rfl (hod1.le fun b o hb ho => by rw [upd_ne (fun e => by subst e; rw [hb2] at ho; cases ho)]; exact ho) (sl_one (upd_here ..)) (by intro x hx; simp at hx; subst hx; rfl) (by dsimp only; omega) (by omega) (fun A' c' u3 hO3 hG3 => ?_) ; have hle0 := (hG3 _ hle0 (part_off u1 Ao)).1 ; rw [← hcast] at hO3 ; obtain ⟨hc3, hW4, hK4⟩ := hW.push hlt hin hno1 hu1 hb2 hO3 hG3)) | (refine r_store hT rfl rfl rfl rfl rfl rfl rfl rfl rfl rfl hc3 (Nat.le_refl 7) ?_) | (refine m_keep hle0 ⟨rfl, rfl, trivial⟩ rfl rfl ?_) | (refine m_late rfl rfl ?_) | (refine r_arith rfl rfl rfl rfl rfl rfl rfl (by omega) ?_) | (with_reducible refine r_seq ?_) | (with_reducible refine x_then ?_) | (with_reducible refine r_region ?_) | (with_reducible refine r_skip ?_) | (with_reducible refine r_ret ?_) | (with_reducible refine x_then_ret ?_) | (with_reducible refine r_block ?_) | (with_reducible refine x_block ?_) | (with_reducible refine x_block_ret ?_) | (with_reducible refine r_exit ?_) | (with_reducible refine x_then_exit ?_) | (with_reducible refine x_block_here ?_) | (refine x_block_past rfl ?_) | (refine c_yes rfl (by omega) ?_) | (refine c_no rfl (by omega) ?_) | (refine c_no rfl (fun h => h rfl) ?_) | (refine r_cond_false rfl ?_) | (refine r_cond_true rfl ?_) | (refine r_cond_dec rfl (fun _ => ?_) (fun _ => ?_)) | (refine r_cond_true rfl ?_) | (refine r_cond_false rfl ?_) | (refine c_not rfl (fun _ => ?_) (fun _ => ?_)) | (refine r_off rfl rfl rfl ?_) | (refine q_guard rfl rfl (fun _ => ?_) (fun _ => ?_)) | (refine q_guardn rfl rfl (fun _ => ?_) (fun _ => ?_)) | (refine s_nil ?_) | (with_reducible refine a_full ?_) | (refine m_step rfl rfl (List.cons_ne_nil _ _) ?_) | (refine allR_cons rfl ?_ ?_) | (exact allR_nil) | (refine m_end rfl rfl rfl ?_))
        have hatW4 := hW4.at_
        have hatt4 := hat.le hW4.base
        repeat' (first | (refine r_pure hT rfl rfl rfl rfl ?_) | (refine r_new hT rfl rfl rfl rfl ?_) | (refine r_write hT rfl rfl rfl ?_) | (refine r_nil ?_) | (refine q_nil ?_) | (refine r_draw (id := 6) hM (by kernel_rfl) ?_) | (refine r_load hT hatW4 rfl rfl rfl rfl rfl rfl rfl rfl rfl rfl rfl ?_) | (refine r_index hT rfl rfl rfl rfl rfl rfl rfl rfl rfl hva.1 hva.2 ?_) | (refine r_load hT hatt4 rfl rfl rfl rfl rfl (Nat.add_zero _).symm rfl rfl rfl rfl rfl ?_) | (refine r_arith rfl rfl rfl rfl rfl rfl rfl (by omega) ?_) | (with_reducible refine r_seq ?_) | (with_reducible refine x_then ?_) | (with_reducible refine r_region ?_) | (with_reducible refine r_skip ?_) | (with_reducible refine r_ret ?_) | (with_reducible refine x_then_ret ?_) | (with_reducible refine r_block ?_) | (with_reducible refine x_block ?_) | (with_reducible refine x_block_ret ?_) | (with_reducible refine r_exit ?_) | (with_reducible refine x_then_exit ?_) | (with_reducible refine x_block_here ?_) | (refine x_block_past rfl ?_) | (refine c_yes rfl (by omega) ?_) | (refine c_no rfl (by omega) ?_) | (refine c_no rfl (fun h => h rfl) ?_) | (refine r_cond_false rfl ?_) | (refine r_cond_true rfl ?_) | (refine r_cond_dec rfl (fun _ => ?_) (fun _ => ?_)) | (refine r_cond_true rfl ?_) | (refine r_cond_false rfl ?_) | (refine c_not rfl (fun _ => ?_) (fun _ => ?_)) | (refine r_off rfl rfl rfl ?_) | (refine q_guard rfl rfl (fun _ => ?_) (fun _ => ?_)) | (refine q_guardn rfl rfl (fun _ => ?_) (fun _ => ?_)))
        have hinp : ∀ p ∈ t, In ts.length p.val := hA t hm
        have htl := hc t hm
        refine r_loop (γ := (Nat × Hp) × (Option Addr × Nat)) (fun x => x.1.1 ≤ t.length ∧ WSt h0 x.1.2 pb g (some ⟨bt, offt, none⟩) c ts bn offn cn x.2.1 x.2.2 (goes ts f (ord ++ [v.a.toNat]) (t.take x.1.1)) ∧ Keep u (WS pb bn Ao) x.1.2 (WS pb bn x.2.1))
          (fun x => [(0, .v (.pointer (some ⟨pb, 0, none⟩))), (3, .p 3 0), (4, .p 4 0), (52, .v (.slice A1 t.length c1)), (53, .v (.int .i64 t.length)), (54, .v (.int .i64 x.1.1))])
          (fun _ => [(4, ⟨none, [.v (ZV.val (.int .i64)), .v (ZV.val (.int .i64)), .v (ZV.val .str), .v (ZV.val (.int .i64))], 48⟩), (3, ⟨none, v.sv, 48⟩)]) (fun x => x.1.2) (fun x => t.length - x.1.1) ((0, upd u3 pb (.cells (wCells g (some ⟨bt, offt, none⟩) ts.length c bn offn cn A' (ord.length + 1) c').toArray 172 (0, 0))), (A', c')) ⟨Nat.zero_le _, hW4, hK4⟩
          (into rfl ⟨rfl, rfl, rfl, rfl, rfl, rfl, trivial⟩ ⟨rfl, rfl, trivial⟩ rfl rfl) ?_
        rintro ⟨⟨j, uj⟩, ⟨Aj, cj⟩⟩ ⟨hj, hWj, hKj⟩
        dsimp only at *
        have hNj := goes_nm hA f (t.take j) _ (fun p hp => hinp p (List.mem_of_mem_take hp)) hN1
        have hpre := goes_pre ts f (t.take j) (ord ++ [v.a.toNat])
        by_cases hltj : j < t.length
        · obtain ⟨b2, off2, p, rfl, hd2, hix2, hm2, hat2⟩ := (hp1.le hWj.base).elem Pr.c_len hltj
          have hlen := hpre.length_le
          simp only [List.length_append, List.length_singleton] at hlen
          repeat' (first | (refine r_pure hT rfl rfl rfl rfl ?_) | (refine r_new hT rfl rfl rfl rfl ?_) | (refine r_write hT rfl rfl rfl ?_) | (refine r_nil ?_) | (refine q_nil ?_) | (refine r_indexN hT rfl rfl rfl rfl rfl rfl rfl rfl rfl (by omega) ?_) | (refine r_load hT hat2 rfl rfl rfl rfl rfl (Nat.add_zero _).symm rfl rfl rfl rfl rfl ?_) | (refine r_call (valW h0 pb g (some ⟨bt, offt, none⟩) c ts bn offn cn hA hn hc f _ p.val _ uj Aj cj hWj hNj (hinp p hm2) (by omega) rfl) rfl rfl rfl rfl rfl (hC _ rfl) rfl rfl (fun y uy hy => ?_)) | (refine r_arith rfl rfl rfl rfl rfl rfl rfl (by omega) ?_) | (with_reducible refine r_seq ?_) | (with_reducible refine x_then ?_) | (with_reducible refine r_region ?_) | (refine r_draw hM (by kernel_rfl) ?_) | (with_reducible refine r_skip ?_) | (with_reducible refine r_ret ?_) | (with_reducible refine x_then_ret ?_) | (with_reducible refine r_block ?_) | (with_reducible refine x_block ?_) | (with_reducible refine x_block_ret ?_) | (with_reducible refine r_exit ?_) | (with_reducible refine x_then_exit ?_) | (with_reducible refine x_block_here ?_) | (refine x_block_past rfl ?_) | (refine c_yes rfl (by omega) ?_) | (refine c_no rfl (by omega) ?_) | (refine c_no rfl (fun h => h rfl) ?_) | (refine r_cond_false rfl ?_) | (refine r_cond_true rfl ?_) | (refine r_cond_dec rfl (fun _ => ?_) (fun _ => ?_)) | (refine r_cond_true rfl ?_) | (refine r_cond_false rfl ?_) | (refine c_not rfl (fun _ => ?_) (fun _ => ?_)) | (refine r_off rfl rfl rfl ?_) | (refine q_guard rfl rfl (fun _ => ?_) (fun _ => ?_)) | (refine q_guardn rfl rfl (fun _ => ?_) (fun _ => ?_)))
          exact x_round ((j + 1, uy), y) ⟨hltj, by rw [take_snoc hix2, goes_snoc]; exact hy.1, hKj.trans hy.2⟩ (by simp; omega) (into rfl ⟨rfl, rfl, rfl, rfl, rfl, rfl, trivial⟩ ⟨rfl, rfl, trivial⟩ rfl rfl)
        · obtain rfl : j = t.length := by omega
          rw [List.take_length] at hWj hNj hpre
          have hin2 : v.a.toNat ∈ goes ts f (ord ++ [v.a.toNat]) t := hpre.subset (by simp)
          have hx2 := numL_get (ord := goes ts f (ord ++ [v.a.toNat]) t) hlt
          rw [if_pos hin2] at hx2
          have hatW5 := hWj.at_
          have hatn5 := own_at hWj.no hx2
          simp only [ren, if_pos h4] at hr
          repeat' (first | (refine r_pure hT rfl rfl rfl rfl ?_) | (refine r_new hT rfl rfl rfl rfl ?_) | (refine r_write hT rfl rfl rfl ?_) | (refine r_nil ?_) | (refine q_nil ?_) | (refine r_load hT hatW5 rfl rfl rfl rfl rfl rfl rfl rfl rfl rfl rfl ?_) | (refine r_index hT rfl rfl rfl rfl rfl rfl rfl rfl rfl hva.1 hva.2 ?_) | (refine r_load hT hatn5 rfl rfl rfl rfl rfl (Nat.add_zero _).symm rfl rfl rfl rfl rfl ?_) | (refine r_many (id := 11) [0, 1, 2, 3, 4, 5, 6, 7, 8] [9] uj (Le.refl uj) hM (by kernel_rfl) rfl (by kernel_rfl) rfl rfl rfl (fun β0 => ?_)) | (refine m_late rfl rfl ?_) | (refine r_arith rfl rfl rfl rfl rfl rfl rfl (by omega) ?_) | (with_reducible refine r_seq ?_) | (with_reducible refine x_then ?_) | (with_reducible refine r_region ?_) | (with_reducible refine r_skip ?_) | (with_reducible refine r_ret ?_) | (with_reducible refine x_then_ret ?_) | (with_reducible refine r_block ?_) | (with_reducible refine x_block ?_) | (with_reducible refine x_block_ret ?_) | (with_reducible refine r_exit ?_) | (with_reducible refine x_then_exit ?_) | (with_reducible refine x_block_here ?_) | (refine x_block_past rfl ?_) | (refine c_yes rfl (by omega) ?_) | (refine c_no rfl (by omega) ?_) | (refine c_no rfl (fun h => h rfl) ?_) | (refine r_cond_false rfl ?_) | (refine r_cond_true rfl ?_) | (refine r_cond_dec rfl (fun _ => ?_) (fun _ => ?_)) | (refine r_cond_true rfl ?_) | (refine r_cond_false rfl ?_) | (refine c_not rfl (fun _ => ?_) (fun _ => ?_)) | (refine r_off rfl rfl rfl ?_) | (refine q_guard rfl rfl (fun _ => ?_) (fun _ => ?_)) | (refine q_guardn rfl rfl (fun _ => ?_) (fun _ => ?_)) | (refine s_nil ?_) | (with_reducible refine a_full ?_) | (refine m_step rfl rfl (List.cons_ne_nil _ _) ?_) | (refine allR_cons rfl ?_ ?_) | (exact allR_nil) | (refine m_end rfl rfl rfl ?_))
          subst hr
          exact r_fin hT rfl (Aj, cj) rfl rfl rfl trivial rfl ⟨hWj, hKj⟩
    · have hg := go_leaf (ts := ts) (f := f + 1) (ord := ord) h4
      rw [hg] at hr ⊢
      have hr' : r = v := by rw [hr, ren, if_neg h4]
      subst hr'
      repeat' (first | (refine r_pure hT rfl rfl rfl rfl ?_) | (refine r_new hT rfl rfl rfl rfl ?_) | (refine r_write hT rfl rfl rfl ?_) | (refine r_nil ?_) | (refine q_nil ?_) | (refine c_yes rfl h4 ?_) | (refine r_arith rfl rfl rfl rfl rfl rfl rfl (by omega) ?_) | (with_reducible refine r_seq ?_) | (with_reducible refine x_then ?_) | (with_reducible refine r_region ?_) | (refine r_draw hM (by kernel_rfl) ?_) | (with_reducible refine r_skip ?_) | (with_reducible refine r_ret ?_) | (with_reducible refine x_then_ret ?_) | (with_reducible refine r_block ?_) | (with_reducible refine x_block ?_) | (with_reducible refine x_block_ret ?_) | (with_reducible refine r_exit ?_) | (with_reducible refine x_then_exit ?_) | (with_reducible refine x_block_here ?_) | (refine x_block_past rfl ?_) | (refine c_yes rfl (by omega) ?_) | (refine c_no rfl (by omega) ?_) | (refine c_no rfl (fun h => h rfl) ?_) | (refine r_cond_false rfl ?_) | (refine r_cond_true rfl ?_) | (refine r_cond_dec rfl (fun _ => ?_) (fun _ => ?_)) | (refine r_cond_true rfl ?_) | (refine r_cond_false rfl ?_) | (refine c_not rfl (fun _ => ?_) (fun _ => ?_)) | (refine r_off rfl rfl rfl ?_) | (refine q_guard rfl rfl (fun _ => ?_) (fun _ => ?_)) | (refine q_guardn rfl rfl (fun _ => ?_) (fun _ => ?_)))
      exact r_fin hT rfl (Ao, co) rfl rfl rfl trivial rfl ⟨hW, Keep.refl _ _⟩
end Go.Proofs.YtkamfnmbidnhdaaDoor
namespace Go.Proofs.YtkamfnmbidnhdaaDoor
open Go.Sy
set_option maxRecDepth 100000
set_option maxHeartbeats 4000000
set_option linter.unusedVariables false
set_option linter.unusedSimpArgs false
structure FA where
  pb : Nat
  g : V
  A : Option Addr
  c : Nat
  bl : Nat
  ol : Nat
  cl : Nat
  bb : Nat
  ob : Nat
  cb : Nat
def fCells (a : FA) (n : Nat) (nx : Int) (Ao : Option Addr) (m co : Nat) : List Value :=
  [.int .i64 a.g.k, .int .i64 a.g.n, .string a.g.s, .int .i64 a.g.a, .slice a.A n a.c, .slice (some ⟨a.bl, a.ol, none⟩) n a.cl, .slice (some ⟨a.bb, a.ob, none⟩) n a.cb, .int .i64 nx, .slice Ao m co]
/-- What the freezer holds: the graph, the counts, the labels, how many there are, the bytes. -/
structure FSt (h0 u : Hp) (a : FA) (ts : List (List Pr)) (Ao : Option Addr) (co : Nat) (rs L : List Nat) (o : List UInt8) : Prop where
  cell : u a.pb = some (.cells (fCells a ts.length (L.length : Int) Ao o.length co).toArray 140 (0, 0))
  led : Own u (some ⟨a.bl, a.ol, none⟩) ts.length a.cl 3 1 (ledV ts.length rs)
  lab : Own u (some ⟨a.bb, a.ob, none⟩) ts.length a.cb 3 1 (labV ts.length L)
  out : Own u Ao o.length co 5 1 (o.flatMap bc1)
  base : Le h0 u
  hp : h0 a.pb = none
  hl : h0 a.bl = none
  hb : h0 a.bb = none
  ho : Off h0 Ao
  ap : a.pb ≠ a.bl ∧ a.pb ≠ a.bb ∧ a.bl ≠ a.bb ∧ blk Ao ≠ some a.pb ∧ blk Ao ≠ some a.bl ∧ blk Ao ≠ some a.bb
  tabs : Tabs h0 a.A ts.length ts
theorem FSt.at_ {h0 u : Hp} {a : FA} {ts : List (List Pr)} {Ao : Option Addr} {co : Nat} {rs L : List Nat} {o : List UInt8} (h : FSt h0 u a ts Ao co rs L o) : At u a.pb 0 (fCells a ts.length (L.length : Int) Ao o.length co) :=
  ⟨_, _, _, h.cell, fun j v hj => by simpa using hj⟩
end Go.Proofs.YtkamfnmbidnhdaaDoor
/- The specification's freezer: its writer, its values. No condition. -/
namespace Go.Proofs.YtkamfnmbidnhdaaDoor
open Go.Sy
set_option maxRecDepth 100000
set_option maxHeartbeats 8000000
set_option linter.unusedVariables false
set_option linter.unusedSimpArgs false
section
variable {h0 u u1 u2 u3 : Hp} {a : FA} {ts : List (List Pr)} {Ao A' : Option Addr} {co c' : Nat} {rs L : List Nat} {o : List UInt8} {s : ByteArray}
theorem FSt.push (h : FSt h0 u a ts Ao co rs L o) (hO : Own u3 A' (o.length + s.size) c' 5 1 (o.flatMap bc1 ++ byteCells s)) (hG : Grown u u3 Ao A') :
    u3 a.pb = some (.cells (fCells a ts.length (L.length : Int) Ao o.length co).toArray 140 (0, 0)) ∧ FSt h0 (upd u3 a.pb (.cells (fCells a ts.length (L.length : Int) A' (o.length + s.size) c').toArray 140 (0, 0))) a ts A' c' rs L (o ++ s.data.toList) := by
  obtain ⟨g1, g2⟩ := ptw_grown hG (Le.refl u)
  have kk : ∀ x ox, u x = some ox → blk Ao ≠ some x → u3 x = some ox ∧ blk A' ≠ some x := fun x ox hx hne => by
    have h1 : ptw u Ao x = some ox := by unfold ptw; rw [if_neg hne]; exact hx
    exact ⟨g1 x ox h1, fun e => by rw [g2 x e] at h1; cases h1⟩
  obtain ⟨p1, p2, p3, p4, p5, p6⟩ := h.ap
  obtain ⟨c1, c2⟩ := kk _ _ h.cell p4
  obtain ⟨ol, hol⟩ := Option.ne_none_iff_exists'.1 (h.led.live rfl)
  obtain ⟨ob, hob⟩ := Option.ne_none_iff_exists'.1 (h.lab.live rfl)
  have hlb := kk _ _ hol p5
  have hbb := kk _ _ hob p6
  have hlen : (o ++ s.data.toList).length = o.length + s.size := by rw [List.length_append]; rfl
  refine ⟨c1, ⟨?_, ?_, ?_, ?_, ?_, h.hp, h.hl, h.hb, fun b hb => ?_, ⟨p1, p2, p3, c2, hlb.2, hbb.2⟩, h.tabs⟩⟩
  · rw [upd_here, hlen]
  · exact h.led.le fun b o hb ho => by
      have e := Option.some.inj hb; subst e
      rw [upd_ne (Ne.symm p1)]; exact (kk _ _ ho p5).1
  · exact h.lab.le fun b o hb ho => by
      have e := Option.some.inj hb; subst e
      rw [upd_ne (Ne.symm p2)]; exact (kk _ _ ho p6).1
  · rw [hlen, List.flatMap_append, bc1_bytes]
    exact hO.le fun b o hb ho => by rw [upd_ne (fun e => c2 (by rw [← e]; exact hb))]; exact ho
  · intro x ox hx
    rw [upd_ne (fun e => by rw [e, h.hp] at hx; cases hx)]
    exact (kk x ox (h.base x ox hx) (fun e => by rw [h.ho x e] at hx; cases hx)).1
  · cases hh : h0 b with
    | none => rfl
    | some ox => exact absurd hb (kk b ox (h.base b ox hh) (fun e => by rw [h.ho b e] at hh; cases hh)).2
end
end Go.Proofs.YtkamfnmbidnhdaaDoor
/- The specification's freezer: values. No condition. -/
namespace Go.Proofs.YtkamfnmbidnhdaaDoor
open Go.Sy
set_option maxRecDepth 100000
set_option maxHeartbeats 8000000
set_option linter.unusedVariables false
set_option linter.unusedSimpArgs false
def dcN (k : Nat) : List UInt8 := Lib.itoa (k : Int)
/-- What is asked of the values. -/
def Fit (ts : List (List Pr)) : Prop := ∀ t ∈ ts, ∀ p ∈ t, p.key.fit ∧ p.val.fit
theorem bs_cat (a b : ByteArray) : (a ++ b).data.toList = a.data.toList ++ b.data.toList := by simp
end Go.Proofs.YtkamfnmbidnhdaaDoor
