/- The walk by a symbolic frame (SyDzGH): contracts of functions; each with its own conditions as hypotheses. -/
import Derived.Test.YtkamfnmbidnhdaaDoorSyDzCE
set_option linter.unusedVariables false
set_option linter.unusedSimpArgs false
set_option linter.unusedSectionVars false
namespace Go.Proofs.YtkamfnmbidnhdaaDoor
open Go.Sy
set_option maxRecDepth 100000
set_option maxHeartbeats 4000000
set_option linter.unusedVariables false
/-- A pair, a table, a graph that is well made. -/
def POk (p : Pr) (n : Nat) : Prop := KOk p.key ∧ VOk p.val n ∧ p.val.k ≠ 0
def TOk (t : List Pr) (n : Nat) : Prop := t.length ≤ 100 ∧ (∀ p ∈ t, POk p n) ∧ (t.map (·.key)).Nodup
def GOk (v : V) (ts : List (List Pr)) : Prop := ts.length ≤ 200 ∧ VOk v ts.length ∧ ∀ t ∈ ts, TOk t ts.length
instance (p : Pr) (n : Nat) : Decidable (POk p n) := by unfold POk; infer_instance
instance (t : List Pr) (n : Nat) : Decidable (TOk t n) := by unfold TOk; infer_instance
instance (v : V) (ts : List (List Pr)) : Decidable (GOk v ts) := by unfold GOk; infer_instance
theorem gok_not {b : Bool} {p : Prop} [Decidable p] (hb : b = false) (h : ¬ p) : b = decide p := by rw [hb, decide_eq_false h]
theorem keys_take {t : List Pr} {i : Nat} {p : Pr} (h : t[i]? = some p) : (t.take (i + 1)).map (·.key) = (t.take i).map (·.key) ++ [p.key] := by rw [take_snoc h]; simp
theorem nodup_take {t : List Pr} (h : (t.map (·.key)).Nodup) (i : Nat) : ((t.take i).map (·.key)).Nodup := by
  rw [List.map_take]; exact h.sublist (List.take_sublist _ _)
theorem nodup_next {t : List Pr} {i : Nat} {p : Pr} (h : t[i]? = some p) : ((t.take (i + 1)).map (·.key)).Nodup ↔ ((t.take i).map (·.key)).Nodup ∧ p.key ∉ (t.take i).map (·.key) := by
  rw [keys_take h, List.nodup_append]
  constructor
  · rintro ⟨h1, _, h3⟩; exact ⟨h1, fun hm => h3 _ hm _ (by simp) rfl⟩
  · rintro ⟨h1, h2⟩; exact ⟨h1, by simp, fun a ha b hb e => h2 (by rw [List.mem_singleton] at hb; rw [← hb, ← e]; exact ha)⟩
theorem key_at {t : List Pr} {i j : Nat} {p q : Pr} (hj : t[j]? = some q) (hji : j < i) (he : q.key = p.key) : p.key ∈ (t.take i).map (·.key) := by
  rw [← he]
  refine List.mem_map.2 ⟨q, ?_, rfl⟩
  refine List.mem_of_getElem? (i := j) ?_
  rw [List.getElem?_take, if_pos hji]; exact hj
set_option linter.unusedSimpArgs false
theorem tok_take {t : List Pr} {n i : Nat} {p : Pr} (h : t[i]? = some p) (h1 : ∀ p ∈ t.take i, POk p n) (h2 : POk p n) : ∀ p ∈ t.take (i + 1), POk p n := by
  rw [take_snoc h]
  intro q hq
  rcases List.mem_append.1 hq with hq | hq
  · exact h1 q hq
  · rw [List.mem_singleton] at hq; rw [hq]; exact h2
theorem gok_no_t {v : V} {ts : List (List Pr)} {t : List Pr} (hm : t ∈ ts) (h : ¬ TOk t ts.length) : ¬ GOk v ts := fun g => h (g.2.2 t hm)
theorem tok_no_p {t : List Pr} {n : Nat} {p : Pr} (hm : p ∈ t) (h : ¬ POk p n) : ¬ TOk t n := fun g => h (g.2.1 p hm)
theorem tok_no_k {t : List Pr} {n i j : Nat} {p q : Pr} (hi : t[i]? = some p) (hj : t[j]? = some q) (hji : j < i) (he : q.key = p.key) : ¬ TOk t n := fun g =>
  ((nodup_next hi).1 (nodup_take g.2.2 (i + 1))).2 (key_at hj hji he)
theorem specOk (v : V) (ts : List (List Pr)) (A : Option Addr) (n c : Nat) (h : Hp) (hP : Tabs h A n ts) : Pur Tryd.prog 63 [.ag (gsv v A n c)] h (fun y : Bool => .v (.bool y)) (decide (GOk v ts)) := by
  obtain rfl := hP.len
  refine enterS Tryd.func63 rfl (n := 71) rfl rfl (fun k N => ?_)
  repeat' (first | (refine r_pure hT rfl rfl rfl rfl ?_) | (refine r_new hT rfl rfl rfl rfl ?_) | (refine r_write hT rfl rfl rfl ?_) | (refine r_nil ?_) | (refine q_nil ?_) | (refine p_call (l2val v v A ts.length c _) rfl rfl rfl rfl rfl (hC _ rfl) rfl rfl rfl ?_) | (refine r_arith rfl rfl rfl rfl rfl rfl rfl (by omega) ?_) | (with_reducible refine r_seq ?_) | (with_reducible refine x_then ?_) | (with_reducible refine r_region ?_) | (refine r_draw hM (by kernel_rfl) ?_) | (with_reducible refine r_skip ?_) | (with_reducible refine r_ret ?_) | (with_reducible refine x_then_ret ?_) | (with_reducible refine r_block ?_) | (with_reducible refine x_block ?_) | (with_reducible refine x_block_ret ?_) | (with_reducible refine r_exit ?_) | (with_reducible refine x_then_exit ?_) | (with_reducible refine x_block_here ?_) | (refine x_block_past rfl ?_) | (refine c_yes rfl (by omega) ?_) | (refine c_no rfl (by omega) ?_) | (refine c_no rfl (fun h => h rfl) ?_) | (refine r_cond_false rfl ?_) | (refine r_cond_true rfl ?_) | (refine r_cond_dec rfl (fun _ => ?_) (fun _ => ?_)) | (refine r_cond_true rfl ?_) | (refine r_cond_false rfl ?_) | (refine c_not rfl (fun _ => ?_) (fun _ => ?_)) | (refine r_off rfl rfl rfl ?_) | (refine q_guard rfl rfl (fun _ => ?_) (fun _ => ?_)) | (refine q_guardn rfl rfl (fun _ => ?_) (fun _ => ?_)))
  · exact r_fin hT rfl _ rfl rfl rfl trivial rfl ⟨gok_not rfl (fun g => by have := g.1; omega), rfl⟩
  · rename_i h1 h2
    exact r_fin hT rfl _ rfl rfl rfl trivial rfl ⟨gok_not rfl (fun g => h2 g.2.1), rfl⟩
  rename_i h1 h2
  refine r_loop (γ := Nat) (fun i => i ≤ ts.length ∧ ∀ t ∈ ts.take i, TOk t ts.length) (fun i => [(1, .p 1 0), (2, .v (.bool false)), (20, .v (.slice A ts.length c)), (21, .v (.int .i64 ts.length)), (22, .v (.int .i64 i))])
    (fun _ => [(1, ⟨none, gsv v A ts.length c, 51⟩)]) (fun _ => h) (fun i => ts.length - i) 0 ⟨by omega, by simp⟩ (into rfl ⟨rfl, rfl, rfl, rfl, rfl, trivial⟩ ⟨rfl, trivial⟩ rfl rfl) ?_
  rintro i ⟨hi, hg⟩
  by_cases hlt : i < ts.length
  · obtain ⟨b, off, A1, n1, c1, t, rfl, hd, hix, hm, hat, hc1, hp1⟩ := hP.elem hlt
    obtain rfl := hp1.1
    repeat' (first | (refine r_pure hT rfl rfl rfl rfl ?_) | (refine r_new hT rfl rfl rfl rfl ?_) | (refine r_write hT rfl rfl rfl ?_) | (refine r_nil ?_) | (refine q_nil ?_) | (refine r_indexN hT rfl rfl rfl rfl rfl rfl rfl rfl rfl (by omega) ?_) | (refine r_load hT hat rfl rfl rfl rfl rfl (Nat.add_zero _).symm rfl rfl rfl rfl rfl ?_) | (refine r_arith rfl rfl rfl rfl rfl rfl rfl (by omega) ?_) | (with_reducible refine r_seq ?_) | (with_reducible refine x_then ?_) | (with_reducible refine r_region ?_) | (refine r_draw hM (by kernel_rfl) ?_) | (with_reducible refine r_skip ?_) | (with_reducible refine r_ret ?_) | (with_reducible refine x_then_ret ?_) | (with_reducible refine r_block ?_) | (with_reducible refine x_block ?_) | (with_reducible refine x_block_ret ?_) | (with_reducible refine r_exit ?_) | (with_reducible refine x_then_exit ?_) | (with_reducible refine x_block_here ?_) | (refine x_block_past rfl ?_) | (refine c_yes rfl (by omega) ?_) | (refine c_no rfl (by omega) ?_) | (refine c_no rfl (fun h => h rfl) ?_) | (refine r_cond_false rfl ?_) | (refine r_cond_true rfl ?_) | (refine r_cond_dec rfl (fun _ => ?_) (fun _ => ?_)) | (refine r_cond_true rfl ?_) | (refine r_cond_false rfl ?_) | (refine c_not rfl (fun _ => ?_) (fun _ => ?_)) | (refine r_off rfl rfl rfl ?_) | (refine q_guard rfl rfl (fun _ => ?_) (fun _ => ?_)) | (refine q_guardn rfl rfl (fun _ => ?_) (fun _ => ?_)))
    · exact r_fin hT rfl _ rfl rfl rfl trivial rfl ⟨gok_not rfl (gok_no_t hm fun g => by have := g.1; omega), rfl⟩
    refine r_loop (γ := Nat) (fun j => j ≤ t.length ∧ (∀ p ∈ t.take j, POk p ts.length) ∧ ((t.take j).map (·.key)).Nodup) (fun j => [(1, .p 1 0), (2, .v (.bool false)), (4, .p 4 0), (20, .v (.slice (some ⟨b, off, none⟩) ts.length c)), (21, .v (.int .i64 ts.length)), (22, .v (.int .i64 i)),
        (31, .v (.slice A1 t.length c1)), (32, .v (.int .i64 t.length)), (33, .v (.int .i64 j))])
      (fun _ => [(4, ⟨none, [.v (.slice A1 t.length c1)], 59⟩), (1, ⟨none, gsv v (some ⟨b, off, none⟩) ts.length c, 51⟩)]) (fun _ => h) (fun j => t.length - j) 0 ⟨by omega, by simp, by simp⟩ (into rfl ⟨rfl, rfl, rfl, rfl, rfl, rfl, rfl, rfl, rfl, trivial⟩ ⟨rfl, rfl, trivial⟩ rfl rfl) ?_
    rintro j ⟨hj, hg2, hnd⟩
    by_cases hlt2 : j < t.length
    · obtain ⟨b2, off2, p, rfl, hd2, hix2, hm2, hat2⟩ := hp1.elem Pr.c_len hlt2
      repeat' (first | (refine r_pure hT rfl rfl rfl rfl ?_) | (refine r_new hT rfl rfl rfl rfl ?_) | (refine r_write hT rfl rfl rfl ?_) | (refine r_nil ?_) | (refine q_nil ?_) | (refine r_indexN hT rfl rfl rfl rfl rfl rfl rfl rfl rfl (by omega) ?_) | (refine r_load hT hat2 rfl rfl rfl rfl rfl (Nat.add_zero _).symm rfl rfl rfl rfl rfl ?_) | (refine p_call (l2key p.key _) rfl rfl rfl rfl rfl (hC _ rfl) rfl rfl rfl ?_) | (refine p_call (l2val p.val v (some ⟨b, off, none⟩) ts.length c _) rfl rfl rfl rfl rfl (hC _ rfl) rfl rfl rfl ?_) | (refine r_arith rfl rfl rfl rfl rfl rfl rfl (by omega) ?_) | (with_reducible refine r_seq ?_) | (with_reducible refine x_then ?_) | (with_reducible refine r_region ?_) | (refine r_draw hM (by kernel_rfl) ?_) | (with_reducible refine r_skip ?_) | (with_reducible refine r_ret ?_) | (with_reducible refine x_then_ret ?_) | (with_reducible refine r_block ?_) | (with_reducible refine x_block ?_) | (with_reducible refine x_block_ret ?_) | (with_reducible refine r_exit ?_) | (with_reducible refine x_then_exit ?_) | (with_reducible refine x_block_here ?_) | (refine x_block_past rfl ?_) | (refine c_yes rfl (by omega) ?_) | (refine c_no rfl (by omega) ?_) | (refine c_no rfl (fun h => h rfl) ?_) | (refine r_cond_false rfl ?_) | (refine r_cond_true rfl ?_) | (refine r_cond_dec rfl (fun _ => ?_) (fun _ => ?_)) | (refine r_cond_true rfl ?_) | (refine r_cond_false rfl ?_) | (refine c_not rfl (fun _ => ?_) (fun _ => ?_)) | (refine r_off rfl rfl rfl ?_) | (refine q_guard rfl rfl (fun _ => ?_) (fun _ => ?_)) | (refine q_guardn rfl rfl (fun _ => ?_) (fun _ => ?_)))
      · rename_i x1 x2; exact r_fin hT rfl _ rfl rfl rfl trivial rfl ⟨gok_not rfl (gok_no_t hm (tok_no_p hm2 fun g => x2 g.1)), rfl⟩
      · rename_i x1 x2 x3; exact r_fin hT rfl _ rfl rfl rfl trivial rfl ⟨gok_not rfl (gok_no_t hm (tok_no_p hm2 fun g => x3 g.2.1)), rfl⟩
      · rename_i x1 x2 x3 x4; exact r_fin hT rfl _ rfl rfl rfl trivial rfl ⟨gok_not rfl (gok_no_t hm (tok_no_p hm2 fun g => g.2.2 x4)), rfl⟩
      rename_i x1 x2 x3 x4
      refine r_loop (γ := Nat) (fun l => l ≤ j ∧ p.key ∉ (t.take l).map (·.key)) (fun l => [(1, .p 1 0), (2, .v (.bool false)), (4, .p 4 0), (5, .v (.int .i64 j)), (6, .p 6 0), (7, .v (.int .i64 l)), (20, .v (.slice (some ⟨b, off, none⟩) ts.length c)), (21, .v (.int .i64 ts.length)), (22, .v (.int .i64 i)),
          (31, .v (.slice (some ⟨b2, off2, none⟩) t.length c1)), (32, .v (.int .i64 t.length)), (33, .v (.int .i64 j))])
        (fun _ => [(6, ⟨none, p.sv, 61⟩), (4, ⟨none, [.v (.slice (some ⟨b2, off2, none⟩) t.length c1)], 59⟩), (1, ⟨none, gsv v (some ⟨b, off, none⟩) ts.length c, 51⟩)]) (fun _ => h) (fun l => j - l) 0 ⟨by omega, by simp⟩
        (into rfl ⟨rfl, rfl, rfl, rfl, rfl, rfl, rfl, rfl, rfl, rfl, rfl, rfl, trivial⟩ ⟨rfl, rfl, rfl, trivial⟩ rfl rfl) ?_
      rintro l ⟨hl, hno⟩
      by_cases hlt3 : l < j
      · obtain ⟨b3, off3, q, e3, hd3, hix3, hm3, hat3⟩ := hp1.elem Pr.c_len (i := l) (by omega)
        have e3' := Option.some.inj e3
        simp only [Addr.mk.injEq] at e3'
        obtain ⟨rfl, rfl, _⟩ := e3'
        repeat' (first | (refine r_pure hT rfl rfl rfl rfl ?_) | (refine r_new hT rfl rfl rfl rfl ?_) | (refine r_write hT rfl rfl rfl ?_) | (refine r_nil ?_) | (refine q_nil ?_) | (refine r_indexN hT rfl rfl rfl rfl rfl rfl rfl rfl rfl (by omega) ?_) | (refine r_load hT hat3 rfl rfl rfl rfl rfl rfl rfl rfl rfl rfl rfl ?_) | (refine r_eqs (fun w => eq29f w q.key.k q.key.n q.key.s q.key.a p.key) (by kernel_rfl) (.inl rfl) rfl rfl rfl rfl rfl rfl rfl rfl ?_) | (refine r_arith rfl rfl rfl rfl rfl rfl rfl (by omega) ?_) | (with_reducible refine r_seq ?_) | (with_reducible refine x_then ?_) | (with_reducible refine r_region ?_) | (refine r_draw hM (by kernel_rfl) ?_) | (with_reducible refine r_skip ?_) | (with_reducible refine r_ret ?_) | (with_reducible refine x_then_ret ?_) | (with_reducible refine r_block ?_) | (with_reducible refine x_block ?_) | (with_reducible refine x_block_ret ?_) | (with_reducible refine r_exit ?_) | (with_reducible refine x_then_exit ?_) | (with_reducible refine x_block_here ?_) | (refine x_block_past rfl ?_) | (refine c_yes rfl (by omega) ?_) | (refine c_no rfl (by omega) ?_) | (refine c_no rfl (fun h => h rfl) ?_) | (refine r_cond_false rfl ?_) | (refine r_cond_true rfl ?_) | (refine r_cond_dec rfl (fun _ => ?_) (fun _ => ?_)) | (refine r_cond_true rfl ?_) | (refine r_cond_false rfl ?_) | (refine c_not rfl (fun _ => ?_) (fun _ => ?_)) | (refine r_off rfl rfl rfl ?_) | (refine q_guard rfl rfl (fun _ => ?_) (fun _ => ?_)) | (refine q_guardn rfl rfl (fun _ => ?_) (fun _ => ?_)))
        · rename_i x5; exact r_fin hT rfl _ rfl rfl rfl trivial rfl ⟨gok_not rfl (gok_no_t hm (tok_no_k hix2 hix3 hlt3 x5)), rfl⟩
        · rename_i x5
          exact x_round (l + 1) ⟨hlt3, by rw [keys_take hix3]; simp only [List.mem_append, List.mem_singleton, not_or]; exact ⟨hno, fun e => x5 e.symm⟩⟩ (by omega) (into rfl ⟨rfl, rfl, rfl, rfl, rfl, rfl, rfl, rfl, rfl, rfl, rfl, rfl, trivial⟩ ⟨rfl, rfl, rfl, trivial⟩ rfl rfl)
      · obtain rfl : l = j := by omega
        repeat' (first | (refine r_pure hT rfl rfl rfl rfl ?_) | (refine r_new hT rfl rfl rfl rfl ?_) | (refine r_write hT rfl rfl rfl ?_) | (refine r_nil ?_) | (refine q_nil ?_) | (refine r_arith rfl rfl rfl rfl rfl rfl rfl (by omega) ?_) | (with_reducible refine r_seq ?_) | (with_reducible refine x_then ?_) | (with_reducible refine r_region ?_) | (refine r_draw hM (by kernel_rfl) ?_) | (with_reducible refine r_skip ?_) | (with_reducible refine r_ret ?_) | (with_reducible refine x_then_ret ?_) | (with_reducible refine r_block ?_) | (with_reducible refine x_block ?_) | (with_reducible refine x_block_ret ?_) | (with_reducible refine r_exit ?_) | (with_reducible refine x_then_exit ?_) | (with_reducible refine x_block_here ?_) | (refine x_block_past rfl ?_) | (refine c_yes rfl (by omega) ?_) | (refine c_no rfl (by omega) ?_) | (refine c_no rfl (fun h => h rfl) ?_) | (refine r_cond_false rfl ?_) | (refine r_cond_true rfl ?_) | (refine r_cond_dec rfl (fun _ => ?_) (fun _ => ?_)) | (refine r_cond_true rfl ?_) | (refine r_cond_false rfl ?_) | (refine c_not rfl (fun _ => ?_) (fun _ => ?_)) | (refine r_off rfl rfl rfl ?_) | (refine q_guard rfl rfl (fun _ => ?_) (fun _ => ?_)) | (refine q_guardn rfl rfl (fun _ => ?_) (fun _ => ?_)))
        exact x_round (l + 1) ⟨hlt2, tok_take hix2 hg2 ⟨x2, x3, x4⟩, (nodup_next hix2).2 ⟨hnd, hno⟩⟩ (by omega) (into rfl ⟨rfl, rfl, rfl, rfl, rfl, rfl, rfl, rfl, rfl, trivial⟩ ⟨rfl, rfl, trivial⟩ rfl rfl)
    · obtain rfl : j = t.length := by omega
      rename_i x1
      repeat' (first | (refine r_pure hT rfl rfl rfl rfl ?_) | (refine r_new hT rfl rfl rfl rfl ?_) | (refine r_write hT rfl rfl rfl ?_) | (refine r_nil ?_) | (refine q_nil ?_) | (refine r_arith rfl rfl rfl rfl rfl rfl rfl (by omega) ?_) | (with_reducible refine r_seq ?_) | (with_reducible refine x_then ?_) | (with_reducible refine r_region ?_) | (refine r_draw hM (by kernel_rfl) ?_) | (with_reducible refine r_skip ?_) | (with_reducible refine r_ret ?_) | (with_reducible refine x_then_ret ?_) | (with_reducible refine r_block ?_) | (with_reducible refine x_block ?_) | (with_reducible refine x_block_ret ?_) | (with_reducible refine r_exit ?_) | (with_reducible refine x_then_exit ?_) | (with_reducible refine x_block_here ?_) | (refine x_block_past rfl ?_) | (refine c_yes rfl (by omega) ?_) | (refine c_no rfl (by omega) ?_) | (refine c_no rfl (fun h => h rfl) ?_) | (refine r_cond_false rfl ?_) | (refine r_cond_true rfl ?_) | (refine r_cond_dec rfl (fun _ => ?_) (fun _ => ?_)) | (refine r_cond_true rfl ?_) | (refine r_cond_false rfl ?_) | (refine c_not rfl (fun _ => ?_) (fun _ => ?_)) | (refine r_off rfl rfl rfl ?_) | (refine q_guard rfl rfl (fun _ => ?_) (fun _ => ?_)) | (refine q_guardn rfl rfl (fun _ => ?_) (fun _ => ?_)))
      exact x_round (i + 1) ⟨hlt, by
        rw [take_snoc hix]
        intro s hs
        rcases List.mem_append.1 hs with hs | hs
        · exact hg s hs
        · rw [List.mem_singleton] at hs; rw [hs]; exact ⟨by omega, by simpa using hg2, by simpa using hnd⟩⟩ (by omega) (into rfl ⟨rfl, rfl, rfl, rfl, rfl, trivial⟩ ⟨rfl, trivial⟩ rfl rfl)
  · repeat' (first | (refine r_pure hT rfl rfl rfl rfl ?_) | (refine r_new hT rfl rfl rfl rfl ?_) | (refine r_write hT rfl rfl rfl ?_) | (refine r_nil ?_) | (refine q_nil ?_) | (refine r_arith rfl rfl rfl rfl rfl rfl rfl (by omega) ?_) | (with_reducible refine r_seq ?_) | (with_reducible refine x_then ?_) | (with_reducible refine r_region ?_) | (refine r_draw hM (by kernel_rfl) ?_) | (with_reducible refine r_skip ?_) | (with_reducible refine r_ret ?_) | (with_reducible refine x_then_ret ?_) | (with_reducible refine r_block ?_) | (with_reducible refine x_block ?_) | (with_reducible refine x_block_ret ?_) | (with_reducible refine r_exit ?_) | (with_reducible refine x_then_exit ?_) | (with_reducible refine x_block_here ?_) | (refine x_block_past rfl ?_) | (refine c_yes rfl (by omega) ?_) | (refine c_no rfl (by omega) ?_) | (refine c_no rfl (fun h => h rfl) ?_) | (refine r_cond_false rfl ?_) | (refine r_cond_true rfl ?_) | (refine r_cond_dec rfl (fun _ => ?_) (fun _ => ?_)) | (refine r_cond_true rfl ?_) | (refine r_cond_false rfl ?_) | (refine c_not rfl (fun _ => ?_) (fun _ => ?_)) | (refine r_off rfl rfl rfl ?_) | (refine q_guard rfl rfl (fun _ => ?_) (fun _ => ?_)) | (refine q_guardn rfl rfl (fun _ => ?_) (fun _ => ?_)))
    obtain rfl : i = ts.length := by omega
    exact r_fin hT rfl _ rfl rfl rfl trivial rfl ⟨(decide_eq_true ⟨by omega, h2, by simpa using hg⟩).symm, rfl⟩
end Go.Proofs.YtkamfnmbidnhdaaDoor
namespace Go.Proofs.YtkamfnmbidnhdaaDoor
open Go.Sy
set_option maxRecDepth 100000
set_option maxHeartbeats 4000000
set_option linter.unusedVariables false
set_option linter.unusedSimpArgs false
theorem zero3 : ∀ u : World, (zeroValue 3).run Tryd.prog u = .ok (.int .i64 0) u := fun u => rfl
theorem map85 : Tryd.prog.underlying 143 = some (.map 48 3) := by kernel_rfl
theorem map88 : Tryd.prog.underlying 90 = some (.map 3 3) := by kernel_rfl
theorem implOk (v : V) (ts : List (List Pr)) (A : Option Addr) (n c : Nat) (h : Hp) (hP : Tabs h A n ts) : TriS Tryd.prog 67 [.ag (gsv v A n c)] [] h (fun y : Bool => .v (.bool y)) (fun _ => []) (fun y h' => y = decide (GOk v ts) ∧ Le h h') := by
  obtain rfl := hP.len
  refine enterS Tryd.func67 rfl (n := 73) rfl rfl (fun k N => ?_)
  repeat' (first | (refine r_pure hT rfl rfl rfl rfl ?_) | (refine r_new hT rfl rfl rfl rfl ?_) | (refine r_write hT rfl rfl rfl ?_) | (refine r_nil ?_) | (refine q_nil ?_) | (refine p_call (valOk v ts.length _) rfl rfl rfl rfl rfl (hC _ rfl) rfl rfl rfl ?_) | (refine r_arith rfl rfl rfl rfl rfl rfl rfl (by omega) ?_) | (with_reducible refine r_seq ?_) | (with_reducible refine x_then ?_) | (with_reducible refine r_region ?_) | (refine r_draw hM (by kernel_rfl) ?_) | (with_reducible refine r_skip ?_) | (with_reducible refine r_ret ?_) | (with_reducible refine x_then_ret ?_) | (with_reducible refine r_block ?_) | (with_reducible refine x_block ?_) | (with_reducible refine x_block_ret ?_) | (with_reducible refine r_exit ?_) | (with_reducible refine x_then_exit ?_) | (with_reducible refine x_block_here ?_) | (refine x_block_past rfl ?_) | (refine c_yes rfl (by omega) ?_) | (refine c_no rfl (by omega) ?_) | (refine c_no rfl (fun h => h rfl) ?_) | (refine r_cond_false rfl ?_) | (refine r_cond_true rfl ?_) | (refine r_cond_dec rfl (fun _ => ?_) (fun _ => ?_)) | (refine r_cond_true rfl ?_) | (refine r_cond_false rfl ?_) | (refine c_not rfl (fun _ => ?_) (fun _ => ?_)) | (refine r_off rfl rfl rfl ?_) | (refine q_guard rfl rfl (fun _ => ?_) (fun _ => ?_)) | (refine q_guardn rfl rfl (fun _ => ?_) (fun _ => ?_)))
  · exact r_fin hT rfl _ rfl rfl rfl trivial rfl ⟨gok_not rfl (fun g => by have := g.1; omega), Le.refl _⟩
  · rename_i h1 h2
    exact r_fin hT rfl _ rfl rfl rfl trivial rfl ⟨gok_not rfl (fun g => h2 g.2.1), Le.refl _⟩
  rename_i h1 h2
  refine r_loop (γ := Nat × Hp) (fun g => (g.1 ≤ ts.length ∧ ∀ t ∈ ts.take g.1, TOk t ts.length) ∧ Le h g.2) (fun g => [(1, .p 1 0), (2, .v (.bool false)), (3, .v (.int .i64 ts.length)), (22, .v (.slice A ts.length c)), (23, .v (.int .i64 ts.length)), (24, .v (.int .i64 g.1))])
    (fun _ => [(1, ⟨none, gsv v A ts.length c, 51⟩)]) (fun g => g.2) (fun g => ts.length - g.1) (0, h) ⟨⟨Nat.zero_le _, by simp⟩, Le.refl _⟩ (into rfl ⟨rfl, rfl, rfl, rfl, rfl, rfl, trivial⟩ ⟨rfl, trivial⟩ rfl rfl) ?_
  rintro ⟨i, u⟩ ⟨⟨hi, hg⟩, hle⟩
  dsimp only at *
  by_cases hlt : i < ts.length
  · obtain ⟨b, off, A1, n1, c1, t, rfl, hd, hix, hm, hat, hc1, hp1⟩ := (hP.le hle).elem hlt
    obtain rfl := hp1.1
    repeat' (first | (refine r_pure hT rfl rfl rfl rfl ?_) | (refine r_new hT rfl rfl rfl rfl ?_) | (refine r_write hT rfl rfl rfl ?_) | (refine r_nil ?_) | (refine q_nil ?_) | (refine r_indexN hT rfl rfl rfl rfl rfl rfl rfl rfl rfl (by omega) ?_) | (refine r_load hT hat rfl rfl rfl rfl rfl (Nat.add_zero _).symm rfl rfl rfl rfl rfl ?_) | (refine r_mkmap rfl rfl rfl rfl (fun g hg0 => ?_)) | (refine r_arith rfl rfl rfl rfl rfl rfl rfl (by omega) ?_) | (with_reducible refine r_seq ?_) | (with_reducible refine x_then ?_) | (with_reducible refine r_region ?_) | (refine r_draw hM (by kernel_rfl) ?_) | (with_reducible refine r_skip ?_) | (with_reducible refine r_ret ?_) | (with_reducible refine x_then_ret ?_) | (with_reducible refine r_block ?_) | (with_reducible refine x_block ?_) | (with_reducible refine x_block_ret ?_) | (with_reducible refine r_exit ?_) | (with_reducible refine x_then_exit ?_) | (with_reducible refine x_block_here ?_) | (refine x_block_past rfl ?_) | (refine c_yes rfl (by omega) ?_) | (refine c_no rfl (by omega) ?_) | (refine c_no rfl (fun h => h rfl) ?_) | (refine r_cond_false rfl ?_) | (refine r_cond_true rfl ?_) | (refine r_cond_dec rfl (fun _ => ?_) (fun _ => ?_)) | (refine r_cond_true rfl ?_) | (refine r_cond_false rfl ?_) | (refine c_not rfl (fun _ => ?_) (fun _ => ?_)) | (refine r_off rfl rfl rfl ?_) | (refine q_guard rfl rfl (fun _ => ?_) (fun _ => ?_)) | (refine q_guardn rfl rfl (fun _ => ?_) (fun _ => ?_)))
    · exact r_fin hT rfl _ rfl rfl rfl trivial rfl ⟨gok_not rfl (gok_no_t hm fun g => by have := g.1; omega), hle⟩
    rename_i x1
    have hng : h g = none := by
      cases hh : h g with
      | none => rfl
      | some o => have := hle _ _ hh; rw [hg0] at this; cases this
    refine r_loop (γ := (Nat × Hp) × List (V × Int)) (fun x => (x.1.1 ≤ t.length ∧ (∀ p ∈ t.take x.1.1, POk p ts.length) ∧ ((t.take x.1.1).map (·.key)).Nodup) ∧ Le u x.1.2 ∧ MAt Tryd.prog vKey x.1.2 g x.2 ∧ ∀ y, mget x.2 y = if y ∈ (t.take x.1.1).map (·.key) then 1 else 0)
      (fun x => [(1, .p 1 0), (2, .v (.bool false)), (3, .v (.int .i64 ts.length)), (5, .p 5 0), (6, .v (.map (some g))), (22, .v (.slice (some ⟨b, off, none⟩) ts.length c)), (23, .v (.int .i64 ts.length)), (24, .v (.int .i64 i)),
        (34, .v (.slice A1 t.length c1)), (35, .v (.int .i64 t.length)), (36, .v (.int .i64 x.1.1))])
      (fun _ => [(5, ⟨none, [.v (.slice A1 t.length c1)], 59⟩), (1, ⟨none, gsv v (some ⟨b, off, none⟩) ts.length c, 51⟩)]) (fun x => x.1.2) (fun x => t.length - x.1.1) ((0, upd u g (.map #[] 0)), []) ⟨⟨by simp, by simp, by simp⟩, (Le.refl u).upd hg0, MAt.made .., fun y => by simp [mget]⟩
      (into rfl ⟨rfl, rfl, rfl, rfl, rfl, rfl, rfl, rfl, rfl, rfl, rfl, trivial⟩ ⟨rfl, rfl, trivial⟩ rfl rfl) ?_
    rintro ⟨⟨j, u1⟩, m⟩ ⟨⟨hj, hg2, hnd⟩, hle1, hMm, hmg⟩
    dsimp only at *
    by_cases hlt2 : j < t.length
    · obtain ⟨b2, off2, p, rfl, hd2, hix2, hm2, hat2⟩ := (hp1.le hle1).elem Pr.c_len hlt2
      have hmk := hmg p.key
      have hmk2 : mget m p.key = 0 ∨ mget m p.key = 1 := by rw [hmk]; split <;> simp
      have hleh : Le u u1 := hle1
      repeat' (first | (refine r_pure hT rfl rfl rfl rfl ?_) | (refine r_new hT rfl rfl rfl rfl ?_) | (refine r_write hT rfl rfl rfl ?_) | (refine r_nil ?_) | (refine q_nil ?_) | (refine r_indexN hT rfl rfl rfl rfl rfl rfl rfl rfl rfl (by omega) ?_) | (refine r_load hT hat2 rfl rfl rfl rfl rfl (Nat.add_zero _).symm rfl rfl rfl rfl rfl ?_) | (refine p_call (keyOk p.key _) rfl rfl rfl rfl rfl (hC _ rfl) rfl rfl rfl ?_) | (refine p_call (valOk p.val ts.length _) rfl rfl rfl rfl rfl (hC _ rfl) rfl rfl rfl ?_) | (refine r_cut (γ := Hp) (fun x => MAt Tryd.prog vKey x g (mset m p.key (mget m p.key + 1)) ∧ Le u x) (fun _ => [(1, .p 1 0), (2, .v (.bool false)), (3, .v (.int .i64 ts.length)), (5, .p 5 0), (6, .v (.map (some g))), (8, .p 8 0), (22, .v (.slice (some ⟨b, off, none⟩) ts.length c)), (23, .v (.int .i64 ts.length)), (24, .v (.int .i64 i)), (34, .v (.slice (some ⟨b2, off2, none⟩) t.length c1)), (35, .v (.int .i64 t.length)), (36, .v (.int .i64 j))]) (fun _ => [(8, ⟨none, p.sv, 61⟩), (5, ⟨none, [.v (.slice (some ⟨b2, off2, none⟩) t.length c1)], 59⟩), (1, ⟨none, gsv v (some ⟨b, off, none⟩) ts.length c, 51⟩)]) (fun x => x) (r_many [0, 1, 2] [7] u hleh hM (by kernel_rfl) rfl (by kernel_rfl) rfl rfl rfl (fun β0 => ?_)) (fun u9 hu9 => ?_)) | (refine r_look vKeyOps p.key hMm map85 zero3 rfl rfl rfl rfl rfl rfl rfl ?_) | ((refine r_entry vKeyOps p.key hMm map85 zero3 rfl rfl rfl rfl rfl rfl rfl (fun u2 st m' hS hMm hmg' hu2 => ?_) ; have hleh := hleh.off hg0 hu2)) | ((refine r_estore p.key hS rfl rfl rfl rfl rfl rfl (fun u3 hMm hu3 => ?_) ; have hleh := hleh.off hg0 hu3)) | (refine m_keep hleh ⟨rfl, rfl, rfl, trivial⟩ rfl rfl ?_) | (refine m_late rfl rfl ?_) | (refine x_cut (γ := Hp) u3 ⟨by first | exact hMm | (rw [hmg'] at hMm; exact hMm), hleh⟩ (into rfl ⟨rfl, rfl, rfl, rfl, rfl, rfl, rfl, rfl, rfl, rfl, rfl, rfl, trivial⟩ ⟨rfl, rfl, rfl, trivial⟩ rfl rfl)) | (refine r_look vKeyOps p.key hu9.1 map85 zero3 rfl rfl rfl rfl rfl rfl rfl ?_) | (refine r_arith rfl rfl rfl rfl rfl rfl rfl (by omega) ?_) | (with_reducible refine r_seq ?_) | (with_reducible refine x_then ?_) | (with_reducible refine r_region ?_) | (with_reducible refine r_skip ?_) | (with_reducible refine r_ret ?_) | (with_reducible refine x_then_ret ?_) | (with_reducible refine r_block ?_) | (with_reducible refine x_block ?_) | (with_reducible refine x_block_ret ?_) | (with_reducible refine r_exit ?_) | (with_reducible refine x_then_exit ?_) | (with_reducible refine x_block_here ?_) | (refine x_block_past rfl ?_) | (refine c_yes rfl (by omega) ?_) | (refine c_no rfl (by omega) ?_) | (refine c_no rfl (fun h => h rfl) ?_) | (refine r_cond_false rfl ?_) | (refine r_cond_true rfl ?_) | (refine r_cond_dec rfl (fun _ => ?_) (fun _ => ?_)) | (refine r_cond_true rfl ?_) | (refine r_cond_false rfl ?_) | (refine c_not rfl (fun _ => ?_) (fun _ => ?_)) | (refine r_off rfl rfl rfl ?_) | (refine q_guard rfl rfl (fun _ => ?_) (fun _ => ?_)) | (refine q_guardn rfl rfl (fun _ => ?_) (fun _ => ?_)) | (refine s_nil ?_) | (with_reducible refine a_full ?_) | (refine m_step rfl rfl (List.cons_ne_nil _ _) ?_) | (refine allR_cons rfl ?_ ?_) | (exact allR_nil) | (refine m_end rfl rfl rfl ?_))
      · rename_i y1; exact r_fin hT rfl _ rfl rfl rfl trivial rfl ⟨gok_not rfl (gok_no_t hm (tok_no_p hm2 fun g => y1 g.1)), hle.trans hu9.2⟩
      · rename_i y1 y2; exact r_fin hT rfl _ rfl rfl rfl trivial rfl ⟨gok_not rfl (gok_no_t hm (tok_no_p hm2 fun g => y2 g.2.1)), hle.trans hu9.2⟩
      · rename_i y1 y2 y3; exact r_fin hT rfl _ rfl rfl rfl trivial rfl ⟨gok_not rfl (gok_no_t hm (tok_no_p hm2 fun g => g.2.2 y3)), hle.trans hu9.2⟩
      · rename_i y1 y2 y3 y4
        rw [mget_mset, if_pos rfl, hmk] at y4
        have hin : p.key ∈ (t.take j).map (·.key) := by
          by_cases hh : p.key ∈ (t.take j).map (·.key)
          · exact hh
          · rw [if_neg hh] at y4; omega
        exact r_fin hT rfl _ rfl rfl rfl trivial rfl ⟨gok_not rfl (gok_no_t hm fun g => ((nodup_next hix2).1 (nodup_take g.2.2 (j + 1))).2 hin), hle.trans hu9.2⟩
      · rename_i y1 y2 y3 y4
        rw [mget_mset, if_pos rfl, hmk] at y4
        have hin : p.key ∉ (t.take j).map (·.key) := fun hh => by rw [if_pos hh] at y4; omega
        rw [if_neg hin] at hmk
        refine x_round ((j + 1, u9), mset m p.key (mget m p.key + 1)) ⟨⟨hlt2, tok_take hix2 hg2 ⟨y1, y2, y3⟩, (nodup_next hix2).2 ⟨hnd, hin⟩⟩, hu9.2, hu9.1, fun y => ?_⟩ (by simp; omega) (into rfl ⟨rfl, rfl, rfl, rfl, rfl, rfl, rfl, rfl, rfl, rfl, rfl, trivial⟩ ⟨rfl, rfl, trivial⟩ rfl rfl)
        rw [mget_mset, hmk, keys_take hix2]
        by_cases hy : y = p.key
        · rw [if_pos hy, if_pos (by simp [hy])]; rfl
        · rw [if_neg hy, hmg y]
          have : y ∈ (t.take j).map (·.key) ++ [p.key] ↔ y ∈ (t.take j).map (·.key) := by simp [hy]
          simp only [this]
    · obtain rfl : j = t.length := by omega
      repeat' (first | (refine r_pure hT rfl rfl rfl rfl ?_) | (refine r_new hT rfl rfl rfl rfl ?_) | (refine r_write hT rfl rfl rfl ?_) | (refine r_nil ?_) | (refine q_nil ?_) | (refine r_arith rfl rfl rfl rfl rfl rfl rfl (by omega) ?_) | (with_reducible refine r_seq ?_) | (with_reducible refine x_then ?_) | (with_reducible refine r_region ?_) | (refine r_draw hM (by kernel_rfl) ?_) | (with_reducible refine r_skip ?_) | (with_reducible refine r_ret ?_) | (with_reducible refine x_then_ret ?_) | (with_reducible refine r_block ?_) | (with_reducible refine x_block ?_) | (with_reducible refine x_block_ret ?_) | (with_reducible refine r_exit ?_) | (with_reducible refine x_then_exit ?_) | (with_reducible refine x_block_here ?_) | (refine x_block_past rfl ?_) | (refine c_yes rfl (by omega) ?_) | (refine c_no rfl (by omega) ?_) | (refine c_no rfl (fun h => h rfl) ?_) | (refine r_cond_false rfl ?_) | (refine r_cond_true rfl ?_) | (refine r_cond_dec rfl (fun _ => ?_) (fun _ => ?_)) | (refine r_cond_true rfl ?_) | (refine r_cond_false rfl ?_) | (refine c_not rfl (fun _ => ?_) (fun _ => ?_)) | (refine r_off rfl rfl rfl ?_) | (refine q_guard rfl rfl (fun _ => ?_) (fun _ => ?_)) | (refine q_guardn rfl rfl (fun _ => ?_) (fun _ => ?_)))
      exact x_round (i + 1, u1) ⟨⟨hlt, by
        rw [take_snoc hix]
        intro s hs
        rcases List.mem_append.1 hs with hs | hs
        · exact hg s hs
        · rw [List.mem_singleton] at hs; rw [hs]; exact ⟨by omega, by simpa using hg2, by simpa using hnd⟩⟩, hle.trans hle1⟩ (by simp; omega) (into rfl ⟨rfl, rfl, rfl, rfl, rfl, rfl, trivial⟩ ⟨rfl, trivial⟩ rfl rfl)
  · repeat' (first | (refine r_pure hT rfl rfl rfl rfl ?_) | (refine r_new hT rfl rfl rfl rfl ?_) | (refine r_write hT rfl rfl rfl ?_) | (refine r_nil ?_) | (refine q_nil ?_) | (refine r_arith rfl rfl rfl rfl rfl rfl rfl (by omega) ?_) | (with_reducible refine r_seq ?_) | (with_reducible refine x_then ?_) | (with_reducible refine r_region ?_) | (refine r_draw hM (by kernel_rfl) ?_) | (with_reducible refine r_skip ?_) | (with_reducible refine r_ret ?_) | (with_reducible refine x_then_ret ?_) | (with_reducible refine r_block ?_) | (with_reducible refine x_block ?_) | (with_reducible refine x_block_ret ?_) | (with_reducible refine r_exit ?_) | (with_reducible refine x_then_exit ?_) | (with_reducible refine x_block_here ?_) | (refine x_block_past rfl ?_) | (refine c_yes rfl (by omega) ?_) | (refine c_no rfl (by omega) ?_) | (refine c_no rfl (fun h => h rfl) ?_) | (refine r_cond_false rfl ?_) | (refine r_cond_true rfl ?_) | (refine r_cond_dec rfl (fun _ => ?_) (fun _ => ?_)) | (refine r_cond_true rfl ?_) | (refine r_cond_false rfl ?_) | (refine c_not rfl (fun _ => ?_) (fun _ => ?_)) | (refine r_off rfl rfl rfl ?_) | (refine q_guard rfl rfl (fun _ => ?_) (fun _ => ?_)) | (refine q_guardn rfl rfl (fun _ => ?_) (fun _ => ?_)))
    obtain rfl : i = ts.length := by omega
    exact r_fin hT rfl _ rfl rfl rfl trivial rfl ⟨(decide_eq_true ⟨by omega, h2, by simpa using hg⟩).symm, hle⟩
end Go.Proofs.YtkamfnmbidnhdaaDoor
