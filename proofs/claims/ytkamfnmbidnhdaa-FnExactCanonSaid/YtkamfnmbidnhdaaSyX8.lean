/- The walk by a symbolic frame (SyX8): contracts of functions; each with its own conditions as hypotheses. -/
import Derived.Test.YtkamfnmbidnhdaaSyX7
namespace Go.Proofs.Ytkamfnmbidnhdaa
open Go.Sy
set_option maxRecDepth 100000
set_option maxHeartbeats 4000000
set_option linter.unusedVariables false
def cnt : List (List Pr) → Nat
  | [] => 0
  | t :: r => t.length + cnt r
def mkAll : List (List Pr) → Int → List (List Pr)
  | [], _ => []
  | t :: r, x => mkPrs t.length x :: mkAll r (x + 8 * t.length)
theorem cnt_snoc (t : List Pr) : ∀ l, cnt (l ++ [t]) = cnt l + t.length
  | [] => by simp [cnt]
  | s :: r => by simp [cnt, cnt_snoc t r]; omega
theorem mkAll_snoc (t : List Pr) : ∀ (l : List (List Pr)) (x : Int), mkAll (l ++ [t]) x = mkAll l x ++ [mkPrs t.length (x + 8 * cnt l)]
  | [], x => by simp [mkAll, cnt]
  | s :: r, x => by simp only [List.cons_append, mkAll, mkAll_snoc t r, cnt]; congr 4; push_cast; omega
theorem mkAll_len : ∀ (l : List (List Pr)) (x : Int), (mkAll l x).length = l.length
  | [], _ => rfl
  | s :: r, x => by simp [mkAll, mkAll_len r]
theorem mkAll_get : ∀ (l : List (List Pr)) (x : Int) (i : Nat) (t : List Pr), l[i]? = some t → (mkAll l x)[i]? = some (mkPrs t.length (x + 8 * cnt (l.take i)))
  | [], _, i, t, h => by simp at h
  | s :: r, x, 0, t, h => by simp at h; subst h; simp [mkAll, cnt]
  | s :: r, x, i + 1, t, h => by
    simp only [List.getElem?_cons_succ] at h
    simp only [mkAll, List.getElem?_cons_succ, mkAll_get r _ i t h, List.take_succ_cons, cnt]
    congr 2; push_cast; omega
theorem cnt_take (ts : List (List Pr)) (i : Nat) {t : List Pr} (h : ts[i]? = some t) : cnt (ts.take i) + t.length ≤ cnt ts := by
  have h1 : ∀ l m : List (List Pr), cnt (l ++ m) = cnt l + cnt m := fun l m => by induction l with
    | nil => simp [cnt]
    | cons a r ih => simp [cnt, ih]; omega
  have h2 : ts = ts.take i ++ t :: ts.drop (i + 1) := by
    have hi : i < ts.length := (List.getElem?_eq_some_iff.1 h).1
    have : ts[i] = t := (List.getElem?_eq_some_iff.1 h).2
    rw [← this, ← List.drop_eq_getElem_cons hi, List.take_append_drop]
  have h3 := congrArg cnt h2
  rw [h1, cnt] at h3; omega
theorem markTableS (A : Option Addr) (n c : Nat) (hs : List Hd) (ts : List (List Pr)) (x : Int) (h : Hp) (hO : OT h 80 82 A n c hs ts) (h0 : 1 ≤ x) (h1 : x + 8 * cnt ts ≤ 2305843009213693952) (h2 : ts.length ≤ 9223372036854775807) :
    TriS Try.prog 64 [.v (.slice A n c), .v (.int .i64 x)] [] h (fun _ : Unit => .v (.int .i64 (x + 8 * cnt ts))) (fun _ => []) (fun _ h' => OT h' 80 82 A n c hs (mkAll ts x) ∧ ∀ b, (∀ y ∈ hs, blk y.A ≠ some b) → h' b = h b) := by
  have hn := hO.num
  refine enterS Try.func64 rfl (n := 20) rfl rfl (fun k N => ?_)
  repeat' (first | (refine r_pure hT rfl rfl rfl rfl ?_) | (refine r_new hT rfl rfl rfl rfl ?_) | (refine r_write hT rfl rfl rfl ?_) | (refine r_nil ?_) | (refine q_nil ?_) | (refine r_arith rfl rfl rfl rfl rfl rfl rfl (by omega) ?_) | (with_reducible refine r_seq ?_) | (with_reducible refine x_then ?_) | (with_reducible refine r_region ?_) | (refine r_draw hM (by kernel_rfl) ?_) | (with_reducible refine r_skip ?_) | (with_reducible refine r_ret ?_) | (with_reducible refine x_then_ret ?_) | (with_reducible refine r_block ?_) | (with_reducible refine x_block ?_) | (with_reducible refine x_block_ret ?_) | (with_reducible refine r_exit ?_) | (with_reducible refine x_then_exit ?_) | (with_reducible refine x_block_here ?_) | (refine x_block_past rfl ?_) | (refine c_yes rfl (by omega) ?_) | (refine c_no rfl (by omega) ?_) | (refine c_no rfl (fun h => h rfl) ?_) | (refine r_cond_false rfl ?_) | (refine r_cond_true rfl ?_) | (refine r_cond_dec rfl (fun _ => ?_) (fun _ => ?_)) | (refine r_cond_true rfl ?_) | (refine r_cond_false rfl ?_) | (refine c_not rfl (fun _ => ?_) (fun _ => ?_)) | (refine r_off rfl rfl rfl ?_) | (refine q_guard rfl rfl (fun _ => ?_) (fun _ => ?_)) | (refine q_guardn rfl rfl (fun _ => ?_) (fun _ => ?_)))
  refine r_loop (γ := Nat × Hp) (fun g => g.1 ≤ ts.length ∧ OT g.2 80 82 A n c hs (mkAll (ts.take g.1) x ++ ts.drop g.1) ∧ ∀ b, (∀ y ∈ hs, blk y.A ≠ some b) → g.2 b = h b)
    (fun g => [(0, .v (.slice A n c)), (1, .v (.int .i64 (x + 8 * cnt (ts.take g.1)))), (5, .v (.int .i64 g.1))]) (fun _ => []) (fun g => g.2) (fun g => ts.length - g.1)
    (0, h) ⟨Nat.zero_le _, hO, fun _ _ => rfl⟩ (into rfl ⟨rfl, congrArg (fun z => some (SV.v (.int .i64 z))) (by simp [cnt]), rfl, trivial⟩ trivial rfl rfl) ?_
  rintro ⟨i, v⟩ ⟨hi, hO, hK⟩
  dsimp only at *
  by_cases hlt : i < ts.length
  · have hm1 : (mkAll (ts.take i) x).length = i := by rw [mkAll_len]; simp; omega
    obtain ⟨b, off, y, t, rfl, hd, hy, hix, hmem, hat, hyn, hyO⟩ := hO.elem (i := i) (by simp [hm1]; omega)
    have hix' : ts[i]? = some t := by
      rw [List.getElem?_append_right (by omega), hm1, Nat.sub_self] at hix
      simpa using hix
    have hdrop : ts.drop i = t :: ts.drop (i + 1) := by
      have := (List.getElem?_eq_some_iff.1 hix').2
      rw [← this]; exact List.drop_eq_getElem_cons hlt
    have hct := cnt_take ts i hix'
    repeat' (first | (refine r_pure hT rfl rfl rfl rfl ?_) | (refine r_new hT rfl rfl rfl rfl ?_) | (refine r_write hT rfl rfl rfl ?_) | (refine r_nil ?_) | (refine q_nil ?_) | (refine r_indexN hT rfl rfl rfl rfl rfl rfl rfl rfl rfl (by omega) ?_) | (refine r_ld1 hT hat rfl rfl rfl rfl rfl rfl rfl rfl rfl rfl ?_) | (refine r_call (markPairS y.A y.n y.c (x + 8 * cnt (ts.take i)) _ _ hyO (by omega) (by omega)) rfl rfl rfl rfl rfl (hC _ rfl) rfl rfl (fun _ u' hu' => ?_)) | (refine r_arith rfl rfl rfl rfl rfl rfl rfl (by omega) ?_) | (with_reducible refine r_seq ?_) | (with_reducible refine x_then ?_) | (with_reducible refine r_region ?_) | (refine r_draw hM (by kernel_rfl) ?_) | (with_reducible refine r_skip ?_) | (with_reducible refine r_ret ?_) | (with_reducible refine x_then_ret ?_) | (with_reducible refine r_block ?_) | (with_reducible refine x_block ?_) | (with_reducible refine x_block_ret ?_) | (with_reducible refine r_exit ?_) | (with_reducible refine x_then_exit ?_) | (with_reducible refine x_block_here ?_) | (refine x_block_past rfl ?_) | (refine c_yes rfl (by omega) ?_) | (refine c_no rfl (by omega) ?_) | (refine c_no rfl (fun h => h rfl) ?_) | (refine r_cond_false rfl ?_) | (refine r_cond_true rfl ?_) | (refine r_cond_dec rfl (fun _ => ?_) (fun _ => ?_)) | (refine r_cond_true rfl ?_) | (refine r_cond_false rfl ?_) | (refine c_not rfl (fun _ => ?_) (fun _ => ?_)) | (refine r_off rfl rfl rfl ?_) | (refine q_guard rfl rfl (fun _ => ?_) (fun _ => ?_)) | (refine q_guardn rfl rfl (fun _ => ?_) (fun _ => ?_)))
    obtain ⟨hu1, hu2⟩ := hu'
    refine x_round (i + 1, u') ⟨hlt, ?_, fun b hb => (hu2 b (hb y (List.mem_of_getElem? hy))).trans (hK b hb)⟩ (by simp; omega) (into rfl ⟨rfl, congrArg (fun z => some (SV.v (.int .i64 z))) (by rw [take_snoc hix', cnt_snoc]; push_cast; omega), rfl, trivial⟩ trivial rfl rfl)
    show OT u' 80 82 _ n c hs (mkAll (ts.take (i + 1)) x ++ ts.drop (i + 1))
    rw [take_snoc hix', mkAll_snoc, List.append_assoc]
    rw [hdrop] at hO
    exact hO.set (y := y) (by rw [hm1]; exact hy) (mkPrs_len _ _) (by rw [hyn] at hu1 ⊢; exact hu1) hu2
  · obtain rfl : i = ts.length := by omega
    rw [List.take_length, List.drop_length, List.append_nil] at hO
    repeat' (first | (refine r_pure hT rfl rfl rfl rfl ?_) | (refine r_new hT rfl rfl rfl rfl ?_) | (refine r_write hT rfl rfl rfl ?_) | (refine r_nil ?_) | (refine q_nil ?_) | (refine r_arith rfl rfl rfl rfl rfl rfl rfl (by omega) ?_) | (with_reducible refine r_seq ?_) | (with_reducible refine x_then ?_) | (with_reducible refine r_region ?_) | (refine r_draw hM (by kernel_rfl) ?_) | (with_reducible refine r_skip ?_) | (with_reducible refine r_ret ?_) | (with_reducible refine x_then_ret ?_) | (with_reducible refine r_block ?_) | (with_reducible refine x_block ?_) | (with_reducible refine x_block_ret ?_) | (with_reducible refine r_exit ?_) | (with_reducible refine x_then_exit ?_) | (with_reducible refine x_block_here ?_) | (refine x_block_past rfl ?_) | (refine c_yes rfl (by omega) ?_) | (refine c_no rfl (by omega) ?_) | (refine c_no rfl (fun h => h rfl) ?_) | (refine r_cond_false rfl ?_) | (refine r_cond_true rfl ?_) | (refine r_cond_dec rfl (fun _ => ?_) (fun _ => ?_)) | (refine r_cond_true rfl ?_) | (refine r_cond_false rfl ?_) | (refine c_not rfl (fun _ => ?_) (fun _ => ?_)) | (refine r_off rfl rfl rfl ?_) | (refine q_guard rfl rfl (fun _ => ?_) (fun _ => ?_)) | (refine q_guardn rfl rfl (fun _ => ?_) (fun _ => ?_)))
    refine r_fin hT rfl () rfl rfl ?_ trivial rfl ⟨hO, hK⟩
    simp [valE]
theorem markGraph (vv : V) (A : Option Addr) (n c : Nat) (hs : List Hd) (ts : List (List Pr)) (x : Int) (h : Hp) (hO : OT h 80 82 A n c hs ts) (h0 : 1 ≤ x) (h1 : x + 8 * cnt ts ≤ 2305843009213693952) (h2 : ts.length ≤ 9223372036854775807) :
    TriS Try.prog 37 [.ag (gsv vv A n c), .v (.int .i64 x)] [] h (fun _ : Unit => .v (.int .i64 (x + 8 * cnt ts))) (fun _ => []) (fun _ h' => OT h' 80 82 A n c hs (mkAll ts x) ∧ ∀ b, (∀ y ∈ hs, blk y.A ≠ some b) → h' b = h b) := by
  refine enterS Try.func37 rfl (n := 10) rfl rfl (fun k N => ?_)
  repeat' (first | (refine r_pure hT rfl rfl rfl rfl ?_) | (refine r_new hT rfl rfl rfl rfl ?_) | (refine r_write hT rfl rfl rfl ?_) | (refine r_nil ?_) | (refine q_nil ?_) | (refine r_call (markTableS A n c hs ts x _ hO h0 h1 h2) rfl rfl rfl rfl rfl (hC _ rfl) rfl rfl (fun _ u' hu' => ?_)) | (refine r_arith rfl rfl rfl rfl rfl rfl rfl (by omega) ?_) | (with_reducible refine r_seq ?_) | (with_reducible refine x_then ?_) | (with_reducible refine r_region ?_) | (refine r_draw hM (by kernel_rfl) ?_) | (with_reducible refine r_skip ?_) | (with_reducible refine r_ret ?_) | (with_reducible refine x_then_ret ?_) | (with_reducible refine r_block ?_) | (with_reducible refine x_block ?_) | (with_reducible refine x_block_ret ?_) | (with_reducible refine r_exit ?_) | (with_reducible refine x_then_exit ?_) | (with_reducible refine x_block_here ?_) | (refine x_block_past rfl ?_) | (refine c_yes rfl (by omega) ?_) | (refine c_no rfl (by omega) ?_) | (refine c_no rfl (fun h => h rfl) ?_) | (refine r_cond_false rfl ?_) | (refine r_cond_true rfl ?_) | (refine r_cond_dec rfl (fun _ => ?_) (fun _ => ?_)) | (refine r_cond_true rfl ?_) | (refine r_cond_false rfl ?_) | (refine c_not rfl (fun _ => ?_) (fun _ => ?_)) | (refine r_off rfl rfl rfl ?_) | (refine q_guard rfl rfl (fun _ => ?_) (fun _ => ?_)) | (refine q_guardn rfl rfl (fun _ => ?_) (fun _ => ?_)))
  exact r_fin hT rfl () rfl rfl rfl trivial rfl hu'
theorem heldTableS (A : Option Addr) (n c : Nat) (ts : List (List Pr)) (x : Int) (h : Hp) (hP : Tabs h A n (mkAll ts x)) (h0 : 1 ≤ x) (h1 : x + 8 * cnt ts ≤ 2305843009213693952) (h2 : ts.length ≤ 9223372036854775807) :
    Pur Try.prog 65 [.v (.slice A n c), .v (.int .i64 x)] h (fun y : Int => .v (.int .i64 y)) (x + 8 * cnt ts) := by
  have hn := hP.len
  rw [mkAll_len] at hn
  refine enterS Try.func65 rfl (n := 22) rfl rfl (fun k N => ?_)
  repeat' (first | (refine r_pure hT rfl rfl rfl rfl ?_) | (refine r_new hT rfl rfl rfl rfl ?_) | (refine r_write hT rfl rfl rfl ?_) | (refine r_nil ?_) | (refine q_nil ?_) | (refine r_arith rfl rfl rfl rfl rfl rfl rfl (by omega) ?_) | (with_reducible refine r_seq ?_) | (with_reducible refine x_then ?_) | (with_reducible refine r_region ?_) | (refine r_draw hM (by kernel_rfl) ?_) | (with_reducible refine r_skip ?_) | (with_reducible refine r_ret ?_) | (with_reducible refine x_then_ret ?_) | (with_reducible refine r_block ?_) | (with_reducible refine x_block ?_) | (with_reducible refine x_block_ret ?_) | (with_reducible refine r_exit ?_) | (with_reducible refine x_then_exit ?_) | (with_reducible refine x_block_here ?_) | (refine x_block_past rfl ?_) | (refine c_yes rfl (by omega) ?_) | (refine c_no rfl (by omega) ?_) | (refine c_no rfl (fun h => h rfl) ?_) | (refine r_cond_false rfl ?_) | (refine r_cond_true rfl ?_) | (refine r_cond_dec rfl (fun _ => ?_) (fun _ => ?_)) | (refine r_cond_true rfl ?_) | (refine r_cond_false rfl ?_) | (refine c_not rfl (fun _ => ?_) (fun _ => ?_)) | (refine r_off rfl rfl rfl ?_) | (refine q_guard rfl rfl (fun _ => ?_) (fun _ => ?_)) | (refine q_guardn rfl rfl (fun _ => ?_) (fun _ => ?_)))
  refine r_loop (γ := Nat) (fun i => i ≤ ts.length) (fun i => [(0, .v (.slice A n c)), (1, .v (.int .i64 (x + 8 * cnt (ts.take i)))), (5, .v (.int .i64 i))]) (fun _ => []) (fun _ => h) (fun i => ts.length - i)
    0 (Nat.zero_le _) (into rfl ⟨rfl, congrArg (fun z => some (SV.v (.int .i64 z))) (by simp [cnt]), rfl, trivial⟩ trivial rfl rfl) ?_
  intro i hi
  by_cases hlt : i < ts.length
  · obtain ⟨b, off, A', n', c', t', rfl, hd, hix, hm, hat, hc', hp⟩ := hP.elem (i := i) (by rw [mkAll_len]; exact hlt)
    obtain ⟨t, hix'⟩ : ∃ t, ts[i]? = some t := ⟨_, List.getElem?_eq_getElem hlt⟩
    rw [mkAll_get ts x i t hix'] at hix
    have e := Option.some.inj hix; subst e
    have hct := cnt_take ts i hix'
    obtain rfl : n' = t.length := by rw [hp.1, mkPrs_len]
    repeat' (first | (refine r_pure hT rfl rfl rfl rfl ?_) | (refine r_new hT rfl rfl rfl rfl ?_) | (refine r_write hT rfl rfl rfl ?_) | (refine r_nil ?_) | (refine q_nil ?_) | (refine r_indexN hT rfl rfl rfl rfl rfl rfl rfl rfl rfl (by omega) ?_) | (refine r_ld1 hT hat rfl rfl rfl rfl rfl rfl rfl rfl rfl rfl ?_) | (refine p_call (heldPairS A' _ c' (x + 8 * cnt (ts.take i)) _ hp (by omega) (by omega)) rfl rfl rfl rfl rfl (hC _ rfl) rfl rfl rfl ?_) | (refine r_arith rfl rfl rfl rfl rfl rfl rfl (by omega) ?_) | (with_reducible refine r_seq ?_) | (with_reducible refine x_then ?_) | (with_reducible refine r_region ?_) | (refine r_draw hM (by kernel_rfl) ?_) | (with_reducible refine r_skip ?_) | (with_reducible refine r_ret ?_) | (with_reducible refine x_then_ret ?_) | (with_reducible refine r_block ?_) | (with_reducible refine x_block ?_) | (with_reducible refine x_block_ret ?_) | (with_reducible refine r_exit ?_) | (with_reducible refine x_then_exit ?_) | (with_reducible refine x_block_here ?_) | (refine x_block_past rfl ?_) | (refine c_yes rfl (by omega) ?_) | (refine c_no rfl (by omega) ?_) | (refine c_no rfl (fun h => h rfl) ?_) | (refine r_cond_false rfl ?_) | (refine r_cond_true rfl ?_) | (refine r_cond_dec rfl (fun _ => ?_) (fun _ => ?_)) | (refine r_cond_true rfl ?_) | (refine r_cond_false rfl ?_) | (refine c_not rfl (fun _ => ?_) (fun _ => ?_)) | (refine r_off rfl rfl rfl ?_) | (refine q_guard rfl rfl (fun _ => ?_) (fun _ => ?_)) | (refine q_guardn rfl rfl (fun _ => ?_) (fun _ => ?_)))
    exact x_round (i + 1) hlt (by omega) (into rfl ⟨rfl, congrArg (fun z => some (SV.v (.int .i64 z))) (by rw [take_snoc hix', cnt_snoc]; push_cast; omega), rfl, trivial⟩ trivial rfl rfl)
  · obtain rfl : i = ts.length := by omega
    repeat' (first | (refine r_pure hT rfl rfl rfl rfl ?_) | (refine r_new hT rfl rfl rfl rfl ?_) | (refine r_write hT rfl rfl rfl ?_) | (refine r_nil ?_) | (refine q_nil ?_) | (refine r_arith rfl rfl rfl rfl rfl rfl rfl (by omega) ?_) | (with_reducible refine r_seq ?_) | (with_reducible refine x_then ?_) | (with_reducible refine r_region ?_) | (refine r_draw hM (by kernel_rfl) ?_) | (with_reducible refine r_skip ?_) | (with_reducible refine r_ret ?_) | (with_reducible refine x_then_ret ?_) | (with_reducible refine r_block ?_) | (with_reducible refine x_block ?_) | (with_reducible refine x_block_ret ?_) | (with_reducible refine r_exit ?_) | (with_reducible refine x_then_exit ?_) | (with_reducible refine x_block_here ?_) | (refine x_block_past rfl ?_) | (refine c_yes rfl (by omega) ?_) | (refine c_no rfl (by omega) ?_) | (refine c_no rfl (fun h => h rfl) ?_) | (refine r_cond_false rfl ?_) | (refine r_cond_true rfl ?_) | (refine r_cond_dec rfl (fun _ => ?_) (fun _ => ?_)) | (refine r_cond_true rfl ?_) | (refine r_cond_false rfl ?_) | (refine c_not rfl (fun _ => ?_) (fun _ => ?_)) | (refine r_off rfl rfl rfl ?_) | (refine q_guard rfl rfl (fun _ => ?_) (fun _ => ?_)) | (refine q_guardn rfl rfl (fun _ => ?_) (fun _ => ?_)))
    exact r_fin hT rfl _ rfl rfl rfl trivial rfl ⟨by rw [List.take_length], rfl⟩
theorem heldGraph (vv : V) (A : Option Addr) (n c : Nat) (ts : List (List Pr)) (x : Int) (h : Hp) (hP : Tabs h A n (mkAll ts x)) (h0 : 1 ≤ x) (h1 : x + 8 * cnt ts ≤ 2305843009213693952) (h2 : ts.length ≤ 9223372036854775807) :
    Pur Try.prog 38 [.ag (gsv vv A n c), .v (.int .i64 x)] h (fun y : Int => .v (.int .i64 y)) (x + 8 * cnt ts) := by
  refine enterS Try.func38 rfl (n := 12) rfl rfl (fun k N => ?_)
  repeat' (first | (refine r_pure hT rfl rfl rfl rfl ?_) | (refine r_new hT rfl rfl rfl rfl ?_) | (refine r_write hT rfl rfl rfl ?_) | (refine r_nil ?_) | (refine q_nil ?_) | (refine p_call (heldTableS A n c ts x _ hP h0 h1 h2) rfl rfl rfl rfl rfl (hC _ rfl) rfl rfl rfl ?_) | (refine r_arith rfl rfl rfl rfl rfl rfl rfl (by omega) ?_) | (with_reducible refine r_seq ?_) | (with_reducible refine x_then ?_) | (with_reducible refine r_region ?_) | (refine r_draw hM (by kernel_rfl) ?_) | (with_reducible refine r_skip ?_) | (with_reducible refine r_ret ?_) | (with_reducible refine x_then_ret ?_) | (with_reducible refine r_block ?_) | (with_reducible refine x_block ?_) | (with_reducible refine x_block_ret ?_) | (with_reducible refine r_exit ?_) | (with_reducible refine x_then_exit ?_) | (with_reducible refine x_block_here ?_) | (refine x_block_past rfl ?_) | (refine c_yes rfl (by omega) ?_) | (refine c_no rfl (by omega) ?_) | (refine c_no rfl (fun h => h rfl) ?_) | (refine r_cond_false rfl ?_) | (refine r_cond_true rfl ?_) | (refine r_cond_dec rfl (fun _ => ?_) (fun _ => ?_)) | (refine r_cond_true rfl ?_) | (refine r_cond_false rfl ?_) | (refine c_not rfl (fun _ => ?_) (fun _ => ?_)) | (refine r_off rfl rfl rfl ?_) | (refine q_guard rfl rfl (fun _ => ?_) (fun _ => ?_)) | (refine q_guardn rfl rfl (fun _ => ?_) (fun _ => ?_)))
  exact r_fin hT rfl _ rfl rfl rfl trivial rfl ⟨rfl, rfl⟩
end Go.Proofs.Ytkamfnmbidnhdaa
