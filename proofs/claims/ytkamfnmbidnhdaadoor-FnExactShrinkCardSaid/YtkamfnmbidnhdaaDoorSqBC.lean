/- The walk by a symbolic frame (SqBC): contracts of functions; each with its own conditions as hypotheses. -/
import Derived.Test.YtkamfnmbidnhdaaDoorSqBB
import Derived.Test.YtkamfnmbidnhdaaDoorSqBA
import Derived.Test.YtkamfnmbidnhdaaDoorSqAJ
set_option linter.unusedVariables false
set_option linter.unusedSimpArgs false
set_option linter.unusedSectionVars false
namespace Go.Proofs.YtkamfnmbidnhdaaDoor
open Go.Sy
set_option maxRecDepth 100000
set_option maxHeartbeats 4000000
set_option linter.unusedVariables false
def cnt : List (List Pr) → Nat
  | [] => 0
  | t :: r => t.length + cnt r
def mkAll : List (List Pr) → Int → List (List Pr)
  | [], _ => []
  | t :: r, x => mkPrs t.length x :: mkAll r (x + 8 * t.length)
theorem cnt_snoc (t : List Pr) : ∀ l, cnt (l ++ [t]) = cnt l + t.length
  | [] => by simp [cnt]
  | s :: r => by simp [cnt, cnt_snoc t r]; omega
theorem mkAll_snoc (t : List Pr) : ∀ (l : List (List Pr)) (x : Int), mkAll (l ++ [t]) x = mkAll l x ++ [mkPrs t.length (x + 8 * cnt l)]
  | [], x => by simp [mkAll, cnt]
  | s :: r, x => by simp only [List.cons_append, mkAll, mkAll_snoc t r, cnt]; congr 4; push_cast; omega
theorem mkAll_len : ∀ (l : List (List Pr)) (x : Int), (mkAll l x).length = l.length
  | [], _ => rfl
  | s :: r, x => by simp [mkAll, mkAll_len r]
theorem mkAll_get : ∀ (l : List (List Pr)) (x : Int) (i : Nat) (t : List Pr), l[i]? = some t → (mkAll l x)[i]? = some (mkPrs t.length (x + 8 * cnt (l.take i)))
  | [], _, i, t, h => by simp at h
  | s :: r, x, 0, t, h => by simp at h; subst h; simp [mkAll, cnt]
  | s :: r, x, i + 1, t, h => by
    simp only [List.getElem?_cons_succ] at h
    simp only [mkAll, List.getElem?_cons_succ, mkAll_get r _ i t h, List.take_succ_cons, cnt]
    congr 2; push_cast; omega
theorem cnt_take (ts : List (List Pr)) (i : Nat) {t : List Pr} (h : ts[i]? = some t) : cnt (ts.take i) + t.length ≤ cnt ts := by
  have h1 : ∀ l m : List (List Pr), cnt (l ++ m) = cnt l + cnt m := fun l m => by induction l with
    | nil => simp [cnt]
    | cons a r ih => simp [cnt, ih]; omega
  have h2 : ts = ts.take i ++ t :: ts.drop (i + 1) := by
    have hi : i < ts.length := (List.getElem?_eq_some_iff.1 h).1
    have : ts[i] = t := (List.getElem?_eq_some_iff.1 h).2
    rw [← this, ← List.drop_eq_getElem_cons hi, List.take_append_drop]
  have h3 := congrArg cnt h2
  rw [h1, cnt] at h3; omega
theorem markTableS (A : Option Addr) (n c : Nat) (hs : List Hd) (ts : List (List Pr)) (x : Int) (h : Hp) (hO : OT h 59 61 A n c hs ts) (h0 : 1 ≤ x) (h1 : x + 8 * cnt ts ≤ 2305843009213693952) (h2 : ts.length ≤ 9223372036854775807) :
    TriS Tryd.prog 88 [.v (.slice A n c), .v (.int .i64 x)] [] h (fun _ : Unit => .v (.int .i64 (x + 8 * cnt ts))) (fun _ => []) (fun _ h' => OT h' 59 61 A n c hs (mkAll ts x) ∧ ∀ b, (∀ y ∈ hs, blk y.A ≠ some b) → h' b = h b) := by
  have hn := hO.num
  refine enterS Tryd.func88 rfl (n := 20) rfl rfl (fun k N => ?_)
  repeat' (first | (refine r_pure hT rfl rfl rfl rfl ?_) | (refine r_new hT rfl rfl rfl rfl ?_) | (refine r_write hT rfl rfl rfl ?_) | (refine r_nil ?_) | (refine q_nil ?_) | (refine r_arith rfl rfl rfl rfl rfl rfl rfl (by omega) ?_) | (with_reducible refine r_seq ?_) | (with_reducible refine x_then ?_) | (with_reducible refine r_region ?_) | (refine r_draw hM (by kernel_rfl) ?_) | (with_reducible refine r_skip ?_) | (with_reducible refine r_ret ?_) | (with_reducible refine x_then_ret ?_) | (with_reducible refine r_block ?_) | (with_reducible refine x_block ?_) | (with_reducible refine x_block_ret ?_) | (with_reducible refine r_exit ?_) | (with_reducible refine x_then_exit ?_) | (with_reducible refine x_block_here ?_) | (refine x_block_past rfl ?_) | (refine c_yes rfl (by omega) ?_) | (refine c_no rfl (by omega) ?_) | (refine c_no rfl (fun h => h rfl) ?_) | (refine r_cond_false rfl ?_) | (refine r_cond_true rfl ?_) | (refine r_cond_dec rfl (fun _ => ?_) (fun _ => ?_)) | (refine r_cond_true rfl ?_) | (refine r_cond_false rfl ?_) | (refine c_not rfl (fun _ => ?_) (fun _ => ?_)) | (refine r_off rfl rfl rfl ?_) | (refine q_guard rfl rfl (fun _ => ?_) (fun _ => ?_)) | (refine q_guardn rfl rfl (fun _ => ?_) (fun _ => ?_)))
  refine r_loop (γ := Nat × Hp) (fun g => g.1 ≤ ts.length ∧ OT g.2 59 61 A n c hs (mkAll (ts.take g.1) x ++ ts.drop g.1) ∧ ∀ b, (∀ y ∈ hs, blk y.A ≠ some b) → g.2 b = h b)
    (fun g => [(0, .v (.slice A n c)), (1, .v (.int .i64 (x + 8 * cnt (ts.take g.1)))), (5, .v (.int .i64 g.1))]) (fun _ => []) (fun g => g.2) (fun g => ts.length - g.1)
    (0, h) ⟨Nat.zero_le _, hO, fun _ _ => rfl⟩ (into rfl ⟨rfl, congrArg (fun z => some (SV.v (.int .i64 z))) (by simp [cnt]), rfl, trivial⟩ trivial rfl rfl) ?_
  rintro ⟨i, v⟩ ⟨hi, hO, hK⟩
  dsimp only at *
  by_cases hlt : i < ts.length
  · have hm1 : (mkAll (ts.take i) x).length = i := by rw [mkAll_len]; simp; omega
    obtain ⟨b, off, y, t, rfl, hd, hy, hix, hmem, hat, hyn, hyO⟩ := hO.elem (i := i) (by simp [hm1]; omega)
    have hix' : ts[i]? = some t := by
      rw [List.getElem?_append_right (by omega), hm1, Nat.sub_self] at hix
      simpa using hix
    have hdrop : ts.drop i = t :: ts.drop (i + 1) := by
      have := (List.getElem?_eq_some_iff.1 hix').2
      rw [← this]; exact List.drop_eq_getElem_cons hlt
    have hct := cnt_take ts i hix'
    repeat' (first | (refine r_pure hT rfl rfl rfl rfl ?_) | (refine r_new hT rfl rfl rfl rfl ?_) | (refine r_write hT rfl rfl rfl ?_) | (refine r_nil ?_) | (refine q_nil ?_) | (refine r_indexN hT rfl rfl rfl rfl rfl rfl rfl rfl rfl (by omega) ?_) | (refine r_ld1 hT hat rfl rfl rfl rfl rfl rfl rfl rfl rfl rfl ?_) | (refine r_call (markPairS y.A y.n y.c (x + 8 * cnt (ts.take i)) _ _ hyO (by omega) (by omega)) rfl rfl rfl rfl rfl (hC _ rfl) rfl rfl (fun _ u' hu' => ?_)) | (refine r_arith rfl rfl rfl rfl rfl rfl rfl (by omega) ?_) | (with_reducible refine r_seq ?_) | (with_reducible refine x_then ?_) | (with_reducible refine r_region ?_) | (refine r_draw hM (by kernel_rfl) ?_) | (with_reducible refine r_skip ?_) | (with_reducible refine r_ret ?_) | (with_reducible refine x_then_ret ?_) | (with_reducible refine r_block ?_) | (with_reducible refine x_block ?_) | (with_reducible refine x_block_ret ?_) | (with_reducible refine r_exit ?_) | (with_reducible refine x_then_exit ?_) | (with_reducible refine x_block_here ?_) | (refine x_block_past rfl ?_) | (refine c_yes rfl (by omega) ?_) | (refine c_no rfl (by omega) ?_) | (refine c_no rfl (fun h => h rfl) ?_) | (refine r_cond_false rfl ?_) | (refine r_cond_true rfl ?_) | (refine r_cond_dec rfl (fun _ => ?_) (fun _ => ?_)) | (refine r_cond_true rfl ?_) | (refine r_cond_false rfl ?_) | (refine c_not rfl (fun _ => ?_) (fun _ => ?_)) | (refine r_off rfl rfl rfl ?_) | (refine q_guard rfl rfl (fun _ => ?_) (fun _ => ?_)) | (refine q_guardn rfl rfl (fun _ => ?_) (fun _ => ?_)))
    obtain ⟨hu1, hu2⟩ := hu'
    refine x_round (i + 1, u') ⟨hlt, ?_, fun b hb => (hu2 b (hb y (List.mem_of_getElem? hy))).trans (hK b hb)⟩ (by simp; omega) (into rfl ⟨rfl, congrArg (fun z => some (SV.v (.int .i64 z))) (by rw [take_snoc hix', cnt_snoc]; push_cast; omega), rfl, trivial⟩ trivial rfl rfl)
    show OT u' 59 61 _ n c hs (mkAll (ts.take (i + 1)) x ++ ts.drop (i + 1))
    rw [take_snoc hix', mkAll_snoc, List.append_assoc]
    rw [hdrop] at hO
    exact hO.set (y := y) (by rw [hm1]; exact hy) (mkPrs_len _ _) (by rw [hyn] at hu1 ⊢; exact hu1) hu2
  · obtain rfl : i = ts.length := by omega
    rw [List.take_length, List.drop_length, List.append_nil] at hO
    repeat' (first | (refine r_pure hT rfl rfl rfl rfl ?_) | (refine r_new hT rfl rfl rfl rfl ?_) | (refine r_write hT rfl rfl rfl ?_) | (refine r_nil ?_) | (refine q_nil ?_) | (refine r_arith rfl rfl rfl rfl rfl rfl rfl (by omega) ?_) | (with_reducible refine r_seq ?_) | (with_reducible refine x_then ?_) | (with_reducible refine r_region ?_) | (refine r_draw hM (by kernel_rfl) ?_) | (with_reducible refine r_skip ?_) | (with_reducible refine r_ret ?_) | (with_reducible refine x_then_ret ?_) | (with_reducible refine r_block ?_) | (with_reducible refine x_block ?_) | (with_reducible refine x_block_ret ?_) | (with_reducible refine r_exit ?_) | (with_reducible refine x_then_exit ?_) | (with_reducible refine x_block_here ?_) | (refine x_block_past rfl ?_) | (refine c_yes rfl (by omega) ?_) | (refine c_no rfl (by omega) ?_) | (refine c_no rfl (fun h => h rfl) ?_) | (refine r_cond_false rfl ?_) | (refine r_cond_true rfl ?_) | (refine r_cond_dec rfl (fun _ => ?_) (fun _ => ?_)) | (refine r_cond_true rfl ?_) | (refine r_cond_false rfl ?_) | (refine c_not rfl (fun _ => ?_) (fun _ => ?_)) | (refine r_off rfl rfl rfl ?_) | (refine q_guard rfl rfl (fun _ => ?_) (fun _ => ?_)) | (refine q_guardn rfl rfl (fun _ => ?_) (fun _ => ?_)))
    refine r_fin hT rfl () rfl rfl ?_ trivial rfl ⟨hO, hK⟩
    simp [valE]
theorem markGraph (vv : V) (A : Option Addr) (n c : Nat) (hs : List Hd) (ts : List (List Pr)) (x : Int) (h : Hp) (hO : OT h 59 61 A n c hs ts) (h0 : 1 ≤ x) (h1 : x + 8 * cnt ts ≤ 2305843009213693952) (h2 : ts.length ≤ 9223372036854775807) :
    TriS Tryd.prog 42 [.ag (gsv vv A n c), .v (.int .i64 x)] [] h (fun _ : Unit => .v (.int .i64 (x + 8 * cnt ts))) (fun _ => []) (fun _ h' => OT h' 59 61 A n c hs (mkAll ts x) ∧ ∀ b, (∀ y ∈ hs, blk y.A ≠ some b) → h' b = h b) := by
  refine enterS Tryd.func42 rfl (n := 10) rfl rfl (fun k N => ?_)
  repeat' (first | (refine r_pure hT rfl rfl rfl rfl ?_) | (refine r_new hT rfl rfl rfl rfl ?_) | (refine r_write hT rfl rfl rfl ?_) | (refine r_nil ?_) | (refine q_nil ?_) | (refine r_call (markTableS A n c hs ts x _ hO h0 h1 h2) rfl rfl rfl rfl rfl (hC _ rfl) rfl rfl (fun _ u' hu' => ?_)) | (refine r_arith rfl rfl rfl rfl rfl rfl rfl (by omega) ?_) | (with_reducible refine r_seq ?_) | (with_reducible refine x_then ?_) | (with_reducible refine r_region ?_) | (refine r_draw hM (by kernel_rfl) ?_) | (with_reducible refine r_skip ?_) | (with_reducible refine r_ret ?_) | (with_reducible refine x_then_ret ?_) | (with_reducible refine r_block ?_) | (with_reducible refine x_block ?_) | (with_reducible refine x_block_ret ?_) | (with_reducible refine r_exit ?_) | (with_reducible refine x_then_exit ?_) | (with_reducible refine x_block_here ?_) | (refine x_block_past rfl ?_) | (refine c_yes rfl (by omega) ?_) | (refine c_no rfl (by omega) ?_) | (refine c_no rfl (fun h => h rfl) ?_) | (refine r_cond_false rfl ?_) | (refine r_cond_true rfl ?_) | (refine r_cond_dec rfl (fun _ => ?_) (fun _ => ?_)) | (refine r_cond_true rfl ?_) | (refine r_cond_false rfl ?_) | (refine c_not rfl (fun _ => ?_) (fun _ => ?_)) | (refine r_off rfl rfl rfl ?_) | (refine q_guard rfl rfl (fun _ => ?_) (fun _ => ?_)) | (refine q_guardn rfl rfl (fun _ => ?_) (fun _ => ?_)))
  exact r_fin hT rfl () rfl rfl rfl trivial rfl hu'
theorem heldTableS (A : Option Addr) (n c : Nat) (ts : List (List Pr)) (x : Int) (h : Hp) (hP : Tabs h A n (mkAll ts x)) (h0 : 1 ≤ x) (h1 : x + 8 * cnt ts ≤ 2305843009213693952) (h2 : ts.length ≤ 9223372036854775807) :
    Pur Tryd.prog 93 [.v (.slice A n c), .v (.int .i64 x)] h (fun y : Int => .v (.int .i64 y)) (x + 8 * cnt ts) := by
  have hn := hP.len
  rw [mkAll_len] at hn
  refine enterS Tryd.func93 rfl (n := 22) rfl rfl (fun k N => ?_)
  repeat' (first | (refine r_pure hT rfl rfl rfl rfl ?_) | (refine r_new hT rfl rfl rfl rfl ?_) | (refine r_write hT rfl rfl rfl ?_) | (refine r_nil ?_) | (refine q_nil ?_) | (refine r_arith rfl rfl rfl rfl rfl rfl rfl (by omega) ?_) | (with_reducible refine r_seq ?_) | (with_reducible refine x_then ?_) | (with_reducible refine r_region ?_) | (refine r_draw hM (by kernel_rfl) ?_) | (with_reducible refine r_skip ?_) | (with_reducible refine r_ret ?_) | (with_reducible refine x_then_ret ?_) | (with_reducible refine r_block ?_) | (with_reducible refine x_block ?_) | (with_reducible refine x_block_ret ?_) | (with_reducible refine r_exit ?_) | (with_reducible refine x_then_exit ?_) | (with_reducible refine x_block_here ?_) | (refine x_block_past rfl ?_) | (refine c_yes rfl (by omega) ?_) | (refine c_no rfl (by omega) ?_) | (refine c_no rfl (fun h => h rfl) ?_) | (refine r_cond_false rfl ?_) | (refine r_cond_true rfl ?_) | (refine r_cond_dec rfl (fun _ => ?_) (fun _ => ?_)) | (refine r_cond_true rfl ?_) | (refine r_cond_false rfl ?_) | (refine c_not rfl (fun _ => ?_) (fun _ => ?_)) | (refine r_off rfl rfl rfl ?_) | (refine q_guard rfl rfl (fun _ => ?_) (fun _ => ?_)) | (refine q_guardn rfl rfl (fun _ => ?_) (fun _ => ?_)))
  refine r_loop (γ := Nat) (fun i => i ≤ ts.length) (fun i => [(0, .v (.slice A n c)), (1, .v (.int .i64 (x + 8 * cnt (ts.take i)))), (5, .v (.int .i64 i))]) (fun _ => []) (fun _ => h) (fun i => ts.length - i)
    0 (Nat.zero_le _) (into rfl ⟨rfl, congrArg (fun z => some (SV.v (.int .i64 z))) (by simp [cnt]), rfl, trivial⟩ trivial rfl rfl) ?_
  intro i hi
  by_cases hlt : i < ts.length
  · obtain ⟨b, off, A', n', c', t', rfl, hd, hix, hm, hat, hc', hp⟩ := hP.elem (i := i) (by rw [mkAll_len]; exact hlt)
    obtain ⟨t, hix'⟩ : ∃ t, ts[i]? = some t := ⟨_, List.getElem?_eq_getElem hlt⟩
    rw [mkAll_get ts x i t hix'] at hix
    have e := Option.some.inj hix; subst e
    have hct := cnt_take ts i hix'
    obtain rfl : n' = t.length := by rw [hp.1, mkPrs_len]
    repeat' (first | (refine r_pure hT rfl rfl rfl rfl ?_) | (refine r_new hT rfl rfl rfl rfl ?_) | (refine r_write hT rfl rfl rfl ?_) | (refine r_nil ?_) | (refine q_nil ?_) | (refine r_indexN hT rfl rfl rfl rfl rfl rfl rfl rfl rfl (by omega) ?_) | (refine r_ld1 hT hat rfl rfl rfl rfl rfl rfl rfl rfl rfl rfl ?_) | (refine p_call (heldPairS A' _ c' (x + 8 * cnt (ts.take i)) _ hp (by omega) (by omega)) rfl rfl rfl rfl rfl (hC _ rfl) rfl rfl rfl ?_) | (refine r_arith rfl rfl rfl rfl rfl rfl rfl (by omega) ?_) | (with_reducible refine r_seq ?_) | (with_reducible refine x_then ?_) | (with_reducible refine r_region ?_) | (refine r_draw hM (by kernel_rfl) ?_) | (with_reducible refine r_skip ?_) | (with_reducible refine r_ret ?_) | (with_reducible refine x_then_ret ?_) | (with_reducible refine r_block ?_) | (with_reducible refine x_block ?_) | (with_reducible refine x_block_ret ?_) | (with_reducible refine r_exit ?_) | (with_reducible refine x_then_exit ?_) | (with_reducible refine x_block_here ?_) | (refine x_block_past rfl ?_) | (refine c_yes rfl (by omega) ?_) | (refine c_no rfl (by omega) ?_) | (refine c_no rfl (fun h => h rfl) ?_) | (refine r_cond_false rfl ?_) | (refine r_cond_true rfl ?_) | (refine r_cond_dec rfl (fun _ => ?_) (fun _ => ?_)) | (refine r_cond_true rfl ?_) | (refine r_cond_false rfl ?_) | (refine c_not rfl (fun _ => ?_) (fun _ => ?_)) | (refine r_off rfl rfl rfl ?_) | (refine q_guard rfl rfl (fun _ => ?_) (fun _ => ?_)) | (refine q_guardn rfl rfl (fun _ => ?_) (fun _ => ?_)))
    exact x_round (i + 1) hlt (by omega) (into rfl ⟨rfl, congrArg (fun z => some (SV.v (.int .i64 z))) (by rw [take_snoc hix', cnt_snoc]; push_cast; omega), rfl, trivial⟩ trivial rfl rfl)
  · obtain rfl : i = ts.length := by omega
    repeat' (first | (refine r_pure hT rfl rfl rfl rfl ?_) | (refine r_new hT rfl rfl rfl rfl ?_) | (refine r_write hT rfl rfl rfl ?_) | (refine r_nil ?_) | (refine q_nil ?_) | (refine r_arith rfl rfl rfl rfl rfl rfl rfl (by omega) ?_) | (with_reducible refine r_seq ?_) | (with_reducible refine x_then ?_) | (with_reducible refine r_region ?_) | (refine r_draw hM (by kernel_rfl) ?_) | (with_reducible refine r_skip ?_) | (with_reducible refine r_ret ?_) | (with_reducible refine x_then_ret ?_) | (with_reducible refine r_block ?_) | (with_reducible refine x_block ?_) | (with_reducible refine x_block_ret ?_) | (with_reducible refine r_exit ?_) | (with_reducible refine x_then_exit ?_) | (with_reducible refine x_block_here ?_) | (refine x_block_past rfl ?_) | (refine c_yes rfl (by omega) ?_) | (refine c_no rfl (by omega) ?_) | (refine c_no rfl (fun h => h rfl) ?_) | (refine r_cond_false rfl ?_) | (refine r_cond_true rfl ?_) | (refine r_cond_dec rfl (fun _ => ?_) (fun _ => ?_)) | (refine r_cond_true rfl ?_) | (refine r_cond_false rfl ?_) | (refine c_not rfl (fun _ => ?_) (fun _ => ?_)) | (refine r_off rfl rfl rfl ?_) | (refine q_guard rfl rfl (fun _ => ?_) (fun _ => ?_)) | (refine q_guardn rfl rfl (fun _ => ?_) (fun _ => ?_)))
    exact r_fin hT rfl _ rfl rfl rfl trivial rfl ⟨by rw [List.take_length], rfl⟩
theorem heldGraph (vv : V) (A : Option Addr) (n c : Nat) (ts : List (List Pr)) (x : Int) (h : Hp) (hP : Tabs h A n (mkAll ts x)) (h0 : 1 ≤ x) (h1 : x + 8 * cnt ts ≤ 2305843009213693952) (h2 : ts.length ≤ 9223372036854775807) :
    Pur Tryd.prog 49 [.ag (gsv vv A n c), .v (.int .i64 x)] h (fun y : Int => .v (.int .i64 y)) (x + 8 * cnt ts) := by
  refine enterS Tryd.func49 rfl (n := 12) rfl rfl (fun k N => ?_)
  repeat' (first | (refine r_pure hT rfl rfl rfl rfl ?_) | (refine r_new hT rfl rfl rfl rfl ?_) | (refine r_write hT rfl rfl rfl ?_) | (refine r_nil ?_) | (refine q_nil ?_) | (refine p_call (heldTableS A n c ts x _ hP h0 h1 h2) rfl rfl rfl rfl rfl (hC _ rfl) rfl rfl rfl ?_) | (refine r_arith rfl rfl rfl rfl rfl rfl rfl (by omega) ?_) | (with_reducible refine r_seq ?_) | (with_reducible refine x_then ?_) | (with_reducible refine r_region ?_) | (refine r_draw hM (by kernel_rfl) ?_) | (with_reducible refine r_skip ?_) | (with_reducible refine r_ret ?_) | (with_reducible refine x_then_ret ?_) | (with_reducible refine r_block ?_) | (with_reducible refine x_block ?_) | (with_reducible refine x_block_ret ?_) | (with_reducible refine r_exit ?_) | (with_reducible refine x_then_exit ?_) | (with_reducible refine x_block_here ?_) | (refine x_block_past rfl ?_) | (refine c_yes rfl (by omega) ?_) | (refine c_no rfl (by omega) ?_) | (refine c_no rfl (fun h => h rfl) ?_) | (refine r_cond_false rfl ?_) | (refine r_cond_true rfl ?_) | (refine r_cond_dec rfl (fun _ => ?_) (fun _ => ?_)) | (refine r_cond_true rfl ?_) | (refine r_cond_false rfl ?_) | (refine c_not rfl (fun _ => ?_) (fun _ => ?_)) | (refine r_off rfl rfl rfl ?_) | (refine q_guard rfl rfl (fun _ => ?_) (fun _ => ?_)) | (refine q_guardn rfl rfl (fun _ => ?_) (fun _ => ?_)))
  exact r_fin hT rfl _ rfl rfl rfl trivial rfl ⟨rfl, rfl⟩
end Go.Proofs.YtkamfnmbidnhdaaDoor
namespace Go.Sy
theorem q_glt {P : Program} {F : Fr} {tm : Tm} {L : Lm} {u : Hp} {Q : Exit → Act → World → Prop} {q : Md} {l r : List Oper} {o : Oper} {d : Nat} {x y : Int} (hg : guardE l o = some d) (hd : kget tm d = some (.v (.bool (decide (x < y))))) (hp : ¬ x < y) (h2 : Run P Q F ((d, .v (.bool false)) :: tm) L u q l (o :: r)) :
    Run P Q F tm L u q l (o :: r) := q_guard hg hd (fun h => absurd h hp) (fun _ => h2)
end Go.Sy
namespace Go.Proofs.YtkamfnmbidnhdaaDoor
open Go.Sy
set_option maxRecDepth 100000
set_option maxHeartbeats 4000000
set_option linter.unusedVariables false
set_option linter.unusedSimpArgs false
theorem szTsf_len : ∀ (ts : List (List Pr)) (l : Int), 0 ≤ szTsf ts l → 0 ≤ l → ∀ t ∈ ts, (t.length : Int) ≤ l
  | [], l, _, _, t, ht => by cases ht
  | s :: r, l, h, h0, t, ht => by
    have h1 := szTf_le s l h0
    have h2 : 0 ≤ szTf s l ∧ 0 ≤ szTsf r (szTf s l) := by
      simp only [szTsf] at h
      split at h
      · omega
      · exact ⟨by omega, h⟩
    rcases List.mem_cons.1 ht with rfl | ht
    · have h3 := h2.1
      unfold szTf at h3
      split at h3
      · omega
      · unfold szPairsF at h3
        split at h3 <;> omega
    · have := szTsf_len r _ h2.2 h2.1 t ht
      omega
theorem szG_len {v : V} {ts : List (List Pr)} {l : Int} (h0 : 0 ≤ l) (h : 0 ≤ szGf v ts l) : (ts.length : Int) ≤ l ∧ ∀ t ∈ ts, (t.length : Int) ≤ l := by
  have h1 := szVf_le v.s l h0
  unfold szGf at h
  split at h
  · omega
  · split at h
    · omega
    · rename_i a b
      unfold szTablesF at h b
      split at h
      · omega
      · rename_i c
        refine ⟨by omega, fun t ht => ?_⟩
        have := szTsf_len ts _ h (by omega) t ht
        omega
theorem cnt_le : ∀ (ts : List (List Pr)) (m : Nat), (∀ t ∈ ts, t.length ≤ m) → cnt ts ≤ ts.length * m
  | [], m, _ => by simp [cnt]
  | t :: r, m, h => by
    have h1 := cnt_le r m (fun s hs => h s (.tail _ hs))
    have h2 := h t (.head _)
    simp only [cnt, List.length_cons, Nat.add_mul]; omega
theorem cT_le (v : V) (ts : List (List Pr)) : (cT v ts).length ≤ 200 ∧ ∀ t ∈ cT v ts, t.length ≤ 100 := by
  unfold cT
  split
  · rename_i hg
    obtain ⟨h1, h2, h3, h4⟩ := gok_in hg
    refine ⟨by have := (ordOf_nm h1 h2).len; simp [cTs]; omega, fun t ht => ?_⟩
    simp only [cTs, List.mem_map] at ht
    obtain ⟨a, ha, rfl⟩ := ht
    have hlt := (ordOf_nm h1 h2).lt a ha
    rw [List.getD_eq_getElem?_getD, List.getElem?_eq_getElem hlt]
    simp only [Option.getD_some, List.length_map]
    exact h4 _ (List.getElem_mem hlt)
  · exact ⟨by simp, fun t ht => by cases ht⟩
theorem cT_ok (v : V) {ts : List (List Pr)} (h : okTs ts) : okTs (cT v ts) := by
  obtain ⟨g1, g2⟩ := cT_le v ts
  refine ⟨by omega, fun t ht => ⟨by have := g2 t ht; omega, fun p hp => ?_⟩⟩
  unfold cT at ht
  split at ht
  · rename_i hg
    obtain ⟨h1, h2, h3, h4⟩ := gok_in hg
    simp only [cTs, List.mem_map] at ht
    obtain ⟨a, ha, rfl⟩ := ht
    have hlt := (ordOf_nm h1 h2).lt a ha
    rw [List.getD_eq_getElem?_getD, List.getElem?_eq_getElem hlt, Option.getD_some] at hp
    obtain ⟨q, hq, rfl⟩ := List.mem_map.1 hp
    obtain ⟨k1, k2⟩ := (h.2 _ (List.getElem_mem hlt)).2 q hq
    refine ⟨k1, ?_⟩
    show (ren (ordOf ts v) q.val).okS
    unfold ren
    split
    · exact k2
    · exact k2
  · cases ht
/-- A heap stays where other rows are written. -/
theorem le_rows {u0 u u' : Hp} {A : Option Addr} {hs : List Hd} (hl : Le u0 u) (ho : OffAll u0 A hs) (hu : ∀ b, (∀ y ∈ hs, blk y.A ≠ some b) → u' b = u b) : Le u0 u' := fun b o hb => by
  rw [hu b (fun y hy e => by rw [ho.2 y hy b e] at hb; cases hb)]; exact hl b o hb
theorem ot_rows {w u u' : Hp} {A B : Option Addr} {n c m d : Nat} {hs gs : List Hd} {ts ss : List (List Pr)} (hO : OT u 59 61 A n c hs ts) (hB : OT w 59 61 B m d gs ss) (hof : OffAll w A hs) (hu : ∀ b, (∀ y ∈ gs, blk y.A ≠ some b) → u' b = u b) : OT u' 59 61 A n c hs ts :=
  hO.keep fun b o hb ho => by
    rw [hu b (fun y hy e => ?_)]
    · exact ho
    · have hlive := hB.rows.live hy e
      rcases hb with hb | ⟨x, hx, hb⟩
      · exact hlive (hof.1 b hb)
      · exact hlive (hof.2 x hx b hb)
end Go.Proofs.YtkamfnmbidnhdaaDoor
