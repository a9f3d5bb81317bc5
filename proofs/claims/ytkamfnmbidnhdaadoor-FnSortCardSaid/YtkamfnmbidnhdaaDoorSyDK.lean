/- spec's sort: how it puts two rows together. -/
import Derived.Test.YtkamfnmbidnhdaaDoorSyDJ
set_option linter.unusedVariables false
set_option linter.unusedSimpArgs false
set_option linter.unusedSectionVars false
namespace Go.Sy
section
variable {P : Program} {F : Fr} {tm : Tm} {L : Lm} {u : Hp} {Q : Exit → Act → World → Prop}
/-- Cut behind a block. -/
theorem r_cutB {γ : Type} {id : Nat} {c : Code} (I : γ → Prop) (Tf : γ → Tm) (M : γ → Lm) (U : γ → Hp) (h1 : St F tm L u (fun a w => c.wp P (Exit.inBlock id (CutQ F I Tf M U Q)) a w)) (h2 : ∀ g, I g → St F (Tf g) (M g) (U g) (Q .normal)) :
    St F tm L u (fun a w => (Code.block id c).wp P Q a w) := r_cut I Tf M U (r_block h1) h2
/-- Two ways that meet again. -/
theorem r_cutC {γ : Type} {c : Operand} {x y : Code} {p : Prop} [Decidable p] (hc : ev tm c = some (.v (.bool (decide p)))) (I : γ → Prop) (Tf : γ → Tm) (M : γ → Lm) (U : γ → Hp) (h1 : p → St F tm L u (fun a w => x.wp P (CutQ F I Tf M U Q) a w)) (h2 : ¬ p → St F tm L u (fun a w => y.wp P (CutQ F I Tf M U Q) a w))
    (h3 : ∀ g, I g → St F (Tf g) (M g) (U g) (Q .normal)) : St F tm L u (fun a w => (Code.cond c x y).wp P Q a w) := r_cut I Tf M U (r_cond_dec hc h1 h2) h3
end
/-- The row ahead makes no difference to what is asked. -/
theorem mg_out (M : Int → Int → Int) : ∀ (out a b : List Int) (q : List (Int × Int)) (pre : List Int), mg M (pre ++ out) a b q = ((mg M out a b q).1, (mg M out a b q).2.map fun l => pre ++ l) := by
  intro out a b q
  induction out, a, b, q using mg.induct (M := M) with
  | case1 out q b => intro pre; simp [mg]
  | case2 out q x a => intro pre; simp [mg]
  | case3 out q x a y b h2 => intro pre; rw [mg, mg, if_pos h2, if_pos h2]; rfl
  | case4 out q x a y b h2 h1 ih => intro pre; rw [mg, mg, if_neg h2, if_pos h1, if_neg h2, if_pos h1, ← ih pre]; simp
  | case5 out q x a y b h2 h1 ih => intro pre; rw [mg, mg, if_neg h2, if_neg h1, if_neg h2, if_neg h1, ← ih pre]; simp
theorem mg_asks (M : Int → Int → Int) : ∀ (out a b : List Int) (q : List (Int × Int)), (mg M out a b q).1.length ≤ q.length + (a.length + b.length) := by
  intro out a b q
  induction out, a, b, q using mg.induct (M := M) with
  | case1 out q b => simp [mg]
  | case2 out q x a => simp [mg]
  | case3 out q x a y b h2 => rw [mg, if_pos h2]; simp; omega
  | case4 out q x a y b h2 h1 ih => rw [mg, if_neg h2, if_pos h1]; simp at ih ⊢; omega
  | case5 out q x a y b h2 h1 ih => rw [mg, if_neg h2, if_neg h1]; simp at ih ⊢; omega
theorem rd_asks (M : Int → Int → Int) (s : Nat) (l : List Int) : ∀ (out : List Int) (i : Nat) (q : List (Int × Int)), (rd M s l out i q).1.length ≤ q.length + (l.length - i) := by
  intro out i q
  induction out, i, q using rd.induct (M := M) (s := s) (l := l) with
  | case1 out i q h q1 hm =>
    rw [rd, dif_pos h, hm]
    have h1 := mg_asks M out (sl l i (min (i + s) l.length)) (sl l (min (i + s) l.length) (min (min (i + s) l.length + s) l.length)) q
    rw [hm, sl_len _ _ _ (by omega), sl_len _ _ _ (by omega)] at h1
    dsimp only at h1 ⊢; omega
  | case2 out i q h q1 o1 hm ih =>
    rw [rd, dif_pos h, hm]
    have h1 := mg_asks M out (sl l i (min (i + s) l.length)) (sl l (min (i + s) l.length) (min (min (i + s) l.length + s) l.length)) q
    rw [hm, sl_len _ _ _ (by omega), sl_len _ _ _ (by omega)] at h1
    dsimp only at h1 ih ⊢; omega
  | case3 out i q h => rw [rd, dif_neg h]; dsimp only; omega
theorem ps_asks (M : Int → Int → Int) (n : Nat) : ∀ (s : Nat) (l : List Int) (q : List (Int × Int)), l.length ≤ n → (ps M n s l q).1.length ≤ q.length + n * (n - s) := by
  intro s l q
  induction s, l, q using ps.induct (M := M) (n := n) with
  | case1 s l q h q1 hm =>
    intro hl
    rw [ps, dif_pos h, hm]
    have h1 := rd_asks M s l [] 0 q
    rw [hm] at h1
    have h2 : n * 1 ≤ n * (n - s) := Nat.mul_le_mul_left _ (by omega)
    dsimp only at h1 ⊢; omega
  | case2 s l q h q1 l1 hm ih =>
    intro hl
    rw [ps, dif_pos h, hm]
    have h1 := rd_asks M s l [] 0 q
    rw [hm] at h1
    have h3 := rd_len M s l h.1 [] 0 q hm (by simp)
    have h4 := ih (by omega)
    have h2 : n * 1 + n * (n - s * 2) ≤ n * (n - s) := by rw [← Nat.mul_add]; exact Nat.mul_le_mul_left _ (by omega)
    dsimp only at h1 h4 ⊢; omega
  | case3 s l q h => intro hl; rw [ps, dif_neg h]; dsimp only; omega
end Go.Sy
namespace Go.Proofs.YtkamfnmbidnhdaaDoor
open Go.Sy
set_option maxRecDepth 100000
set_option maxHeartbeats 8000000
set_option linter.unusedVariables false
set_option linter.unusedSimpArgs false
/-- A row's place; what it holds; where the asked lie; what was asked; the flag. -/
abbrev MY := (Option Addr × Nat) × (List Int × ((Option Addr × Nat) × (List (Int × Int) × Bool)))
theorem ints_at {h : Hp} {A : Option Addr} {xs : List Int} {i : Nat} (hP : Ints h A xs.length xs) (hl : i < xs.length) : ∃ b off x, A = some ⟨b, off, none⟩ ∧ (xs.drop i).head? = some x ∧ x ∈ xs ∧ At h b (off + i * 1) (Ic x) := by
  obtain ⟨b, off, x, h1, h2, h3, h4, h5⟩ := hP.elem Ic_len (i := i) hl
  exact ⟨b, off, x, h1, by rw [h2]; rfl, h4, h5⟩
theorem app_one {nx xs : List Int} {i : Nat} {x : Int} (h : (xs.drop i).head? = some x) : nx ++ [x] ++ xs.drop (i + 1) = nx ++ xs.drop i := by
  cases hd : xs.drop i with
  | nil => rw [hd] at h; simp at h
  | cons a r =>
    rw [hd] at h
    simp only [List.head?_cons, Option.some.injEq] at h
    subst h
    have h2 : xs.drop (i + 1) = r := by have h3 := congrArg List.tail hd; rw [List.tail_drop] at h3; exact h3
    rw [h2]; simp
theorem mergeL (h0 : Hp) (pb : Nat) (A : Option Addr) (c : Nat) (ts : List (List Int)) (hsq : SqOk ts) (xs ys : List Int) (Aa Ab : Option Addr) (ca cb : Nat) (hxI : Ints h0 Aa xs.length xs) (hyI : Ints h0 Ab ys.length ys) (hxr : Inn ts.length xs) (hyr : Inn ts.length ys) (hlen : xs.length + ys.length ≤ 1000)
    (u : Hp) (Aq : Option Addr) (cq : Nat) (q : List (Int × Int)) (hQ : LSt h0 u pb A c ts Aq cq q false) (hq : q.length ≤ 100000000) (MG : List (Int × Int) × Option (List Int)) (hMG : mg (Mof ts) [] xs ys q = MG) :
    TriS Tryd.prog 55 [.v (ptr pb), .v (.slice Aa xs.length ca), .v (.slice Ab ys.length cb)] [] u (fun y : MY => .v (.slice y.1.1 y.2.1.length y.1.2)) (fun _ => [])
      (fun y u' => NLt h0 u' pb A c ts y.2.2.1.1 y.2.2.1.2 y.2.2.2.1 y.2.2.2.2 y.1.1 y.1.2 y.2.1 ∧ ((MG = (y.2.2.2.1, some y.2.1) ∧ y.2.2.2.2 = false) ∨ (MG = (y.2.2.2.1, none) ∧ y.2.2.2.2 = true)) ∧ y.2.1.length = xs.length + ys.length ∧ y.2.2.2.1.length ≤ q.length + y.2.1.length) := by
  refine enterS Tryd.func55 rfl (n := 82) rfl rfl (fun k N => ?_)
  repeat' (first | (refine r_pure hT rfl rfl rfl rfl ?_) | (refine r_new hT rfl rfl rfl rfl ?_) | (refine r_write hT rfl rfl rfl ?_) | (refine r_nil ?_) | (refine q_nil ?_) | (refine r_cutB (id := 0) (γ := ((Nat × Nat) × Hp) × MY) (fun g => g.1.1.1 ≤ xs.length ∧ g.1.1.2 ≤ ys.length ∧ g.2.2.1.length = g.1.1.1 + g.1.1.2 ∧ NLt h0 g.1.2 pb A c ts g.2.2.2.1.1 g.2.2.2.1.2 g.2.2.2.2.1 g.2.2.2.2.2 g.2.1.1 g.2.1.2 g.2.2.1 ∧ ((g.2.2.2.2.2 = false ∧ MG = (g.2.2.2.2.1, some (g.2.2.1 ++ xs.drop g.1.1.1 ++ ys.drop g.1.1.2))) ∨ (g.2.2.2.2.2 = true ∧ MG = (g.2.2.2.2.1, none))) ∧ g.2.2.2.2.1.length ≤ q.length + g.2.2.1.length) (fun g => [(1, .v (.slice Aa xs.length ca)), (2, .v (.slice Ab ys.length cb)), (7, .v (.slice g.2.1.1 g.2.2.1.length g.2.1.2)), (8, .v (.int .i64 g.1.1.1)), (9, .v (.int .i64 g.1.1.2))]) (fun _ => []) (fun g => g.1.2) ?_ ?_) | (refine r_arith rfl rfl rfl rfl rfl rfl rfl (by omega) ?_) | (with_reducible refine r_seq ?_) | (with_reducible refine x_then ?_) | (with_reducible refine r_region ?_) | (refine r_draw hM (by kernel_rfl) ?_) | (with_reducible refine r_skip ?_) | (with_reducible refine r_ret ?_) | (with_reducible refine x_then_ret ?_) | (with_reducible refine r_block ?_) | (with_reducible refine x_block ?_) | (with_reducible refine x_block_ret ?_) | (with_reducible refine r_exit ?_) | (with_reducible refine x_then_exit ?_) | (with_reducible refine x_block_here ?_) | (refine x_block_past rfl ?_) | (refine c_yes rfl (by omega) ?_) | (refine c_no rfl (by omega) ?_) | (refine c_no rfl (fun h => h rfl) ?_) | (refine r_cond_false rfl ?_) | (refine r_cond_true rfl ?_) | (refine r_cond_dec rfl (fun _ => ?_) (fun _ => ?_)) | (refine r_cond_true rfl ?_) | (refine r_cond_false rfl ?_) | (refine c_not rfl (fun _ => ?_) (fun _ => ?_)) | (refine r_off rfl rfl rfl ?_) | (refine q_guard rfl rfl (fun _ => ?_) (fun _ => ?_)) | (refine q_guardn rfl rfl (fun _ => ?_) (fun _ => ?_)))
  · refine r_loop (γ := ((Nat × Nat) × Hp) × MY) (fun g => g.1.1.1 ≤ xs.length ∧ g.1.1.2 ≤ ys.length ∧ g.2.2.1.length = g.1.1.1 + g.1.1.2 ∧ NLt h0 g.1.2 pb A c ts g.2.2.2.1.1 g.2.2.2.1.2 g.2.2.2.2.1 g.2.2.2.2.2 g.2.1.1 g.2.1.2 g.2.2.1 ∧
        ((g.2.2.2.2.2 = false ∧ mg (Mof ts) g.2.2.1 (xs.drop g.1.1.1) (ys.drop g.1.1.2) g.2.2.2.2.1 = MG) ∨ (g.2.2.2.2.2 = true ∧ MG = (g.2.2.2.2.1, none))) ∧ g.2.2.2.2.1.length ≤ q.length + g.2.2.1.length)
      (fun g => [(0, .v (ptr pb)), (1, .v (.slice Aa xs.length ca)), (2, .v (.slice Ab ys.length cb)), (7, .v (.slice g.2.1.1 g.2.2.1.length g.2.1.2)), (8, .v (.int .i64 g.1.1.1)), (9, .v (.int .i64 g.1.1.2))]) (fun _ => []) (fun g => g.1.2) (fun g => xs.length - g.1.1.1 + (ys.length - g.1.1.2))
      (((0, 0), u), ((none, 0), ([], ((Aq, cq), (q, false))))) ⟨Nat.zero_le _, Nat.zero_le _, rfl, ⟨hQ, own_nil, off_nil, fun b hb => (by cases hb)⟩, .inl ⟨rfl, hMG⟩, Nat.le_add_right _ _⟩ (into rfl ⟨rfl, rfl, rfl, rfl, rfl, rfl, trivial⟩ trivial rfl rfl) ?_
    clear hMG hQ
    rintro ⟨⟨⟨i, j⟩, v⟩, ⟨⟨An, cn⟩, ⟨nx, ⟨⟨Aq1, cq1⟩, ⟨q1, fl⟩⟩⟩⟩⟩ ⟨hi, hj, hnl, hN, hcase, hq1⟩
    dsimp only at *
    have hatW := hN.qs.at_
    have hleB := hN.qs.base
    have hgo : ∀ (g : ((Nat × Nat) × Hp) × MY), g = (((i, j), v), ((An, cn), (nx, ((Aq1, cq1), (q1, fl))))) → (xs.length ≤ i ∨ ys.length ≤ j ∨ fl = true) → g.1.1.1 ≤ xs.length ∧ g.1.1.2 ≤ ys.length ∧ g.2.2.1.length = g.1.1.1 + g.1.1.2 ∧ NLt h0 g.1.2 pb A c ts g.2.2.2.1.1 g.2.2.2.1.2 g.2.2.2.2.1 g.2.2.2.2.2 g.2.1.1 g.2.1.2 g.2.2.1 ∧
        ((g.2.2.2.2.2 = false ∧ MG = (g.2.2.2.2.1, some (g.2.2.1 ++ xs.drop g.1.1.1 ++ ys.drop g.1.1.2))) ∨ (g.2.2.2.2.2 = true ∧ MG = (g.2.2.2.2.1, none))) ∧ g.2.2.2.2.1.length ≤ q.length + g.2.2.1.length := by
      rintro g rfl hend
      refine ⟨hi, hj, hnl, hN, ?_, hq1⟩
      rcases hcase with ⟨e1, e2⟩ | h
      · refine .inl ⟨e1, ?_⟩
        rw [← e2]
        exact mg_end (by simp only [List.length_drop]; rcases hend with h | h | h; exact .inl (by omega); exact .inr (by omega); rw [e1] at h; cases h)
      · exact .inr h
    by_cases hi2 : i < xs.length
    · by_cases hj2 : j < ys.length
      · cases fl with
        | true =>
          repeat' (first | (refine r_pure hT rfl rfl rfl rfl ?_) | (refine r_new hT rfl rfl rfl rfl ?_) | (refine r_write hT rfl rfl rfl ?_) | (refine r_nil ?_) | (refine q_nil ?_) | (refine q_gyes rfl rfl (by omega) ?_) | (refine r_load hT hatW rfl rfl rfl rfl rfl rfl rfl rfl rfl rfl rfl ?_) | (refine r_arith rfl rfl rfl rfl rfl rfl rfl (by omega) ?_) | (with_reducible refine r_seq ?_) | (with_reducible refine x_then ?_) | (with_reducible refine r_region ?_) | (refine r_draw hM (by kernel_rfl) ?_) | (with_reducible refine r_skip ?_) | (with_reducible refine r_ret ?_) | (with_reducible refine x_then_ret ?_) | (with_reducible refine r_block ?_) | (with_reducible refine x_block ?_) | (with_reducible refine x_block_ret ?_) | (with_reducible refine r_exit ?_) | (with_reducible refine x_then_exit ?_) | (with_reducible refine x_block_here ?_) | (refine x_block_past rfl ?_) | (refine c_yes rfl (by omega) ?_) | (refine c_no rfl (by omega) ?_) | (refine c_no rfl (fun h => h rfl) ?_) | (refine r_cond_false rfl ?_) | (refine r_cond_true rfl ?_) | (refine r_cond_dec rfl (fun _ => ?_) (fun _ => ?_)) | (refine r_cond_true rfl ?_) | (refine r_cond_false rfl ?_) | (refine c_not rfl (fun _ => ?_) (fun _ => ?_)) | (refine r_off rfl rfl rfl ?_) | (refine q_guard rfl rfl (fun _ => ?_) (fun _ => ?_)) | (refine q_guardn rfl rfl (fun _ => ?_) (fun _ => ?_)))
          exact x_cut (γ := ((Nat × Nat) × Hp) × MY) _ (hgo _ rfl (.inr (.inr rfl))) (into rfl ⟨rfl, rfl, rfl, rfl, rfl, trivial⟩ trivial rfl rfl)
        | false =>
          obtain ⟨bx, ox, x, rfl, hxh, hxm, hxa⟩ := ints_at hxI hi2
          obtain ⟨by', oy, y, rfl, hyh, hym, hya⟩ := ints_at hyI hj2
          have hmg : mg (Mof ts) nx (xs.drop i) (ys.drop j) q1 = MG := by
            rcases hcase with ⟨_, h⟩ | ⟨h, _⟩
            · exact h
            · cases h
          clear hcase hgo
          rw [mg_step hxh hyh, List.tail_drop, List.tail_drop] at hmg
          have hask := askL h0 pb A c ts hsq y x (hyr y hym) (hxr x hxm) v Aq1 cq1 q1 hN.qs (by omega)
          by_cases h1 : Mof ts y x = 1
          · have e1 : decide (Mof ts y x = 2) = false := by simp [h1]
            rw [if_neg (by omega), if_pos h1] at hmg
            rw [e1] at hask
            repeat' (first | (refine r_pure hT rfl rfl rfl rfl ?_) | (refine r_new hT rfl rfl rfl rfl ?_) | (refine r_write hT rfl rfl rfl ?_) | (refine r_nil ?_) | (refine q_nil ?_) | (refine q_gyes rfl rfl (by omega) ?_) | (refine r_load hT hatW rfl rfl rfl rfl rfl rfl rfl rfl rfl rfl rfl ?_) | (refine r_many (id := 5) [0, 1, 2, 3, 4, 5, 6, 7, 8] [] h0 hleB hM (by kernel_rfl) rfl (by kernel_rfl) rfl rfl rfl (fun β0 => ?_)) | (refine r_indexN hT rfl rfl rfl rfl rfl rfl rfl rfl rfl (by omega) ?_) | (refine r_load hT hya rfl rfl rfl rfl rfl (Nat.add_zero _).symm rfl rfl rfl rfl rfl ?_) | (refine r_load hT hxa rfl rfl rfl rfl rfl (Nat.add_zero _).symm rfl rfl rfl rfl rfl ?_) | ((refine r_call hask rfl rfl rfl rfl rfl (hC _ rfl) rfl rfl (fun ya uy hy2 => ?_) ; have hleB := hy2.1.base)) | (refine m_keep hleB trivial rfl rfl ?_) | (refine r_arith rfl rfl rfl rfl rfl rfl rfl (by omega) ?_) | (with_reducible refine r_seq ?_) | (with_reducible refine x_then ?_) | (with_reducible refine r_region ?_) | (with_reducible refine r_skip ?_) | (with_reducible refine r_ret ?_) | (with_reducible refine x_then_ret ?_) | (with_reducible refine r_block ?_) | (with_reducible refine x_block ?_) | (with_reducible refine x_block_ret ?_) | (with_reducible refine r_exit ?_) | (with_reducible refine x_then_exit ?_) | (with_reducible refine x_block_here ?_) | (refine x_block_past rfl ?_) | (refine c_yes rfl (by omega) ?_) | (refine c_no rfl (by omega) ?_) | (refine c_no rfl (fun h => h rfl) ?_) | (refine r_cond_false rfl ?_) | (refine r_cond_true rfl ?_) | (refine r_cond_dec rfl (fun _ => ?_) (fun _ => ?_)) | (refine r_cond_true rfl ?_) | (refine r_cond_false rfl ?_) | (refine c_not rfl (fun _ => ?_) (fun _ => ?_)) | (refine r_off rfl rfl rfl ?_) | (refine q_guard rfl rfl (fun _ => ?_) (fun _ => ?_)) | (refine q_guardn rfl rfl (fun _ => ?_) (fun _ => ?_)) | (refine s_nil ?_) | (with_reducible refine a_full ?_) | (refine m_step rfl rfl (List.cons_ne_nil _ _) ?_) | (refine allR_cons rfl ?_ ?_) | (exact allR_nil) | (refine m_end rfl rfl rfl ?_))
            have hN4 := hN.ask hy2.1 hy2.2
            repeat' (first | (refine r_pure hT rfl rfl rfl rfl ?_) | (refine r_new hT rfl rfl rfl rfl ?_) | (refine r_write hT rfl rfl rfl ?_) | (refine r_nil ?_) | (refine q_nil ?_) | (refine c_yes rfl h1 ?_) | (refine r_indexN hT rfl rfl rfl rfl rfl rfl rfl rfl rfl (by omega) ?_) | (refine r_load hT (hya.le hy2.1.base) rfl rfl rfl rfl rfl (Nat.add_zero _).symm rfl rfl rfl rfl rfl ?_) | (refine r_bslice hT (ps := [(0, .tmp 41)]) rfl rfl rfl rfl rfl rfl rfl (by simp) rfl rfl (by decide) (fun b2 hb2 => ?_)) | (refine r_append hT (cs := nx.flatMap Ic) (news := Ic y) rfl rfl rfl rfl rfl rfl rfl rfl rfl rfl rfl (hN4.nl.le fun b o hb ho => by rw [upd_ne (fun e => by subst e; rw [hb2] at ho; cases ho)]; exact ho) (sl_all (upd_here ..) rfl) (by intro v hv; simp [Ic] at hv; subst hv; rfl) (by dsimp only; omega) (by omega) (fun A' c' u5 hO5 hG5 => ?_)) | (refine r_arith rfl rfl rfl rfl rfl rfl rfl (by omega) ?_) | (with_reducible refine r_seq ?_) | (with_reducible refine x_then ?_) | (with_reducible refine r_region ?_) | (refine r_draw hM (by kernel_rfl) ?_) | (with_reducible refine r_skip ?_) | (with_reducible refine r_ret ?_) | (with_reducible refine x_then_ret ?_) | (with_reducible refine r_block ?_) | (with_reducible refine x_block ?_) | (with_reducible refine x_block_ret ?_) | (with_reducible refine r_exit ?_) | (with_reducible refine x_then_exit ?_) | (with_reducible refine x_block_here ?_) | (refine x_block_past rfl ?_) | (refine c_yes rfl (by omega) ?_) | (refine c_no rfl (by omega) ?_) | (refine c_no rfl (fun h => h rfl) ?_) | (refine r_cond_false rfl ?_) | (refine r_cond_true rfl ?_) | (refine r_cond_dec rfl (fun _ => ?_) (fun _ => ?_)) | (refine r_cond_true rfl ?_) | (refine r_cond_false rfl ?_) | (refine c_not rfl (fun _ => ?_) (fun _ => ?_)) | (refine r_off rfl rfl rfl ?_) | (refine q_guard rfl rfl (fun _ => ?_) (fun _ => ?_)) | (refine q_guardn rfl rfl (fun _ => ?_) (fun _ => ?_)))
            exact x_round (((i, j + 1), u5), ((A', c'), (nx ++ [y], (ya, (q1 ++ [(y, x)], false))))) ⟨hi, hj2, by simp; omega, (hN4.app ((Le.refl _).upd hb2) hG5 (by simpa using hO5) (by simp)).1, .inl ⟨rfl, hmg⟩, by simp; omega⟩ (by simp; omega)
              (into rfl ⟨rfl, rfl, rfl, congrArg (fun z => some (SV.v (.slice A' z c'))) (by simp), rfl, rfl, trivial⟩ trivial rfl rfl)
          · have hfl : (decide (Mof ts y x = 2) = false ∧ mg (Mof ts) (nx ++ [x]) (xs.drop (i + 1)) (ys.drop j) (q1 ++ [(y, x)]) = MG) ∨ (decide (Mof ts y x = 2) = true ∧ MG = (q1 ++ [(y, x)], none)) := by
              by_cases h2 : Mof ts y x = 2
              · rw [if_pos h2] at hmg
                exact .inr ⟨by simp [h2], hmg.symm⟩
              · rw [if_neg h2, if_neg h1] at hmg
                exact .inl ⟨by simp [h2], hmg⟩
            generalize decide (Mof ts y x = 2) = fl' at *
            repeat' (first | (refine r_pure hT rfl rfl rfl rfl ?_) | (refine r_new hT rfl rfl rfl rfl ?_) | (refine r_write hT rfl rfl rfl ?_) | (refine r_nil ?_) | (refine q_nil ?_) | (refine q_gyes rfl rfl (by omega) ?_) | (refine r_load hT hatW rfl rfl rfl rfl rfl rfl rfl rfl rfl rfl rfl ?_) | (refine r_many (id := 5) [0, 1, 2, 3, 4, 5, 6, 7, 8] [] h0 hleB hM (by kernel_rfl) rfl (by kernel_rfl) rfl rfl rfl (fun β0 => ?_)) | (refine r_indexN hT rfl rfl rfl rfl rfl rfl rfl rfl rfl (by omega) ?_) | (refine r_load hT hya rfl rfl rfl rfl rfl (Nat.add_zero _).symm rfl rfl rfl rfl rfl ?_) | (refine r_load hT hxa rfl rfl rfl rfl rfl (Nat.add_zero _).symm rfl rfl rfl rfl rfl ?_) | ((refine r_call hask rfl rfl rfl rfl rfl (hC _ rfl) rfl rfl (fun ya uy hy2 => ?_) ; have hleB := hy2.1.base)) | (refine m_keep hleB trivial rfl rfl ?_) | (refine r_arith rfl rfl rfl rfl rfl rfl rfl (by omega) ?_) | (with_reducible refine r_seq ?_) | (with_reducible refine x_then ?_) | (with_reducible refine r_region ?_) | (with_reducible refine r_skip ?_) | (with_reducible refine r_ret ?_) | (with_reducible refine x_then_ret ?_) | (with_reducible refine r_block ?_) | (with_reducible refine x_block ?_) | (with_reducible refine x_block_ret ?_) | (with_reducible refine r_exit ?_) | (with_reducible refine x_then_exit ?_) | (with_reducible refine x_block_here ?_) | (refine x_block_past rfl ?_) | (refine c_yes rfl (by omega) ?_) | (refine c_no rfl (by omega) ?_) | (refine c_no rfl (fun h => h rfl) ?_) | (refine r_cond_false rfl ?_) | (refine r_cond_true rfl ?_) | (refine r_cond_dec rfl (fun _ => ?_) (fun _ => ?_)) | (refine r_cond_true rfl ?_) | (refine r_cond_false rfl ?_) | (refine c_not rfl (fun _ => ?_) (fun _ => ?_)) | (refine r_off rfl rfl rfl ?_) | (refine q_guard rfl rfl (fun _ => ?_) (fun _ => ?_)) | (refine q_guardn rfl rfl (fun _ => ?_) (fun _ => ?_)) | (refine s_nil ?_) | (with_reducible refine a_full ?_) | (refine m_step rfl rfl (List.cons_ne_nil _ _) ?_) | (refine allR_cons rfl ?_ ?_) | (exact allR_nil) | (refine m_end rfl rfl rfl ?_))
            have hN4 := hN.ask hy2.1 hy2.2
            repeat' (first | (refine r_pure hT rfl rfl rfl rfl ?_) | (refine r_new hT rfl rfl rfl rfl ?_) | (refine r_write hT rfl rfl rfl ?_) | (refine r_nil ?_) | (refine q_nil ?_) | (refine c_no rfl h1 ?_) | (refine r_indexN hT rfl rfl rfl rfl rfl rfl rfl rfl rfl (by omega) ?_) | (refine r_load hT (hxa.le hy2.1.base) rfl rfl rfl rfl rfl (Nat.add_zero _).symm rfl rfl rfl rfl rfl ?_) | (refine r_bslice hT (ps := [(0, .tmp 50)]) rfl rfl rfl rfl rfl rfl rfl (by simp) rfl rfl (by decide) (fun b2 hb2 => ?_)) | (refine r_append hT (cs := nx.flatMap Ic) (news := Ic x) rfl rfl rfl rfl rfl rfl rfl rfl rfl rfl rfl (hN4.nl.le fun b o hb ho => by rw [upd_ne (fun e => by subst e; rw [hb2] at ho; cases ho)]; exact ho) (sl_all (upd_here ..) rfl) (by intro v hv; simp [Ic] at hv; subst hv; rfl) (by dsimp only; omega) (by omega) (fun A' c' u5 hO5 hG5 => ?_)) | (refine r_arith rfl rfl rfl rfl rfl rfl rfl (by omega) ?_) | (with_reducible refine r_seq ?_) | (with_reducible refine x_then ?_) | (with_reducible refine r_region ?_) | (refine r_draw hM (by kernel_rfl) ?_) | (with_reducible refine r_skip ?_) | (with_reducible refine r_ret ?_) | (with_reducible refine x_then_ret ?_) | (with_reducible refine r_block ?_) | (with_reducible refine x_block ?_) | (with_reducible refine x_block_ret ?_) | (with_reducible refine r_exit ?_) | (with_reducible refine x_then_exit ?_) | (with_reducible refine x_block_here ?_) | (refine x_block_past rfl ?_) | (refine c_yes rfl (by omega) ?_) | (refine c_no rfl (by omega) ?_) | (refine c_no rfl (fun h => h rfl) ?_) | (refine r_cond_false rfl ?_) | (refine r_cond_true rfl ?_) | (refine r_cond_dec rfl (fun _ => ?_) (fun _ => ?_)) | (refine r_cond_true rfl ?_) | (refine r_cond_false rfl ?_) | (refine c_not rfl (fun _ => ?_) (fun _ => ?_)) | (refine r_off rfl rfl rfl ?_) | (refine q_guard rfl rfl (fun _ => ?_) (fun _ => ?_)) | (refine q_guardn rfl rfl (fun _ => ?_) (fun _ => ?_)))
            exact x_round (((i + 1, j), u5), ((A', c'), (nx ++ [x], (ya, (q1 ++ [(y, x)], fl'))))) ⟨hi2, hj, by simp; omega, (hN4.app ((Le.refl _).upd hb2) hG5 (by simpa using hO5) (by simp)).1, hfl, by simp; omega⟩ (by simp; omega)
              (into rfl ⟨rfl, rfl, rfl, congrArg (fun z => some (SV.v (.slice A' z c'))) (by simp), rfl, rfl, trivial⟩ trivial rfl rfl)
      · repeat' (first | (refine r_pure hT rfl rfl rfl rfl ?_) | (refine r_new hT rfl rfl rfl rfl ?_) | (refine r_write hT rfl rfl rfl ?_) | (refine r_nil ?_) | (refine q_nil ?_) | (refine q_gyes rfl rfl (by omega) ?_) | (refine q_gno rfl rfl (by omega) ?_) | (refine r_arith rfl rfl rfl rfl rfl rfl rfl (by omega) ?_) | (with_reducible refine r_seq ?_) | (with_reducible refine x_then ?_) | (with_reducible refine r_region ?_) | (refine r_draw hM (by kernel_rfl) ?_) | (with_reducible refine r_skip ?_) | (with_reducible refine r_ret ?_) | (with_reducible refine x_then_ret ?_) | (with_reducible refine r_block ?_) | (with_reducible refine x_block ?_) | (with_reducible refine x_block_ret ?_) | (with_reducible refine r_exit ?_) | (with_reducible refine x_then_exit ?_) | (with_reducible refine x_block_here ?_) | (refine x_block_past rfl ?_) | (refine c_yes rfl (by omega) ?_) | (refine c_no rfl (by omega) ?_) | (refine c_no rfl (fun h => h rfl) ?_) | (refine r_cond_false rfl ?_) | (refine r_cond_true rfl ?_) | (refine r_cond_dec rfl (fun _ => ?_) (fun _ => ?_)) | (refine r_cond_true rfl ?_) | (refine r_cond_false rfl ?_) | (refine c_not rfl (fun _ => ?_) (fun _ => ?_)) | (refine r_off rfl rfl rfl ?_) | (refine q_guard rfl rfl (fun _ => ?_) (fun _ => ?_)) | (refine q_guardn rfl rfl (fun _ => ?_) (fun _ => ?_)))
        exact x_cut (γ := ((Nat × Nat) × Hp) × MY) _ (hgo _ rfl (.inr (.inl (by omega)))) (into rfl ⟨rfl, rfl, rfl, rfl, rfl, trivial⟩ trivial rfl rfl)
    · repeat' (first | (refine r_pure hT rfl rfl rfl rfl ?_) | (refine r_new hT rfl rfl rfl rfl ?_) | (refine r_write hT rfl rfl rfl ?_) | (refine r_nil ?_) | (refine q_nil ?_) | (refine q_gno rfl rfl (by omega) ?_) | (refine r_arith rfl rfl rfl rfl rfl rfl rfl (by omega) ?_) | (with_reducible refine r_seq ?_) | (with_reducible refine x_then ?_) | (with_reducible refine r_region ?_) | (refine r_draw hM (by kernel_rfl) ?_) | (with_reducible refine r_skip ?_) | (with_reducible refine r_ret ?_) | (with_reducible refine x_then_ret ?_) | (with_reducible refine r_block ?_) | (with_reducible refine x_block ?_) | (with_reducible refine x_block_ret ?_) | (with_reducible refine r_exit ?_) | (with_reducible refine x_then_exit ?_) | (with_reducible refine x_block_here ?_) | (refine x_block_past rfl ?_) | (refine c_yes rfl (by omega) ?_) | (refine c_no rfl (by omega) ?_) | (refine c_no rfl (fun h => h rfl) ?_) | (refine r_cond_false rfl ?_) | (refine r_cond_true rfl ?_) | (refine r_cond_dec rfl (fun _ => ?_) (fun _ => ?_)) | (refine r_cond_true rfl ?_) | (refine r_cond_false rfl ?_) | (refine c_not rfl (fun _ => ?_) (fun _ => ?_)) | (refine r_off rfl rfl rfl ?_) | (refine q_guard rfl rfl (fun _ => ?_) (fun _ => ?_)) | (refine q_guardn rfl rfl (fun _ => ?_) (fun _ => ?_)))
      exact x_cut (γ := ((Nat × Nat) × Hp) × MY) _ (hgo _ rfl (.inl (by omega))) (into rfl ⟨rfl, rfl, rfl, rfl, rfl, trivial⟩ trivial rfl rfl)
  · clear hMG hQ
    rintro ⟨⟨⟨i, j⟩, v⟩, ⟨⟨An, cn⟩, ⟨nx, ⟨⟨Aq1, cq1⟩, ⟨q1, fl⟩⟩⟩⟩⟩ ⟨hi, hj, hnl, hN, hcase, hq1⟩
    dsimp only at *
    repeat' (first | (refine r_pure hT rfl rfl rfl rfl ?_) | (refine r_new hT rfl rfl rfl rfl ?_) | (refine r_write hT rfl rfl rfl ?_) | (refine r_nil ?_) | (refine q_nil ?_) | (refine r_arith rfl rfl rfl rfl rfl rfl rfl (by omega) ?_) | (with_reducible refine r_seq ?_) | (with_reducible refine x_then ?_) | (with_reducible refine r_region ?_) | (refine r_draw hM (by kernel_rfl) ?_) | (with_reducible refine r_skip ?_) | (with_reducible refine r_ret ?_) | (with_reducible refine x_then_ret ?_) | (with_reducible refine r_block ?_) | (with_reducible refine x_block ?_) | (with_reducible refine x_block_ret ?_) | (with_reducible refine r_exit ?_) | (with_reducible refine x_then_exit ?_) | (with_reducible refine x_block_here ?_) | (refine x_block_past rfl ?_) | (refine c_yes rfl (by omega) ?_) | (refine c_no rfl (by omega) ?_) | (refine c_no rfl (fun h => h rfl) ?_) | (refine r_cond_false rfl ?_) | (refine r_cond_true rfl ?_) | (refine r_cond_dec rfl (fun _ => ?_) (fun _ => ?_)) | (refine r_cond_true rfl ?_) | (refine r_cond_false rfl ?_) | (refine c_not rfl (fun _ => ?_) (fun _ => ?_)) | (refine r_off rfl rfl rfl ?_) | (refine q_guard rfl rfl (fun _ => ?_) (fun _ => ?_)) | (refine q_guardn rfl rfl (fun _ => ?_) (fun _ => ?_)))
    generalize hL : nx ++ xs.drop i ++ ys.drop j = Lst at *
    have hLl : Lst.length = xs.length + ys.length := by rw [← hL]; simp; omega
    have hnle : nx.length ≤ Lst.length := by rw [← hL]; simp
    refine r_loop (γ := (Nat × Hp) × ((Option Addr × Nat) × List Int)) (fun g => g.1.1 ≤ xs.length ∧ NLt h0 g.1.2 pb A c ts Aq1 cq1 q1 fl g.2.1.1 g.2.1.2 g.2.2 ∧ g.2.2 ++ xs.drop g.1.1 ++ ys.drop j = Lst)
      (fun g => [(1, .v (.slice Aa xs.length ca)), (2, .v (.slice Ab ys.length cb)), (7, .v (.slice g.2.1.1 g.2.2.length g.2.1.2)), (8, .v (.int .i64 g.1.1)), (9, .v (.int .i64 j))]) (fun _ => []) (fun g => g.1.2) (fun g => xs.length - g.1.1)
      ((i, v), ((An, cn), nx)) ⟨hi, hN, hL⟩ (into rfl ⟨rfl, rfl, rfl, rfl, rfl, trivial⟩ trivial rfl rfl) ?_
    clear hL hN hi hnl
    rintro ⟨⟨i2, v2⟩, ⟨⟨An2, cn2⟩, nx2⟩⟩ ⟨hi2, hN2, hL2⟩
    dsimp only at *
    have hnx2 : nx2.length ≤ 1000 := by have := congrArg List.length hL2; simp at this; omega
    by_cases hlt : i2 < xs.length
    · obtain ⟨bx, ox, x, rfl, hxh, hxm, hxa⟩ := ints_at hxI hlt
      repeat' (first | (refine r_pure hT rfl rfl rfl rfl ?_) | (refine r_new hT rfl rfl rfl rfl ?_) | (refine r_write hT rfl rfl rfl ?_) | (refine r_nil ?_) | (refine q_nil ?_) | (refine r_indexN hT rfl rfl rfl rfl rfl rfl rfl rfl rfl (by omega) ?_) | (refine r_load hT (hxa.le hN2.qs.base) rfl rfl rfl rfl rfl (Nat.add_zero _).symm rfl rfl rfl rfl rfl ?_) | (refine r_bslice hT (ps := [(0, .tmp 65)]) rfl rfl rfl rfl rfl rfl rfl (by simp) rfl rfl (by decide) (fun b2 hb2 => ?_)) | (refine r_append hT (cs := nx2.flatMap Ic) (news := Ic x) rfl rfl rfl rfl rfl rfl rfl rfl rfl rfl rfl (hN2.nl.le fun b o hb ho => by rw [upd_ne (fun e => by subst e; rw [hb2] at ho; cases ho)]; exact ho) (sl_all (upd_here ..) rfl) (by intro v hv; simp [Ic] at hv; subst hv; rfl) (by dsimp only; omega) (by omega) (fun A' c' u5 hO5 hG5 => ?_)) | (refine r_arith rfl rfl rfl rfl rfl rfl rfl (by omega) ?_) | (with_reducible refine r_seq ?_) | (with_reducible refine x_then ?_) | (with_reducible refine r_region ?_) | (refine r_draw hM (by kernel_rfl) ?_) | (with_reducible refine r_skip ?_) | (with_reducible refine r_ret ?_) | (with_reducible refine x_then_ret ?_) | (with_reducible refine r_block ?_) | (with_reducible refine x_block ?_) | (with_reducible refine x_block_ret ?_) | (with_reducible refine r_exit ?_) | (with_reducible refine x_then_exit ?_) | (with_reducible refine x_block_here ?_) | (refine x_block_past rfl ?_) | (refine c_yes rfl (by omega) ?_) | (refine c_no rfl (by omega) ?_) | (refine c_no rfl (fun h => h rfl) ?_) | (refine r_cond_false rfl ?_) | (refine r_cond_true rfl ?_) | (refine r_cond_dec rfl (fun _ => ?_) (fun _ => ?_)) | (refine r_cond_true rfl ?_) | (refine r_cond_false rfl ?_) | (refine c_not rfl (fun _ => ?_) (fun _ => ?_)) | (refine r_off rfl rfl rfl ?_) | (refine q_guard rfl rfl (fun _ => ?_) (fun _ => ?_)) | (refine q_guardn rfl rfl (fun _ => ?_) (fun _ => ?_)))
      exact x_round ((i2 + 1, u5), ((A', c'), nx2 ++ [x])) ⟨hlt, (hN2.app ((Le.refl _).upd hb2) hG5 (by simpa using hO5) (by simp)).1, by rw [app_one hxh]; exact hL2⟩ (by simp; omega)
        (into rfl ⟨rfl, rfl, congrArg (fun z => some (SV.v (.slice A' z c'))) (by simp), rfl, rfl, trivial⟩ trivial rfl rfl)
    · rw [List.drop_eq_nil_of_le (by omega), List.append_nil] at hL2
      repeat' (first | (refine r_pure hT rfl rfl rfl rfl ?_) | (refine r_new hT rfl rfl rfl rfl ?_) | (refine r_write hT rfl rfl rfl ?_) | (refine r_nil ?_) | (refine q_nil ?_) | (refine r_arith rfl rfl rfl rfl rfl rfl rfl (by omega) ?_) | (with_reducible refine r_seq ?_) | (with_reducible refine x_then ?_) | (with_reducible refine r_region ?_) | (refine r_draw hM (by kernel_rfl) ?_) | (with_reducible refine r_skip ?_) | (with_reducible refine r_ret ?_) | (with_reducible refine x_then_ret ?_) | (with_reducible refine r_block ?_) | (with_reducible refine x_block ?_) | (with_reducible refine x_block_ret ?_) | (with_reducible refine r_exit ?_) | (with_reducible refine x_then_exit ?_) | (with_reducible refine x_block_here ?_) | (refine x_block_past rfl ?_) | (refine c_yes rfl (by omega) ?_) | (refine c_no rfl (by omega) ?_) | (refine c_no rfl (fun h => h rfl) ?_) | (refine r_cond_false rfl ?_) | (refine r_cond_true rfl ?_) | (refine r_cond_dec rfl (fun _ => ?_) (fun _ => ?_)) | (refine r_cond_true rfl ?_) | (refine r_cond_false rfl ?_) | (refine c_not rfl (fun _ => ?_) (fun _ => ?_)) | (refine r_off rfl rfl rfl ?_) | (refine q_guard rfl rfl (fun _ => ?_) (fun _ => ?_)) | (refine q_guardn rfl rfl (fun _ => ?_) (fun _ => ?_)))
      refine r_loop (γ := (Nat × Hp) × ((Option Addr × Nat) × List Int)) (fun g => g.1.1 ≤ ys.length ∧ NLt h0 g.1.2 pb A c ts Aq1 cq1 q1 fl g.2.1.1 g.2.1.2 g.2.2 ∧ g.2.2 ++ ys.drop g.1.1 = Lst)
        (fun g => [(2, .v (.slice Ab ys.length cb)), (7, .v (.slice g.2.1.1 g.2.2.length g.2.1.2)), (9, .v (.int .i64 g.1.1))]) (fun _ => []) (fun g => g.1.2) (fun g => ys.length - g.1.1)
        ((j, v2), ((An2, cn2), nx2)) ⟨hj, hN2, hL2⟩ (into rfl ⟨rfl, rfl, rfl, trivial⟩ trivial rfl rfl) ?_
      clear hL2 hN2 hi2 hnx2 hj
      rintro ⟨⟨j2, v3⟩, ⟨⟨An3, cn3⟩, nx3⟩⟩ ⟨hj3, hN3, hL3⟩
      dsimp only at *
      have hnx3 : nx3.length ≤ 1000 := by have := congrArg List.length hL3; simp at this; omega
      by_cases hlt2 : j2 < ys.length
      · obtain ⟨by', oy, y, rfl, hyh, hym, hya⟩ := ints_at hyI hlt2
        repeat' (first | (refine r_pure hT rfl rfl rfl rfl ?_) | (refine r_new hT rfl rfl rfl rfl ?_) | (refine r_write hT rfl rfl rfl ?_) | (refine r_nil ?_) | (refine q_nil ?_) | (refine r_indexN hT rfl rfl rfl rfl rfl rfl rfl rfl rfl (by omega) ?_) | (refine r_load hT (hya.le hN3.qs.base) rfl rfl rfl rfl rfl (Nat.add_zero _).symm rfl rfl rfl rfl rfl ?_) | (refine r_bslice hT (ps := [(0, .tmp 78)]) rfl rfl rfl rfl rfl rfl rfl (by simp) rfl rfl (by decide) (fun b2 hb2 => ?_)) | (refine r_append hT (cs := nx3.flatMap Ic) (news := Ic y) rfl rfl rfl rfl rfl rfl rfl rfl rfl rfl rfl (hN3.nl.le fun b o hb ho => by rw [upd_ne (fun e => by subst e; rw [hb2] at ho; cases ho)]; exact ho) (sl_all (upd_here ..) rfl) (by intro v hv; simp [Ic] at hv; subst hv; rfl) (by dsimp only; omega) (by omega) (fun A' c' u5 hO5 hG5 => ?_)) | (refine r_arith rfl rfl rfl rfl rfl rfl rfl (by omega) ?_) | (with_reducible refine r_seq ?_) | (with_reducible refine x_then ?_) | (with_reducible refine r_region ?_) | (refine r_draw hM (by kernel_rfl) ?_) | (with_reducible refine r_skip ?_) | (with_reducible refine r_ret ?_) | (with_reducible refine x_then_ret ?_) | (with_reducible refine r_block ?_) | (with_reducible refine x_block ?_) | (with_reducible refine x_block_ret ?_) | (with_reducible refine r_exit ?_) | (with_reducible refine x_then_exit ?_) | (with_reducible refine x_block_here ?_) | (refine x_block_past rfl ?_) | (refine c_yes rfl (by omega) ?_) | (refine c_no rfl (by omega) ?_) | (refine c_no rfl (fun h => h rfl) ?_) | (refine r_cond_false rfl ?_) | (refine r_cond_true rfl ?_) | (refine r_cond_dec rfl (fun _ => ?_) (fun _ => ?_)) | (refine r_cond_true rfl ?_) | (refine r_cond_false rfl ?_) | (refine c_not rfl (fun _ => ?_) (fun _ => ?_)) | (refine r_off rfl rfl rfl ?_) | (refine q_guard rfl rfl (fun _ => ?_) (fun _ => ?_)) | (refine q_guardn rfl rfl (fun _ => ?_) (fun _ => ?_)))
        exact x_round ((j2 + 1, u5), ((A', c'), nx3 ++ [y])) ⟨hlt2, (hN3.app ((Le.refl _).upd hb2) hG5 (by simpa using hO5) (by simp)).1, by rw [app_one hyh]; exact hL3⟩ (by simp; omega)
          (into rfl ⟨rfl, congrArg (fun z => some (SV.v (.slice A' z c'))) (by simp), rfl, trivial⟩ trivial rfl rfl)
      · rw [List.drop_eq_nil_of_le (by omega), List.append_nil] at hL3
        subst hL3
        repeat' (first | (refine r_pure hT rfl rfl rfl rfl ?_) | (refine r_new hT rfl rfl rfl rfl ?_) | (refine r_write hT rfl rfl rfl ?_) | (refine r_nil ?_) | (refine q_nil ?_) | (refine r_arith rfl rfl rfl rfl rfl rfl rfl (by omega) ?_) | (with_reducible refine r_seq ?_) | (with_reducible refine x_then ?_) | (with_reducible refine r_region ?_) | (refine r_draw hM (by kernel_rfl) ?_) | (with_reducible refine r_skip ?_) | (with_reducible refine r_ret ?_) | (with_reducible refine x_then_ret ?_) | (with_reducible refine r_block ?_) | (with_reducible refine x_block ?_) | (with_reducible refine x_block_ret ?_) | (with_reducible refine r_exit ?_) | (with_reducible refine x_then_exit ?_) | (with_reducible refine x_block_here ?_) | (refine x_block_past rfl ?_) | (refine c_yes rfl (by omega) ?_) | (refine c_no rfl (by omega) ?_) | (refine c_no rfl (fun h => h rfl) ?_) | (refine r_cond_false rfl ?_) | (refine r_cond_true rfl ?_) | (refine r_cond_dec rfl (fun _ => ?_) (fun _ => ?_)) | (refine r_cond_true rfl ?_) | (refine r_cond_false rfl ?_) | (refine c_not rfl (fun _ => ?_) (fun _ => ?_)) | (refine r_off rfl rfl rfl ?_) | (refine q_guard rfl rfl (fun _ => ?_) (fun _ => ?_)) | (refine q_guardn rfl rfl (fun _ => ?_) (fun _ => ?_)))
        refine r_fin hT rfl (((An3, cn3), (nx3, ((Aq1, cq1), (q1, fl)))) : MY) rfl rfl rfl trivial rfl ⟨hN3, ?_, hLl, ?_⟩
        · rcases hcase with ⟨e1, e2⟩ | ⟨e1, e2⟩
          · exact .inl ⟨e2, e1⟩
          · exact .inr ⟨e2, e1⟩
        · dsimp only
          omega
end Go.Proofs.YtkamfnmbidnhdaaDoor
