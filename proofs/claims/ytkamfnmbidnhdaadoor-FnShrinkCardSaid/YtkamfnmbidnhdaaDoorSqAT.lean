/- Drawn graphs are well made; turned ones are, and Shrink answers the same of them. Plain; no condition. -/
import Derived.Test.YtkamfnmbidnhdaaDoorSqAS
import Derived.Test.YtkamfnmbidnhdaaDoorSqAI
import Derived.Test.YtkamfnmbidnhdaaDoorSqAQ
set_option linter.unusedVariables false
set_option linter.unusedSimpArgs false
set_option linter.unusedSectionVars false
namespace Go.Proofs.YtkamfnmbidnhdaaDoor
open Go.Sy
set_option linter.unusedVariables false
set_option linter.unusedSimpArgs false
theorem dk_ok {v : V} (h : DK v) : KOk v ∧ Rng v ∧ (∀ n, VOk v n) ∧ v.k ≠ 0 := by
  rcases h.form with ⟨n, rfl, g⟩ | ⟨n, rfl, h1, h2⟩ | ⟨l, rfl, g⟩
  · have hv : ∀ m, VOk (boV n) m := fun m => .inr (.inl ⟨rfl, g, nil_list, rfl⟩)
    exact ⟨⟨.inl rfl, hv 0⟩, ⟨by simp only [boV]; omega, by simp only [boV]; omega⟩, hv, by simp [boV]⟩
  · have hv : ∀ m, VOk (inV n) m := fun m => .inr (.inr (.inl ⟨rfl, nil_list, rfl⟩))
    exact ⟨⟨.inr (.inl rfl), hv 0⟩, ⟨h1, h2⟩, hv, by simp [inV]⟩
  · have hv : ∀ m, VOk (teV l) m := fun m => .inr (.inr (.inr (.inl ⟨rfl, rfl, rfl, g⟩)))
    exact ⟨⟨.inr (.inr rfl), hv 0⟩, ⟨by simp [teV], by simp [teV]⟩, hv, by simp [teV]⟩
theorem ta_ok {a n : Nat} (h : a < n) : VOk (taV a) n ∧ Rng (taV a) ∧ (taV a).k ≠ 0 :=
  ⟨.inr (.inr (.inr (.inr ⟨rfl, rfl, nil_list, by simp only [taV]; omega, by simp only [taV]; omega⟩))), ⟨by simp [taV], by simp [taV]⟩, by simp [taV]⟩
theorem dv_ok {v : V} {n : Nat} (h : DK v ∨ ∃ a, v = taV a ∧ a < n) : VOk v n ∧ Rng v ∧ v.k ≠ 0 := by
  rcases h with h | ⟨a, rfl, h⟩
  · obtain ⟨_, h2, h3, h4⟩ := dk_ok h; exact ⟨h3 n, h2, h4⟩
  · exact ta_ok h
theorem gr_gok (bs : List Int) (s : DS) : GOk (grD bs s).1.1 (grD bs s).1.2 ∧ RngG (grD bs s).1.1 (grD bs s).1.2 := by
  obtain ⟨h1, h2, h3, _, _⟩ := grD_ok bs s
  have hv := dv_ok h2
  refine ⟨⟨h1, hv.1, fun t ht => ?_⟩, hv.2.1, fun t ht p hp => ?_⟩
  · obtain ⟨g1, g2⟩ := h3 t ht
    exact ⟨g2, fun p hp => ⟨(dk_ok (g1.ok p hp).1).1, (dv_ok (g1.ok p hp).2).1, (dv_ok (g1.ok p hp).2).2.2⟩, g1.nod⟩
  · obtain ⟨g1, g2⟩ := h3 t ht
    exact ⟨(dk_ok (g1.ok p hp).1).2.1, (dv_ok (g1.ok p hp).2).2.1⟩
/-! ### turned -/
theorem vok_lr {n w : Nat} {x y : V} (h : LR n w x y) (hy : VOk y n) : VOk x (w * n) := by
  obtain ⟨h1, h2, h3, h4, h5⟩ := h
  by_cases hk : y.k = 4
  · obtain ⟨c, hc, e⟩ := h5 hk
    rcases hy with ⟨a, _⟩ | ⟨a, b, c, d⟩ | ⟨a, c, d⟩ | ⟨a, b, c, d⟩ | ⟨a, b, d, i, j⟩
    · omega
    · omega
    · omega
    · omega
    · have g1 : n * c ≤ n * (w - 1) := Nat.mul_le_mul_left _ (by omega)
      have g2 : n * (w - 1) + n = w * n := by
        obtain ⟨w', rfl⟩ : ∃ w', w = w' + 1 := ⟨w - 1, by omega⟩
        rw [Nat.add_sub_cancel, Nat.mul_comm, Nat.add_mul]; omega
      exact .inr (.inr (.inr (.inr ⟨h1.trans hk, h2.trans b, by rw [h3]; exact d, by omega, by omega⟩)))
  · have h6 := h4 hk
    rcases hy with ⟨a, b, c, d⟩ | ⟨a, b, c, d⟩ | ⟨a, c, d⟩ | ⟨a, b, c, d⟩ | ⟨a, _⟩
    · exact .inl ⟨h1.trans a, h2.trans b, by rw [h3]; exact c, h6.trans d⟩
    · exact .inr (.inl ⟨h1.trans a, by rw [h2]; exact b, by rw [h3]; exact c, h6.trans d⟩)
    · exact .inr (.inr (.inl ⟨h1.trans a, by rw [h3]; exact c, h6.trans d⟩))
    · exact .inr (.inr (.inr (.inl ⟨h1.trans a, h2.trans b, h6.trans c, by rw [h3]; exact d⟩)))
    · exact absurd a hk
theorem tok_rot {t : List Pr} {n : Nat} (h : TOk t n) (f : Nat) : TOk (rotL t f) n :=
  ⟨by rw [(rot_perm t f).length_eq]; exact h.1, fun p hp => h.2.1 p ((rot_perm t f).mem_iff.1 hp), ((rot_perm t f).map _).nodup_iff.2 h.2.2⟩
theorem srt_rot {t : List Pr} {n : Nat} (h : TOk t n) (f : Nat) : srt (rotL t f) = srt t := tok_uniq h ((srt_perm _).trans (rot_perm t f)) (srt_srt _)
theorem dup_mem {w : Nat} {ts : List (List Pr)} {t : List Pr} (h : t ∈ dupL w ts) : t ∈ ts := by
  unfold dupL at h
  split at h
  · rcases List.mem_append.1 h with h | h <;> exact h
  · exact h
theorem tu_len (bs : List Int) (v : V) (ts : List (List Pr)) (s : DS) : (tuD bs v ts s).1.2.length = twD ts.length * ts.length := by
  have hw : 0 < twD ts.length := by rcases twD_rng ts.length with h | h <;> omega
  have h2 := trD_all2 bs ts.length hw (dupL (twD ts.length) ts) (ledD bs ts.length (twD ts.length) v s).2
  rw [show (tuD bs v ts s).1.2.length = _ from h2.len, dupL_len]
theorem tu_gok (bs : List Int) {v : V} {ts : List (List Pr)} (s : DS) (hg : GOk v ts) (hr : RngG v ts) : GOk (tuD bs v ts s).1.1 (tuD bs v ts s).1.2 ∧ RngG (tuD bs v ts s).1.1 (tuD bs v ts s).1.2 := by
  have hw : 0 < twD ts.length := by rcases twD_rng ts.length with h | h <;> omega
  have h2 := trD_all2 bs ts.length hw (dupL (twD ts.length) ts) (ledD bs ts.length (twD ts.length) v s).2
  have hv := ledD_lr bs ts.length hw v s
  have hl := tu_len bs v ts s
  have hmem : ∀ x ∈ (tuD bs v ts s).1.2, ∃ t ∈ ts, ∃ f, All2 (PR (LR ts.length (twD ts.length))) x (rotL t f) := fun x hx => by
    obtain ⟨t, ht, f, hf⟩ := h2.left x hx
    exact ⟨t, dup_mem ht, f, hf⟩
  refine ⟨⟨?_, by rw [hl]; exact vok_lr hv hg.2.1, fun x hx => ?_⟩, ?_, fun x hx p hp => ?_⟩
  · rw [hl]
    have := hg.1
    unfold twD
    split <;> omega
  · obtain ⟨t, ht, f, hf⟩ := hmem x hx
    obtain ⟨k1, k2, k3⟩ := tok_rot (hg.2.2 t ht) f
    rw [hl]
    refine ⟨by rw [hf.len]; exact k1, fun p hp => ?_, by
      have := all2_keys hf
      show (x.map Pr.key).Nodup
      rw [this]; exact k3⟩
    obtain ⟨q, hq, e⟩ := hf.left p hp
    obtain ⟨q1, q2, q3⟩ := k2 q hq
    exact ⟨by rw [e.1]; exact q1, vok_lr e.2 q2, by rw [e.2.1]; exact q3⟩
  · show Rng (ledD bs ts.length (twD ts.length) v s).1
    unfold Rng
    rw [hv.2.1]; exact hr.1
  · obtain ⟨t, ht, f, hf⟩ := hmem x hx
    obtain ⟨q, hq, e⟩ := hf.left p hp
    obtain ⟨r1, r2⟩ := hr.2 t ht q ((rot_perm t f).mem_iff.1 hq)
    exact ⟨by rw [e.1]; exact r1, by unfold Rng; rw [e.2.2.1]; exact r2⟩
theorem tu_beq (bs : List Int) {v : V} {ts : List (List Pr)} (s : DS) (hg : GOk v ts) : Beq (sS (tuD bs v ts s).1.2) (sS ts) (tuD bs v ts s).1.1 v :=
  tuD_beq bs s (gok_in hg).1 (gok_in hg).2.1 (fun t ht => (hg.2.2 t ht).2.2) (fun t ht f => srt_rot (hg.2.2 t ht) f)
theorem tu_shrink (bs : List Int) {v : V} {ts : List (List Pr)} (s : DS) (hg : GOk v ts) (hr : RngG v ts) : kV (tuD bs v ts s).1.1 (tuD bs v ts s).1.2 = kV v ts ∧ kT (tuD bs v ts s).1.1 (tuD bs v ts s).1.2 = kT v ts :=
  k_uniq (tu_gok bs s hg hr).1 hg (tu_beq bs s hg)
end Go.Proofs.YtkamfnmbidnhdaaDoor
/- The drawer's turned graphs; spec.Drawn, spec.Turned. No condition. -/
namespace Go.Proofs.YtkamfnmbidnhdaaDoor
open Go.Sy
set_option maxRecDepth 100000
set_option maxHeartbeats 8000000
set_option linter.unusedVariables false
set_option linter.unusedSimpArgs false
/-- A table is added to tables of one's own. -/
theorem OT.push {h u u1 u3 : Hp} {A A' : Option Addr} {c c' : Nat} {hs : List Hd} {ts : List (List Pr)} (g : OT u 59 61 A ts.length c hs ts) (hoff : OffAll h A hs) (hle : Le h u) (hu : Le u u1) {y : Hd} {t : List Pr} (hn : y.n = t.length) (hy : Own u1 y.A y.n y.c 61 8 (t.flatMap Pr.c)) (hof : Off u y.A)
    (hO : Own u3 A' (ts.length + 1) c' 59 1 (hs.flatMap Hd.v ++ [y].flatMap Hd.v)) (hG : Grown u1 u3 A A') : OT u3 59 61 A' (ts.length + 1) c' (hs ++ [y]) (ts ++ [t]) ∧ OffAll h A' (hs ++ [y]) ∧ Le h u3 := by
  obtain ⟨k1, k2⟩ := hG (ptw u1 A) (ptw_le u1 A) (ptw_off u1 A)
  obtain ⟨k3, k4⟩ := hG h (hle.trans hu) hoff.1
  have hpt : ∀ b o, blk A ≠ some b → u1 b = some o → ptw u1 A b = some o := fun b o hb ho => by unfold ptw; rw [if_neg hb]; exact ho
  have hrow : ∀ x ∈ hs, ∀ b, blk x.A = some b → blk A ≠ some b := fun x hx b hb => by
    obtain ⟨i, hi⟩ := List.getElem?_of_mem hx
    exact (g.rows.apart i x b hi hb).1
  have hya : ∀ b, blk y.A = some b → blk A ≠ some b := fun b hb e => by
    have := hof b hb
    cases A with
    | none => cases e
    | some a =>
      obtain ⟨_, arr, h2, _⟩ := g.own.row a rfl
      have e1 : a.block = b := Option.some.inj e
      rw [e1, this] at h2; cases h2
  have hX : ∀ b, u1 b ≠ none → blk A ≠ some b → blk A' ≠ some b := fun b hb hA e => by
    have := k2 b e
    cases hh : u1 b with
    | none => exact hb hh
    | some o => rw [hpt b o hA hh] at this; cases this
  have hR : ORows u 61 (blk A') hs ts := ⟨g.rows.len, g.rows.rows, fun i x b hx hb => ⟨hX b (fun e => by
    have := g.rows.live (List.mem_of_getElem? hx) hb
    cases hh : u b with
    | none => exact this hh
    | some o => rw [hu b o hh] at e; cases e) (hrow x (List.mem_of_getElem? hx) b hb), (g.rows.apart i x b hx hb).2⟩⟩
  refine ⟨⟨by simp, by rw [List.flatMap_append]; exact hO, hR.snoc (fun b o hx ho => ?_) hn (hy.le fun b o hb ho => k1 b o (hpt b o (hya b hb) ho)) (fun b hb => ⟨hX b (fun e => ?_) (hya b hb), hof b hb⟩)⟩, ⟨k4, fun x hx => ?_⟩, k3⟩
  · obtain ⟨x, hx, hb⟩ := hx
    exact k1 b o (hpt b o (hrow x hx b hb) (hu b o ho))
  · exact hy.live hb e
  · rcases List.mem_append.1 hx with hx | hx
    · exact hoff.2 x hx
    · rw [List.mem_singleton] at hx; subst hx
      exact fun b hb => none_of hle (hof b hb)
def repT (ts : List (List Pr)) : Nat → List (List Pr)
  | 0 => []
  | k + 1 => repT ts k ++ ts
theorem repT_dup {n : Nat} (ts : List (List Pr)) : repT ts (twD n) = dupL (twD n) ts := by
  rcases twD_rng n with h | h <;> rw [h] <;> simp [repT, dupL]
theorem repT_len (ts : List (List Pr)) : ∀ k, (repT ts k).length = k * ts.length
  | 0 => by simp [repT]
  | k + 1 => by rw [repT, List.length_append, repT_len ts k, Nat.add_mul]; omega
theorem repT_mem {ts : List (List Pr)} {t : List Pr} : ∀ {k : Nat}, t ∈ repT ts k → t ∈ ts
  | 0, h => by cases h
  | k + 1, h => by
    rcases List.mem_append.1 h with h | h
    · exact repT_mem h
    · exact h
theorem turnedF (h : Hp) (pb : Nat) (A : Option Addr) (n c : Nat) (s : DS) (bs : List Int) (hX : Cx h pb A n bs) (hi : s.1 ≤ 1000000) (v : V) (ts : List (List Pr)) (Ag : Option Addr) (cg : Nat) (hP : Tabs h Ag ts.length ts) (hg : GOk v ts) :
    TriS Tryd.prog 92 [.v (pt0 pb), .ag (gsv v Ag ts.length cg)] [] (Wc h pb A n c s) (fun y : OY => .ag (gsv (tuD bs v ts s).1.1 y.1.1 (tuD bs v ts s).1.2.length y.1.2)) (fun _ => [])
      (fun y u' => ∃ h', u' = Wc h' pb A n c (tuD bs v ts s).2 ∧ h' pb = none ∧ Le h h' ∧ OT h' 59 61 y.1.1 (tuD bs v ts s).1.2.length y.1.2 y.2 (tuD bs v ts s).1.2 ∧ OffAll h y.1.1 y.2) := by
  obtain ⟨i1, i2, i3, i4⟩ := gok_in hg
  have hw := twD_rng ts.length
  have l0 := ledD_at bs ts.length (twD ts.length) v s
  have c0 := dledF h pb A n c ts.length (twD ts.length) v s bs hX (by omega) (by omega) (by omega) (fun h4 => by have := i2 h4; omega)
  unfold tuD
  have htw : twD ts.length = if 2 * ts.length ≤ 200 then 2 else 1 := rfl
  generalize ledD bs ts.length (twD ts.length) v s = w0 at *
  obtain ⟨r0, s0⟩ := w0
  dsimp only at *
  rw [← repT_dup]
  refine enterS Tryd.func92 rfl (n := 84) rfl rfl (fun k N => ?_)
  repeat' (first | (refine r_pure hT rfl rfl rfl rfl ?_) | (refine r_new hT rfl rfl rfl rfl ?_) | (refine r_write hT rfl rfl rfl ?_) | (refine r_nil ?_) | (refine q_nil ?_) | (refine r_arith rfl rfl rfl rfl rfl rfl rfl (by omega) ?_) | (with_reducible refine r_seq ?_) | (with_reducible refine x_then ?_) | (with_reducible refine r_region ?_) | (refine r_draw hM (by kernel_rfl) ?_) | (with_reducible refine r_skip ?_) | (with_reducible refine r_ret ?_) | (with_reducible refine x_then_ret ?_) | (with_reducible refine r_block ?_) | (with_reducible refine x_block ?_) | (with_reducible refine x_block_ret ?_) | (with_reducible refine r_exit ?_) | (with_reducible refine x_then_exit ?_) | (with_reducible refine x_block_here ?_) | (refine x_block_past rfl ?_) | (refine c_yes rfl (by omega) ?_) | (refine c_no rfl (by omega) ?_) | (refine c_no rfl (fun h => h rfl) ?_) | (refine r_cond_false rfl ?_) | (refine r_cond_true rfl ?_) | (refine r_cond_true rfl ?_) | (refine r_cond_false rfl ?_) | (refine r_off rfl rfl rfl ?_) | (refine q_guard rfl rfl (fun _ => ?_) (fun _ => ?_)) | (refine q_guardn rfl rfl (fun _ => ?_) (fun _ => ?_)))
  refine r_cutD (c := .tmp 21) (γ := Unit) (p := 2 * (ts.length : Int) ≤ 200) rfl (fun _ => True) (fun _ => [(0, .v (pt0 pb)), (3, .p 3 0), (4, .p 4 0), (5, .v (.int .i64 (ts.length : Int))), (6, .v (.int .i64 (twD ts.length : Int)))])
    (fun _ => [(4, ⟨none, [.v (.int .i64 0), .v (.int .i64 0), .v (.string ⟨⟨[]⟩⟩), .v (.int .i64 0), .v (.slice none 0 0)], 51⟩), (3, ⟨none, gsv v Ag ts.length cg, 51⟩)]) (fun _ => Wc h pb A n c s) (fun h0 => ?_) (fun h0 => ?_) (fun _ _ => ?_)
  · have e : twD ts.length = 2 := by rw [htw]; exact if_pos (by omega)
    repeat' (first | (refine r_pure hT rfl rfl rfl rfl ?_) | (refine r_new hT rfl rfl rfl rfl ?_) | (refine r_write hT rfl rfl rfl ?_) | (refine r_nil ?_) | (refine q_nil ?_) | (refine r_arith rfl rfl rfl rfl rfl rfl rfl (by omega) ?_) | (with_reducible refine r_seq ?_) | (with_reducible refine x_then ?_) | (with_reducible refine r_region ?_) | (refine r_draw hM (by kernel_rfl) ?_) | (with_reducible refine r_skip ?_) | (with_reducible refine r_ret ?_) | (with_reducible refine x_then_ret ?_) | (with_reducible refine r_block ?_) | (with_reducible refine x_block ?_) | (with_reducible refine x_block_ret ?_) | (with_reducible refine r_exit ?_) | (with_reducible refine x_then_exit ?_) | (with_reducible refine x_block_here ?_) | (refine x_block_past rfl ?_) | (refine c_yes rfl (by omega) ?_) | (refine c_no rfl (by omega) ?_) | (refine c_no rfl (fun h => h rfl) ?_) | (refine r_cond_false rfl ?_) | (refine r_cond_true rfl ?_) | (refine r_cond_dec rfl (fun _ => ?_) (fun _ => ?_)) | (refine r_cond_true rfl ?_) | (refine r_cond_false rfl ?_) | (refine c_not rfl (fun _ => ?_) (fun _ => ?_)) | (refine r_off rfl rfl rfl ?_) | (refine q_guard rfl rfl (fun _ => ?_) (fun _ => ?_)) | (refine q_guardn rfl rfl (fun _ => ?_) (fun _ => ?_)))
    exact x_cut () trivial (into rfl ⟨rfl, rfl, rfl, rfl, congrArg (fun z : Nat => some (SV.v (.int .i64 (z : Int)))) e.symm, trivial⟩ ⟨rfl, rfl, trivial⟩ rfl rfl)
  · have e : twD ts.length = 1 := by rw [htw]; exact if_neg (by omega)
    repeat' (first | (refine r_pure hT rfl rfl rfl rfl ?_) | (refine r_new hT rfl rfl rfl rfl ?_) | (refine r_write hT rfl rfl rfl ?_) | (refine r_nil ?_) | (refine q_nil ?_) | (refine r_arith rfl rfl rfl rfl rfl rfl rfl (by omega) ?_) | (with_reducible refine r_seq ?_) | (with_reducible refine x_then ?_) | (with_reducible refine r_region ?_) | (refine r_draw hM (by kernel_rfl) ?_) | (with_reducible refine r_skip ?_) | (with_reducible refine r_ret ?_) | (with_reducible refine x_then_ret ?_) | (with_reducible refine r_block ?_) | (with_reducible refine x_block ?_) | (with_reducible refine x_block_ret ?_) | (with_reducible refine r_exit ?_) | (with_reducible refine x_then_exit ?_) | (with_reducible refine x_block_here ?_) | (refine x_block_past rfl ?_) | (refine c_yes rfl (by omega) ?_) | (refine c_no rfl (by omega) ?_) | (refine c_no rfl (fun h => h rfl) ?_) | (refine r_cond_false rfl ?_) | (refine r_cond_true rfl ?_) | (refine r_cond_dec rfl (fun _ => ?_) (fun _ => ?_)) | (refine r_cond_true rfl ?_) | (refine r_cond_false rfl ?_) | (refine c_not rfl (fun _ => ?_) (fun _ => ?_)) | (refine r_off rfl rfl rfl ?_) | (refine q_guard rfl rfl (fun _ => ?_) (fun _ => ?_)) | (refine q_guardn rfl rfl (fun _ => ?_) (fun _ => ?_)))
    exact x_cut () trivial (into rfl ⟨rfl, rfl, rfl, rfl, congrArg (fun z : Nat => some (SV.v (.int .i64 (z : Int)))) e.symm, trivial⟩ ⟨rfl, rfl, trivial⟩ rfl rfl)
  clear htw
  generalize hwd : twD ts.length = w at *
  repeat' (first | (refine r_pure hT rfl rfl rfl rfl ?_) | (refine r_new hT rfl rfl rfl rfl ?_) | (refine r_write hT rfl rfl rfl ?_) | (refine r_nil ?_) | (refine q_nil ?_) | ((refine r_call c0 rfl rfl rfl rfl rfl (hC _ rfl) rfl rfl (fun y0 u1 hy => ?_) ; subst hy)) | (refine r_arith rfl rfl rfl rfl rfl rfl rfl (by omega) ?_) | (with_reducible refine r_seq ?_) | (with_reducible refine x_then ?_) | (with_reducible refine r_region ?_) | (refine r_draw hM (by kernel_rfl) ?_) | (with_reducible refine r_skip ?_) | (with_reducible refine r_ret ?_) | (with_reducible refine x_then_ret ?_) | (with_reducible refine r_block ?_) | (with_reducible refine x_block ?_) | (with_reducible refine x_block_ret ?_) | (with_reducible refine r_exit ?_) | (with_reducible refine x_then_exit ?_) | (with_reducible refine x_block_here ?_) | (refine x_block_past rfl ?_) | (refine c_yes rfl (by omega) ?_) | (refine c_no rfl (by omega) ?_) | (refine c_no rfl (fun h => h rfl) ?_) | (refine r_cond_false rfl ?_) | (refine r_cond_true rfl ?_) | (refine r_cond_true rfl ?_) | (refine r_cond_false rfl ?_) | (refine r_off rfl rfl rfl ?_) | (refine q_guard rfl rfl (fun _ => ?_) (fun _ => ?_)) | (refine q_guardn rfl rfl (fun _ => ?_) (fun _ => ?_)))
  refine r_loop (γ := (Nat × Hp) × OY) (fun g => g.1.1 ≤ w ∧ g.1.2 pb = none ∧ OT g.1.2 59 61 g.2.1.1 (trD bs ts.length w (repT ts g.1.1) s0).1.length g.2.1.2 g.2.2 (trD bs ts.length w (repT ts g.1.1) s0).1 ∧ Le h g.1.2 ∧ OffAll h g.2.1.1 g.2.2)
    (fun g => [(0, .v (pt0 pb)), (3, .p 3 0), (4, .p 4 0), (7, .p 7 0), (5, .v (.int .i64 (ts.length : Int))), (6, .v (.int .i64 (w : Int))), (8, .v (.int .i64 (g.1.1 : Int)))])
    (fun g => [(7, ⟨none, gsv r0 g.2.1.1 (trD bs ts.length w (repT ts g.1.1) s0).1.length g.2.1.2, 51⟩), (4, ⟨none, [.v (.int .i64 0), .v (.int .i64 0), .v (.string ⟨⟨[]⟩⟩), .v (.int .i64 0), .v (.slice none 0 0)], 51⟩), (3, ⟨none, gsv v Ag ts.length cg, 51⟩)])
    (fun g => Wc g.1.2 pb A n c (trD bs ts.length w (repT ts g.1.1) s0).2) (fun g => w - g.1.1)
    ((0, h), ((none, 0), [])) ⟨Nat.zero_le _, hX.hp, ⟨rfl, own_nil, ORows.nil⟩, Le.refl h, off_nil, fun x hx => (by cases hx)⟩ (into rfl ⟨rfl, rfl, rfl, rfl, rfl, rfl, rfl, trivial⟩ ⟨rfl, rfl, rfl, trivial⟩ rfl rfl) ?_
  rintro ⟨⟨kk, v1⟩, ⟨⟨A7, c7⟩, hs7⟩⟩ ⟨hkk, hp1, hO7, hle7, hof7⟩
  dsimp only at *
  by_cases hltk : kk < w
  · repeat' (first | (refine r_pure hT rfl rfl rfl rfl ?_) | (refine r_new hT rfl rfl rfl rfl ?_) | (refine r_write hT rfl rfl rfl ?_) | (refine r_nil ?_) | (refine q_nil ?_) | (refine c_yes rfl (by omega) ?_) | (refine r_arith rfl rfl rfl rfl rfl rfl rfl (by omega) ?_) | (with_reducible refine r_seq ?_) | (with_reducible refine x_then ?_) | (with_reducible refine r_region ?_) | (refine r_draw hM (by kernel_rfl) ?_) | (with_reducible refine r_skip ?_) | (with_reducible refine r_ret ?_) | (with_reducible refine x_then_ret ?_) | (with_reducible refine r_block ?_) | (with_reducible refine x_block ?_) | (with_reducible refine x_block_ret ?_) | (with_reducible refine r_exit ?_) | (with_reducible refine x_then_exit ?_) | (with_reducible refine x_block_here ?_) | (refine x_block_past rfl ?_) | (refine c_yes rfl (by omega) ?_) | (refine c_no rfl (by omega) ?_) | (refine c_no rfl (fun h => h rfl) ?_) | (refine r_cond_false rfl ?_) | (refine r_cond_true rfl ?_) | (refine r_cond_true rfl ?_) | (refine r_cond_false rfl ?_) | (refine r_off rfl rfl rfl ?_) | (refine q_guard rfl rfl (fun _ => ?_) (fun _ => ?_)) | (refine q_guardn rfl rfl (fun _ => ?_) (fun _ => ?_)))
    refine r_loop (γ := (Nat × Hp) × OY) (fun g => g.1.1 ≤ ts.length ∧ g.1.2 pb = none ∧ OT g.1.2 59 61 g.2.1.1 (trD bs ts.length w (repT ts kk ++ ts.take g.1.1) s0).1.length g.2.1.2 g.2.2 (trD bs ts.length w (repT ts kk ++ ts.take g.1.1) s0).1 ∧ Le h g.1.2 ∧ OffAll h g.2.1.1 g.2.2)
      (fun g => [(0, .v (pt0 pb)), (3, .p 3 0), (4, .p 4 0), (7, .p 7 0), (5, .v (.int .i64 (ts.length : Int))), (6, .v (.int .i64 (w : Int))), (8, .v (.int .i64 (kk : Int))), (35, .v (.slice Ag ts.length cg)), (36, .v (.int .i64 (ts.length : Int))), (37, .v (.int .i64 (g.1.1 : Int)))])
      (fun g => [(7, ⟨none, gsv r0 g.2.1.1 (trD bs ts.length w (repT ts kk ++ ts.take g.1.1) s0).1.length g.2.1.2, 51⟩), (4, ⟨none, [.v (.int .i64 0), .v (.int .i64 0), .v (.string ⟨⟨[]⟩⟩), .v (.int .i64 0), .v (.slice none 0 0)], 51⟩), (3, ⟨none, gsv v Ag ts.length cg, 51⟩)])
      (fun g => Wc g.1.2 pb A n c (trD bs ts.length w (repT ts kk ++ ts.take g.1.1) s0).2) (fun g => ts.length - g.1.1)
      ((0, v1), ((A7, c7), hs7)) ⟨Nat.zero_le _, hp1, by simpa using hO7, hle7, hof7⟩ ?_ ?_
    · have e : repT ts kk ++ ts.take 0 = repT ts kk := by simp
      dsimp only
      rw [e]
      exact into rfl ⟨rfl, rfl, rfl, rfl, rfl, rfl, rfl, rfl, rfl, rfl, trivial⟩ ⟨rfl, rfl, rfl, trivial⟩ rfl rfl
    rintro ⟨⟨j, v2⟩, ⟨⟨A8, c8⟩, hs8⟩⟩ ⟨hj, hp2, hO8, hle8, hof8⟩
    dsimp only at *
    have htat := trD_at bs ts.length w (repT ts kk ++ ts.take j) s0 (fun t ht => by
      rcases List.mem_append.1 ht with ht | ht
      · exact i4 t (repT_mem ht)
      · exact i4 t (List.mem_of_mem_take ht))
    have hll : (trD bs ts.length w (repT ts kk ++ ts.take j) s0).1.length = kk * ts.length + j := by
      have h1 : (repT ts kk ++ ts.take j).length = kk * ts.length + j := by rw [List.length_append, repT_len, List.length_take]; omega
      rw [← h1]
      exact (trD_all2 bs ts.length (w := w) (by omega) _ s0).len
    have hkt : kk * ts.length ≤ 200 := by
      have : kk ≤ 1 := by omega
      have := Nat.mul_le_mul_right ts.length this
      omega
    have hsb : (trD bs ts.length w (repT ts kk ++ ts.take j) s0).2.1 ≤ 2000000 := by
      have h1 : (repT ts kk ++ ts.take j).length ≤ 400 := by rw [List.length_append, repT_len, List.length_take]; omega
      have := Nat.mul_le_mul_left 202 h1
      omega
    by_cases hltj : j < ts.length
    · have hX2 := hX.le hle8 hp2
      have hPW := hP.le (hle8.trans (wc_le (A := A) (n := n) (c := c) hp2 (trD bs ts.length w (repT ts kk ++ ts.take j) s0).2))
      obtain ⟨b4, off4, A4, n4, c4, t, rfl, _, hix4, hm4, hat4, hc4, hp4⟩ := hPW.elem hltj
      have hp4' : Pairs v2 A4 n4 t := by
        obtain ⟨b4', off4', A4', n4', c4', t', e1, _, hix4', _, hat4', _, hp4'⟩ := (hP.le hle8).elem hltj
        have e2 := Option.some.inj e1
        simp only [Addr.mk.injEq] at e2
        obtain ⟨rfl, rfl, _⟩ := e2
        rw [hix4] at hix4'
        have e3 := Option.some.inj hix4'
        subst e3
        obtain ⟨a1, t1, f1, g1, g2⟩ := hat4
        obtain ⟨a2, t2, f2, g3, g4⟩ := hat4'.le (wc_le (A := A) (n := n) (c := c) hp2 (trD bs ts.length w (repT ts kk ++ ts.take j) s0).2)
        rw [g1] at g3
        have e4 := Option.some.inj g3
        simp only [Obj.cells.injEq] at e4
        obtain ⟨rfl, _, _⟩ := e4
        have e5 := (g2 0 _ rfl).symm.trans (g4 0 _ rfl)
        have e6 := Option.some.inj e5
        simp only [Value.slice.injEq] at e6
        obtain ⟨rfl, rfl, rfl⟩ := e6
        exact hp4'
      obtain rfl := hp4.1
      have htl := i4 t hm4
      have htk : repT ts kk ++ ts.take (j + 1) = (repT ts kk ++ ts.take j) ++ [t] := by rw [take_snoc hix4, List.append_assoc]
      have esn := trD_snoc bs ts.length w t (repT ts kk ++ ts.take j) s0
      rw [← htk] at esn
      clear hPW htat
      generalize trD bs ts.length w (repT ts kk ++ ts.take j) s0 = q1 at *
      obtain ⟨T1, s1⟩ := q1
      dsimp only at *
      have hfr := frD_ok bs t s1
      have hfd : frD bs t s1 = if t.length = 0 then (0, s1) else pk bs t.length s1 := rfl
      have ert : rtD bs ts.length w t s1 = rwD bs ts.length w (rotL t (frD bs t s1).1) (frD bs t s1).2 := rfl
      have d1 := pickF v2 pb A n c s1 bs t.length hX2 (by omega) (by omega)
      repeat' (first | (refine r_pure hT rfl rfl rfl rfl ?_) | (refine r_new hT rfl rfl rfl rfl ?_) | (refine r_write hT rfl rfl rfl ?_) | (refine r_nil ?_) | (refine q_nil ?_) | (refine r_indexN hT rfl rfl rfl rfl rfl rfl rfl rfl rfl hltj ?_) | (refine r_load hT hat4 rfl rfl rfl rfl rfl (Nat.add_zero _).symm rfl rfl rfl rfl rfl ?_) | (refine c_yes (p := ((j : Int) < (ts.length : Int))) rfl (by omega) ?_) | (refine r_arith rfl rfl rfl rfl rfl rfl rfl (by omega) ?_) | (with_reducible refine r_seq ?_) | (with_reducible refine x_then ?_) | (with_reducible refine r_region ?_) | (refine r_draw hM (by kernel_rfl) ?_) | (with_reducible refine r_skip ?_) | (with_reducible refine r_ret ?_) | (with_reducible refine x_then_ret ?_) | (with_reducible refine r_block ?_) | (with_reducible refine x_block ?_) | (with_reducible refine x_block_ret ?_) | (with_reducible refine r_exit ?_) | (with_reducible refine x_then_exit ?_) | (with_reducible refine x_block_here ?_) | (refine x_block_past rfl ?_) | (refine c_yes rfl (by omega) ?_) | (refine c_no rfl (by omega) ?_) | (refine c_no rfl (fun h => h rfl) ?_) | (refine r_cond_false rfl ?_) | (refine r_cond_true rfl ?_) | (refine r_cond_true rfl ?_) | (refine r_cond_false rfl ?_) | (refine r_off rfl rfl rfl ?_) | (refine q_guard rfl rfl (fun _ => ?_) (fun _ => ?_)) | (refine q_guardn rfl rfl (fun _ => ?_) (fun _ => ?_)))
      refine r_cutD (c := .tmp 45) (γ := Unit) (p := (0 : Int) < (t.length : Int)) rfl (fun _ => True) (fun _ => [(0, .v (pt0 pb)), (3, .p 3 0), (4, .p 4 0), (7, .p 7 0), (10, .p 10 0), (11, .p 11 0), (5, .v (.int .i64 (ts.length : Int))), (6, .v (.int .i64 (w : Int))), (8, .v (.int .i64 (kk : Int))), (35, .v (.slice (some ⟨b4, off4, none⟩) ts.length cg)), (36, .v (.int .i64 (ts.length : Int))), (37, .v (.int .i64 (j : Int))), (12, .v (.int .i64 (t.length : Int))), (13, .v (.int .i64 ((frD bs t s1).1 : Int)))])
        (fun _ => [(11, ⟨none, [.v (.slice none 0 0)], 59⟩), (10, ⟨none, [.v (.slice A4 t.length c4)], 59⟩), (7, ⟨none, gsv r0 A8 T1.length c8, 51⟩), (4, ⟨none, [.v (.int .i64 0), .v (.int .i64 0), .v (.string ⟨⟨[]⟩⟩), .v (.int .i64 0), .v (.slice none 0 0)], 51⟩), (3, ⟨none, gsv v (some ⟨b4, off4, none⟩) ts.length cg, 51⟩)]) (fun _ => Wc v2 pb A n c (frD bs t s1).2) (fun h0 => ?_) (fun h0 => ?_) (fun _ _ => ?_)
      · rw [if_neg (by omega)] at hfd
        rw [hfd]
        repeat' (first | (refine r_pure hT rfl rfl rfl rfl ?_) | (refine r_new hT rfl rfl rfl rfl ?_) | (refine r_write hT rfl rfl rfl ?_) | (refine r_nil ?_) | (refine q_nil ?_) | ((refine r_call d1 rfl rfl rfl rfl rfl (hC _ rfl) rfl rfl (fun y0 u1 hy => ?_) ; subst hy)) | (refine r_arith rfl rfl rfl rfl rfl rfl rfl (by omega) ?_) | (with_reducible refine r_seq ?_) | (with_reducible refine x_then ?_) | (with_reducible refine r_region ?_) | (refine r_draw hM (by kernel_rfl) ?_) | (with_reducible refine r_skip ?_) | (with_reducible refine r_ret ?_) | (with_reducible refine x_then_ret ?_) | (with_reducible refine r_block ?_) | (with_reducible refine x_block ?_) | (with_reducible refine x_block_ret ?_) | (with_reducible refine r_exit ?_) | (with_reducible refine x_then_exit ?_) | (with_reducible refine x_block_here ?_) | (refine x_block_past rfl ?_) | (refine c_yes rfl (by omega) ?_) | (refine c_no rfl (by omega) ?_) | (refine c_no rfl (fun h => h rfl) ?_) | (refine r_cond_false rfl ?_) | (refine r_cond_true rfl ?_) | (refine r_cond_dec rfl (fun _ => ?_) (fun _ => ?_)) | (refine r_cond_true rfl ?_) | (refine r_cond_false rfl ?_) | (refine c_not rfl (fun _ => ?_) (fun _ => ?_)) | (refine r_off rfl rfl rfl ?_) | (refine q_guard rfl rfl (fun _ => ?_) (fun _ => ?_)) | (refine q_guardn rfl rfl (fun _ => ?_) (fun _ => ?_)))
        exact x_cut () trivial (into rfl ⟨rfl, rfl, rfl, rfl, rfl, rfl, rfl, rfl, rfl, rfl, rfl, rfl, rfl, rfl, trivial⟩ ⟨rfl, rfl, rfl, rfl, rfl, trivial⟩ rfl rfl)
      · rw [if_pos (by omega)] at hfd
        rw [hfd]
        repeat' (first | (refine r_pure hT rfl rfl rfl rfl ?_) | (refine r_new hT rfl rfl rfl rfl ?_) | (refine r_write hT rfl rfl rfl ?_) | (refine r_nil ?_) | (refine q_nil ?_) | (refine r_arith rfl rfl rfl rfl rfl rfl rfl (by omega) ?_) | (with_reducible refine r_seq ?_) | (with_reducible refine x_then ?_) | (with_reducible refine r_region ?_) | (refine r_draw hM (by kernel_rfl) ?_) | (with_reducible refine r_skip ?_) | (with_reducible refine r_ret ?_) | (with_reducible refine x_then_ret ?_) | (with_reducible refine r_block ?_) | (with_reducible refine x_block ?_) | (with_reducible refine x_block_ret ?_) | (with_reducible refine r_exit ?_) | (with_reducible refine x_then_exit ?_) | (with_reducible refine x_block_here ?_) | (refine x_block_past rfl ?_) | (refine c_yes rfl (by omega) ?_) | (refine c_no rfl (by omega) ?_) | (refine c_no rfl (fun h => h rfl) ?_) | (refine r_cond_false rfl ?_) | (refine r_cond_true rfl ?_) | (refine r_cond_dec rfl (fun _ => ?_) (fun _ => ?_)) | (refine r_cond_true rfl ?_) | (refine r_cond_false rfl ?_) | (refine c_not rfl (fun _ => ?_) (fun _ => ?_)) | (refine r_off rfl rfl rfl ?_) | (refine q_guard rfl rfl (fun _ => ?_) (fun _ => ?_)) | (refine q_guardn rfl rfl (fun _ => ?_) (fun _ => ?_)))
        exact x_cut () trivial (into rfl ⟨rfl, rfl, rfl, rfl, rfl, rfl, rfl, rfl, rfl, rfl, rfl, rfl, rfl, rfl, trivial⟩ ⟨rfl, rfl, rfl, rfl, rfl, trivial⟩ rfl rfl)
      rw [ert] at esn
      clear hfd ert d1
      generalize frD bs t s1 = q2 at *
      obtain ⟨f, s2⟩ := q2
      dsimp only at *
      have hrl : (rotL t f).length = t.length := rot_len (by omega)
      repeat' (first | (refine r_pure hT rfl rfl rfl rfl ?_) | (refine r_new hT rfl rfl rfl rfl ?_) | (refine r_write hT rfl rfl rfl ?_) | (refine r_nil ?_) | (refine q_nil ?_) | (refine r_arith rfl rfl rfl rfl rfl rfl rfl (by omega) ?_) | (with_reducible refine r_seq ?_) | (with_reducible refine x_then ?_) | (with_reducible refine r_region ?_) | (refine r_draw hM (by kernel_rfl) ?_) | (with_reducible refine r_skip ?_) | (with_reducible refine r_ret ?_) | (with_reducible refine x_then_ret ?_) | (with_reducible refine r_block ?_) | (with_reducible refine x_block ?_) | (with_reducible refine x_block_ret ?_) | (with_reducible refine r_exit ?_) | (with_reducible refine x_then_exit ?_) | (with_reducible refine x_block_here ?_) | (refine x_block_past rfl ?_) | (refine c_yes rfl (by omega) ?_) | (refine c_no rfl (by omega) ?_) | (refine c_no rfl (fun h => h rfl) ?_) | (refine r_cond_false rfl ?_) | (refine r_cond_true rfl ?_) | (refine r_cond_true rfl ?_) | (refine r_cond_false rfl ?_) | (refine r_off rfl rfl rfl ?_) | (refine q_guard rfl rfl (fun _ => ?_) (fun _ => ?_)) | (refine q_guardn rfl rfl (fun _ => ?_) (fun _ => ?_)))
      refine r_loop (γ := (Nat × Hp) × (Option Addr × Nat)) (fun g => g.1.1 ≤ t.length ∧ g.1.2 pb = none ∧ Le v2 g.1.2 ∧ Off v2 g.2.1 ∧ Own g.1.2 g.2.1 g.1.1 g.2.2 61 8 ((rwD bs ts.length w ((rotL t f).take g.1.1) s2).1.flatMap Pr.c))
        (fun g => [(0, .v (pt0 pb)), (3, .p 3 0), (4, .p 4 0), (7, .p 7 0), (10, .p 10 0), (11, .p 11 0), (5, .v (.int .i64 (ts.length : Int))), (6, .v (.int .i64 (w : Int))), (8, .v (.int .i64 (kk : Int))), (35, .v (.slice (some ⟨b4, off4, none⟩) ts.length cg)), (36, .v (.int .i64 (ts.length : Int))), (37, .v (.int .i64 (j : Int))), (12, .v (.int .i64 (t.length : Int))), (13, .v (.int .i64 (f : Int))), (14, .v (.int .i64 (g.1.1 : Int)))])
        (fun g => [(11, ⟨none, [.v (.slice g.2.1 g.1.1 g.2.2)], 59⟩), (10, ⟨none, [.v (.slice A4 t.length c4)], 59⟩), (7, ⟨none, gsv r0 A8 T1.length c8, 51⟩), (4, ⟨none, [.v (.int .i64 0), .v (.int .i64 0), .v (.string ⟨⟨[]⟩⟩), .v (.int .i64 0), .v (.slice none 0 0)], 51⟩), (3, ⟨none, gsv v (some ⟨b4, off4, none⟩) ts.length cg, 51⟩)])
        (fun g => Wc g.1.2 pb A n c (rwD bs ts.length w ((rotL t f).take g.1.1) s2).2) (fun g => t.length - g.1.1)
        ((0, v2), (none, 0)) ⟨Nat.zero_le _, hp2, Le.refl v2, off_nil, own_nil⟩ (into rfl ⟨rfl, rfl, rfl, rfl, rfl, rfl, rfl, rfl, rfl, rfl, rfl, rfl, rfl, rfl, rfl, trivial⟩ ⟨rfl, rfl, rfl, rfl, rfl, trivial⟩ rfl rfl) ?_
      rintro ⟨⟨i, v3⟩, ⟨Ax, cx⟩⟩ ⟨hii, hp3, hl3, hof3, hO3⟩
      dsimp only at *
      have hX3 := hX2.le hl3 hp3
      by_cases hlti : i < t.length
      · have hrg := rot_get (t := t) (f := f) (i := i) (by omega) hlti
        have hmod : (f + i) % t.length < t.length := Nat.mod_lt _ (by omega)
        have hrw := rwD_at bs ts.length w ((rotL t f).take i) s2
        have hrl2 : ((rotL t f).take i).length = i := by rw [List.length_take]; omega
        obtain ⟨b7, off7, p, rfl, _, hix7, hm7, hat7⟩ := (hp4'.le (hl3.trans (wc_le (A := A) (n := n) (c := c) hp3 (rwD bs ts.length w ((rotL t f).take i) s2).2))).elem Pr.c_len hmod
        rw [hix7] at hrg
        have esn2 := rwD_snoc bs ts.length w p ((rotL t f).take i) s2
        rw [← take_snoc hrg] at esn2
        have hpv := i1 t hm4 p hm7
        have d2 := dledF v3 pb A n c ts.length w p.val (rwD bs ts.length w ((rotL t f).take i) s2).2 bs hX3 (by omega) (by omega) (by omega) (fun h4 => by have := hpv h4; omega)
        generalize rwD bs ts.length w ((rotL t f).take i) s2 = q3 at *
        obtain ⟨R1, s3⟩ := q3
        dsimp only at *
        generalize ledD bs ts.length w p.val s3 = q4 at *
        obtain ⟨pv, s4⟩ := q4
        dsimp only at *
        repeat' (first | (refine r_pure hT rfl rfl rfl rfl ?_) | (refine r_new hT rfl rfl rfl rfl ?_) | (refine r_write hT rfl rfl rfl ?_) | (refine r_nil ?_) | (refine q_nil ?_) | (refine c_yes rfl (by omega) ?_) | (refine r_addM (p := f) (q := i) rfl rfl rfl rfl rfl rfl (by omega) ?_) | (refine r_remN rfl rfl rfl rfl rfl rfl (by omega) ?_) | (refine r_indexN hT rfl rfl rfl rfl rfl rfl rfl rfl rfl hmod ?_) | (refine r_load hT hat7 rfl rfl rfl rfl rfl (Nat.add_zero _).symm rfl rfl rfl rfl rfl ?_) | (refine r_many (id := 21) [0, 1, 2, 3, 4, 5, 6, 7, 8] [10] (Wc v3 pb A n c s3) (Le.refl _) hM (by kernel_rfl) rfl (by kernel_rfl) rfl rfl rfl (fun β0 => ?_)) | (refine m_keep (Le.refl _) ⟨rfl, rfl, rfl, rfl, rfl, trivial⟩ rfl rfl ?_) | (refine m_late rfl rfl ?_) | ((refine r_call d2 rfl rfl rfl rfl rfl (hC _ rfl) rfl rfl (fun y0 u1 hy => ?_) ; subst hy)) | (refine r_bslice (t := 57) hT (ps := [(0, .tmp 72)]) rfl rfl rfl rfl rfl rfl rfl (by simp) rfl rfl (by decide) (fun b3 hb3 => ?_)) | (refine r_append (t := 57) hT (cs := R1.flatMap Pr.c) (news := [(⟨p.key, pv⟩ : Pr)].flatMap Pr.c) rfl rfl rfl rfl rfl rfl rfl rfl rfl rfl rfl (own_fr (hO3.le fun b o _ ho => wc_le hp3 s4 b o ho) hb3) (sl_blk (upd_here ..) rfl) (Pr.one _) (by dsimp only; omega) (by omega) (fun A6 c6 u6 hO6 hG6 => ?_)) | (refine r_arith rfl rfl rfl rfl rfl rfl rfl (by omega) ?_) | (with_reducible refine r_seq ?_) | (with_reducible refine x_then ?_) | (with_reducible refine r_region ?_) | (with_reducible refine r_skip ?_) | (with_reducible refine r_ret ?_) | (with_reducible refine x_then_ret ?_) | (with_reducible refine r_block ?_) | (with_reducible refine x_block ?_) | (with_reducible refine x_block_ret ?_) | (with_reducible refine r_exit ?_) | (with_reducible refine x_then_exit ?_) | (with_reducible refine x_block_here ?_) | (refine x_block_past rfl ?_) | (refine c_yes rfl (by omega) ?_) | (refine c_no rfl (by omega) ?_) | (refine c_no rfl (fun h => h rfl) ?_) | (refine r_cond_false rfl ?_) | (refine r_cond_true rfl ?_) | (refine r_cond_true rfl ?_) | (refine r_cond_false rfl ?_) | (refine r_off rfl rfl rfl ?_) | (refine q_guard rfl rfl (fun _ => ?_) (fun _ => ?_)) | (refine q_guardn rfl rfl (fun _ => ?_) (fun _ => ?_)) | (refine s_nil ?_) | (with_reducible refine a_full ?_) | (refine m_step rfl rfl (List.cons_ne_nil _ _) ?_) | (refine allR_cons rfl ?_ ?_) | (exact allR_nil) | (refine m_end rfl rfl rfl ?_))
        obtain ⟨v4, e5, hp5, hO5, hk5⟩ := wc_app hp3 hO3 hb3 hG6 hO6
        have hk6 := hk5 v2 hl3 hof3
        subst e5
        have e4 : s4 = (rwD bs ts.length w ((rotL t f).take (i + 1)) s2).2 := by rw [esn2]
        rw [e4]
        exact x_round ((i + 1, v4), (A6, c6)) ⟨hlti, hp5, hk6.1, hk6.2, by dsimp only; rw [esn2, List.flatMap_append]; exact hO5⟩ (by dsimp only; omega) (into rfl ⟨rfl, rfl, rfl, rfl, rfl, rfl, rfl, rfl, rfl, rfl, rfl, rfl, rfl, rfl, rfl, trivial⟩ ⟨rfl, rfl, rfl, rfl, rfl, trivial⟩ rfl rfl)
      · obtain rfl : i = t.length := by omega
        have e0 : (rotL t f).take t.length = rotL t f := by rw [← hrl, List.take_length]
        rw [e0] at hO3 ⊢
        have hrlen : (rwD bs ts.length w (rotL t f) s2).1.length = t.length := by rw [rwD_len, hrl]
        generalize rwD bs ts.length w (rotL t f) s2 = q3 at *
        obtain ⟨R1, s3⟩ := q3
        dsimp only at *
        repeat' (first | (refine r_pure hT rfl rfl rfl rfl ?_) | (refine r_new hT rfl rfl rfl rfl ?_) | (refine r_write hT rfl rfl rfl ?_) | (refine r_nil ?_) | (refine q_nil ?_) | (refine c_no rfl (by omega) ?_) | (refine r_bslice (t := 49) hT (ps := [(0, .tmp 78)]) rfl rfl rfl rfl rfl rfl rfl (by simp) rfl rfl (by decide) (fun b3 hb3 => ?_)) | (refine r_append (t := 49) hT (cs := hs8.flatMap Hd.v) (news := [(⟨Ax, t.length, cx⟩ : Hd)].flatMap Hd.v) rfl rfl rfl rfl rfl rfl rfl rfl rfl rfl rfl (own_fr (hO8.own.le fun b o _ ho => wc_le hp3 s3 b o (hl3 b o ho)) hb3) (sl_blk (upd_here ..) rfl) (heads_one _) (by dsimp only; omega) (by omega) (fun A6 c6 u6 hO6 hG6 => ?_)) | (refine r_arith rfl rfl rfl rfl rfl rfl rfl (by omega) ?_) | (with_reducible refine r_seq ?_) | (with_reducible refine x_then ?_) | (with_reducible refine r_region ?_) | (refine r_draw hM (by kernel_rfl) ?_) | (with_reducible refine r_skip ?_) | (with_reducible refine r_ret ?_) | (with_reducible refine x_then_ret ?_) | (with_reducible refine r_block ?_) | (with_reducible refine x_block ?_) | (with_reducible refine x_block_ret ?_) | (with_reducible refine r_exit ?_) | (with_reducible refine x_then_exit ?_) | (with_reducible refine x_block_here ?_) | (refine x_block_past rfl ?_) | (refine c_yes rfl (by omega) ?_) | (refine c_no rfl (by omega) ?_) | (refine c_no rfl (fun h => h rfl) ?_) | (refine r_cond_false rfl ?_) | (refine r_cond_true rfl ?_) | (refine r_cond_true rfl ?_) | (refine r_cond_false rfl ?_) | (refine r_off rfl rfl rfl ?_) | (refine q_guard rfl rfl (fun _ => ?_) (fun _ => ?_)) | (refine q_guardn rfl rfl (fun _ => ?_) (fun _ => ?_)))
        obtain ⟨v4, e5, hp5, hO5, hk5⟩ := wc_app hp3 (hO8.own.le fun b o _ ho => hl3 b o ho) hb3 hG6 hO6
        subst e5
        obtain ⟨k1, k2, k3⟩ := OT.push hO8 hof8 hle8 hl3 (y := ⟨Ax, t.length, cx⟩) (t := R1) hrlen.symm hO3 hof3 hO5 hk5
        have e3 : T1 ++ [R1] = (trD bs ts.length w (repT ts kk ++ ts.take (j + 1)) s0).1 := by rw [esn]
        have e4 : s3 = (trD bs ts.length w (repT ts kk ++ ts.take (j + 1)) s0).2 := by rw [esn]
        have e6 : T1.length + 1 = (trD bs ts.length w (repT ts kk ++ ts.take (j + 1)) s0).1.length := by rw [← e3]; simp
        rw [e4]
        exact x_round ((j + 1, v4), ((A6, c6), hs8 ++ [⟨Ax, t.length, cx⟩])) ⟨hltj, hp5, by dsimp only; rw [← e6, ← e3]; exact k1, k3, k2⟩ (by dsimp only; omega) (into rfl ⟨rfl, rfl, rfl, rfl, rfl, rfl, rfl, rfl, rfl, rfl, trivial⟩ ⟨congrArg (fun z : Nat => some (⟨none, gsv r0 A6 z c6, 51⟩ : Blk)) e6, rfl, rfl, trivial⟩ rfl rfl)
    · obtain rfl : j = ts.length := by omega
      have e0 : repT ts kk ++ ts.take ts.length = repT ts (kk + 1) := by rw [List.take_length]; rfl
      rw [e0] at hO8 ⊢
      repeat' (first | (refine r_pure hT rfl rfl rfl rfl ?_) | (refine r_new hT rfl rfl rfl rfl ?_) | (refine r_write hT rfl rfl rfl ?_) | (refine r_nil ?_) | (refine q_nil ?_) | (refine c_no rfl (by omega) ?_) | (refine r_arith rfl rfl rfl rfl rfl rfl rfl (by omega) ?_) | (with_reducible refine r_seq ?_) | (with_reducible refine x_then ?_) | (with_reducible refine r_region ?_) | (refine r_draw hM (by kernel_rfl) ?_) | (with_reducible refine r_skip ?_) | (with_reducible refine r_ret ?_) | (with_reducible refine x_then_ret ?_) | (with_reducible refine r_block ?_) | (with_reducible refine x_block ?_) | (with_reducible refine x_block_ret ?_) | (with_reducible refine r_exit ?_) | (with_reducible refine x_then_exit ?_) | (with_reducible refine x_block_here ?_) | (refine x_block_past rfl ?_) | (refine c_yes rfl (by omega) ?_) | (refine c_no rfl (by omega) ?_) | (refine c_no rfl (fun h => h rfl) ?_) | (refine r_cond_false rfl ?_) | (refine r_cond_true rfl ?_) | (refine r_cond_true rfl ?_) | (refine r_cond_false rfl ?_) | (refine r_off rfl rfl rfl ?_) | (refine q_guard rfl rfl (fun _ => ?_) (fun _ => ?_)) | (refine q_guardn rfl rfl (fun _ => ?_) (fun _ => ?_)))
      exact x_round ((kk + 1, v2), ((A8, c8), hs8)) ⟨hltk, hp2, hO8, hle8, hof8⟩ (by dsimp only; omega) (into rfl ⟨rfl, rfl, rfl, rfl, rfl, rfl, rfl, trivial⟩ ⟨rfl, rfl, rfl, trivial⟩ rfl rfl)
  · obtain rfl : kk = w := by omega
    repeat' (first | (refine r_pure hT rfl rfl rfl rfl ?_) | (refine r_new hT rfl rfl rfl rfl ?_) | (refine r_write hT rfl rfl rfl ?_) | (refine r_nil ?_) | (refine q_nil ?_) | (refine c_no rfl (by omega) ?_) | (refine r_arith rfl rfl rfl rfl rfl rfl rfl (by omega) ?_) | (with_reducible refine r_seq ?_) | (with_reducible refine x_then ?_) | (with_reducible refine r_region ?_) | (refine r_draw hM (by kernel_rfl) ?_) | (with_reducible refine r_skip ?_) | (with_reducible refine r_ret ?_) | (with_reducible refine x_then_ret ?_) | (with_reducible refine r_block ?_) | (with_reducible refine x_block ?_) | (with_reducible refine x_block_ret ?_) | (with_reducible refine r_exit ?_) | (with_reducible refine x_then_exit ?_) | (with_reducible refine x_block_here ?_) | (refine x_block_past rfl ?_) | (refine c_yes rfl (by omega) ?_) | (refine c_no rfl (by omega) ?_) | (refine c_no rfl (fun h => h rfl) ?_) | (refine r_cond_false rfl ?_) | (refine r_cond_true rfl ?_) | (refine r_cond_true rfl ?_) | (refine r_cond_false rfl ?_) | (refine r_off rfl rfl rfl ?_) | (refine q_guard rfl rfl (fun _ => ?_) (fun _ => ?_)) | (refine q_guardn rfl rfl (fun _ => ?_) (fun _ => ?_)))
    exact r_fin hT rfl (((A7, c7), hs7) : OY) rfl rfl rfl trivial rfl ⟨v1, rfl, hp1, hle7, hO7, hof7⟩
theorem drawn (h : Hp) (A : Option Addr) (n c : Nat) (bs : List Int) (hB : Bys h A n bs) (hb : ∀ x ∈ bs, 0 ≤ x ∧ x ≤ 255) (hn : n ≤ 1048576) :
    TriS Tryd.prog 45 [.v (.slice A n c)] [] h (fun y : Option Addr × Nat => .ag (gsv (grD bs (0, 0)).1.1 y.1 (grD bs (0, 0)).1.2.length y.2)) (fun _ => []) (fun y h' => Tabs h' y.1 (grD bs (0, 0)).1.2.length (grD bs (0, 0)).1.2 ∧ Le h h') := by
  refine enterS Tryd.func45 rfl (n := 9) rfl rfl (fun k N => ?_)
  repeat' (first | (refine r_pure hT rfl rfl rfl rfl ?_) | (refine r_new hT rfl rfl rfl rfl ?_) | (refine r_write hT rfl rfl rfl ?_) | (refine r_nil ?_) | (refine q_nil ?_) | (refine r_build hT rfl rfl rfl (ps := [(0, .tmp 4)]) rfl rfl rfl rfl rfl rfl ?_) | (refine r_arith rfl rfl rfl rfl rfl rfl rfl (by omega) ?_) | (with_reducible refine r_seq ?_) | (with_reducible refine x_then ?_) | (with_reducible refine r_region ?_) | (refine r_draw hM (by kernel_rfl) ?_) | (with_reducible refine r_skip ?_) | (with_reducible refine r_ret ?_) | (with_reducible refine x_then_ret ?_) | (with_reducible refine r_block ?_) | (with_reducible refine x_block ?_) | (with_reducible refine x_block_ret ?_) | (with_reducible refine r_exit ?_) | (with_reducible refine x_then_exit ?_) | (with_reducible refine x_block_here ?_) | (refine x_block_past rfl ?_) | (refine c_yes rfl (by omega) ?_) | (refine c_no rfl (by omega) ?_) | (refine c_no rfl (fun h => h rfl) ?_) | (refine r_cond_false rfl ?_) | (refine r_cond_true rfl ?_) | (refine r_cond_dec rfl (fun _ => ?_) (fun _ => ?_)) | (refine r_cond_true rfl ?_) | (refine r_cond_false rfl ?_) | (refine c_not rfl (fun _ => ?_) (fun _ => ?_)) | (refine r_off rfl rfl rfl ?_) | (refine q_guard rfl rfl (fun _ => ?_) (fun _ => ?_)) | (refine q_guardn rfl rfl (fun _ => ?_) (fun _ => ?_)))
  refine r_pub 6 (fun _ => cuCells A n c (0, 0)) rfl rfl (fun _ => rfl) (fun pb hpb => ?_)
  change h pb = none at hpb
  have hX : Cx h pb A n bs := ⟨hpb, hB, hb, hn⟩
  repeat' (first | (refine r_pure hT rfl rfl rfl rfl ?_) | (refine r_new hT rfl rfl rfl rfl ?_) | (refine r_write hT rfl rfl rfl ?_) | (refine r_nil ?_) | (refine q_nil ?_) | (refine r_call (graphF h pb A n c (0, 0) bs hX (by dsimp only; omega)) rfl rfl rfl rfl rfl (hC _ rfl) rfl rfl (fun y u1 hy => ?_)) | (refine r_arith rfl rfl rfl rfl rfl rfl rfl (by omega) ?_) | (with_reducible refine r_seq ?_) | (with_reducible refine x_then ?_) | (with_reducible refine r_region ?_) | (refine r_draw hM (by kernel_rfl) ?_) | (with_reducible refine r_skip ?_) | (with_reducible refine r_ret ?_) | (with_reducible refine x_then_ret ?_) | (with_reducible refine r_block ?_) | (with_reducible refine x_block ?_) | (with_reducible refine x_block_ret ?_) | (with_reducible refine r_exit ?_) | (with_reducible refine x_then_exit ?_) | (with_reducible refine x_block_here ?_) | (refine x_block_past rfl ?_) | (refine c_yes rfl (by omega) ?_) | (refine c_no rfl (by omega) ?_) | (refine c_no rfl (fun h => h rfl) ?_) | (refine r_cond_false rfl ?_) | (refine r_cond_true rfl ?_) | (refine r_cond_dec rfl (fun _ => ?_) (fun _ => ?_)) | (refine r_cond_true rfl ?_) | (refine r_cond_false rfl ?_) | (refine c_not rfl (fun _ => ?_) (fun _ => ?_)) | (refine r_off rfl rfl rfl ?_) | (refine q_guard rfl rfl (fun _ => ?_) (fun _ => ?_)) | (refine q_guardn rfl rfl (fun _ => ?_) (fun _ => ?_)))
  obtain ⟨h', rfl, hp', hl', hT'⟩ := hy
  exact r_fin hT rfl y rfl rfl rfl trivial rfl ⟨hT'.le (wc_le hp' _), hl'.trans (wc_le hp' _)⟩
theorem turned (h : Hp) (A : Option Addr) (n c : Nat) (bs : List Int) (hB : Bys h A n bs) (hb : ∀ x ∈ bs, 0 ≤ x ∧ x ≤ 255) (hn : n ≤ 1048576) (v : V) (ts : List (List Pr)) (Ag : Option Addr) (cg : Nat) (hP : Tabs h Ag ts.length ts) (hg : GOk v ts) :
    TriS Tryd.prog 48 [.ag (gsv v Ag ts.length cg), .v (.slice A n c)] [] h (fun y : OY => .ag (gsv (tuD bs v ts (0, 0)).1.1 y.1.1 (tuD bs v ts (0, 0)).1.2.length y.1.2)) (fun _ => [])
      (fun y h' => OT h' 59 61 y.1.1 (tuD bs v ts (0, 0)).1.2.length y.1.2 y.2 (tuD bs v ts (0, 0)).1.2 ∧ Le h h' ∧ OffAll h y.1.1 y.2) := by
  refine enterS Tryd.func48 rfl (n := 12) rfl rfl (fun k N => ?_)
  repeat' (first | (refine r_pure hT rfl rfl rfl rfl ?_) | (refine r_new hT rfl rfl rfl rfl ?_) | (refine r_write hT rfl rfl rfl ?_) | (refine r_nil ?_) | (refine q_nil ?_) | (refine r_build hT rfl rfl rfl (ps := [(0, .tmp 6)]) rfl rfl rfl rfl rfl rfl ?_) | (refine r_arith rfl rfl rfl rfl rfl rfl rfl (by omega) ?_) | (with_reducible refine r_seq ?_) | (with_reducible refine x_then ?_) | (with_reducible refine r_region ?_) | (refine r_draw hM (by kernel_rfl) ?_) | (with_reducible refine r_skip ?_) | (with_reducible refine r_ret ?_) | (with_reducible refine x_then_ret ?_) | (with_reducible refine r_block ?_) | (with_reducible refine x_block ?_) | (with_reducible refine x_block_ret ?_) | (with_reducible refine r_exit ?_) | (with_reducible refine x_then_exit ?_) | (with_reducible refine x_block_here ?_) | (refine x_block_past rfl ?_) | (refine c_yes rfl (by omega) ?_) | (refine c_no rfl (by omega) ?_) | (refine c_no rfl (fun h => h rfl) ?_) | (refine r_cond_false rfl ?_) | (refine r_cond_true rfl ?_) | (refine r_cond_dec rfl (fun _ => ?_) (fun _ => ?_)) | (refine r_cond_true rfl ?_) | (refine r_cond_false rfl ?_) | (refine c_not rfl (fun _ => ?_) (fun _ => ?_)) | (refine r_off rfl rfl rfl ?_) | (refine q_guard rfl rfl (fun _ => ?_) (fun _ => ?_)) | (refine q_guardn rfl rfl (fun _ => ?_) (fun _ => ?_)))
  refine r_pub 8 (fun _ => cuCells A n c (0, 0)) rfl rfl (fun _ => rfl) (fun pb hpb => ?_)
  change h pb = none at hpb
  have hX : Cx h pb A n bs := ⟨hpb, hB, hb, hn⟩
  repeat' (first | (refine r_pure hT rfl rfl rfl rfl ?_) | (refine r_new hT rfl rfl rfl rfl ?_) | (refine r_write hT rfl rfl rfl ?_) | (refine r_nil ?_) | (refine q_nil ?_) | (refine r_call (turnedF h pb A n c (0, 0) bs hX (by dsimp only; omega) v ts Ag cg hP hg) rfl rfl rfl rfl rfl (hC _ rfl) rfl rfl (fun y u1 hy => ?_)) | (refine r_arith rfl rfl rfl rfl rfl rfl rfl (by omega) ?_) | (with_reducible refine r_seq ?_) | (with_reducible refine x_then ?_) | (with_reducible refine r_region ?_) | (refine r_draw hM (by kernel_rfl) ?_) | (with_reducible refine r_skip ?_) | (with_reducible refine r_ret ?_) | (with_reducible refine x_then_ret ?_) | (with_reducible refine r_block ?_) | (with_reducible refine x_block ?_) | (with_reducible refine x_block_ret ?_) | (with_reducible refine r_exit ?_) | (with_reducible refine x_then_exit ?_) | (with_reducible refine x_block_here ?_) | (refine x_block_past rfl ?_) | (refine c_yes rfl (by omega) ?_) | (refine c_no rfl (by omega) ?_) | (refine c_no rfl (fun h => h rfl) ?_) | (refine r_cond_false rfl ?_) | (refine r_cond_true rfl ?_) | (refine r_cond_dec rfl (fun _ => ?_) (fun _ => ?_)) | (refine r_cond_true rfl ?_) | (refine r_cond_false rfl ?_) | (refine c_not rfl (fun _ => ?_) (fun _ => ?_)) | (refine r_off rfl rfl rfl ?_) | (refine q_guard rfl rfl (fun _ => ?_) (fun _ => ?_)) | (refine q_guardn rfl rfl (fun _ => ?_) (fun _ => ?_)))
  obtain ⟨h', rfl, hp', hl', hT', hof'⟩ := hy
  exact r_fin hT rfl y rfl rfl rfl trivial rfl ⟨hT'.le (wc_le hp' _), hl'.trans (wc_le hp' _), hof'⟩
end Go.Proofs.YtkamfnmbidnhdaaDoor
