/- The drawer's turned graphs; spec.Drawn, spec.Turned. No condition. -/
import Derived.Test.YtkamfnmbidnhdaaDoorSyDMf
import Derived.Test.YtkamfnmbidnhdaaDoorSqAN
import Derived.Test.YtkamfnmbidnhdaaDoorSqAP
import Derived.Test.YtkamfnmbidnhdaaDoorSqAE
set_option linter.unusedVariables false
set_option linter.unusedSimpArgs false
set_option linter.unusedSectionVars false
namespace Go.Proofs.YtkamfnmbidnhdaaDoor
open Go.Sy
set_option maxRecDepth 100000
set_option maxHeartbeats 8000000
set_option linter.unusedVariables false
set_option linter.unusedSimpArgs false
/-- A table is added to tables of one's own. -/
theorem OT.push {h u u1 u3 : Hp} {A A' : Option Addr} {c c' : Nat} {hs : List Hd} {ts : List (List Pr)} (g : OT u 59 61 A ts.length c hs ts) (hoff : OffAll h A hs) (hle : Le h u) (hu : Le u u1) {y : Hd} {t : List Pr} (hn : y.n = t.length) (hy : Own u1 y.A y.n y.c 61 8 (t.flatMap Pr.c)) (hof : Off u y.A)
    (hO : Own u3 A' (ts.length + 1) c' 59 1 (hs.flatMap Hd.v ++ [y].flatMap Hd.v)) (hG : Grown u1 u3 A A') : OT u3 59 61 A' (ts.length + 1) c' (hs ++ [y]) (ts ++ [t]) ∧ OffAll h A' (hs ++ [y]) ∧ Le h u3 := by
  obtain ⟨k1, k2⟩ := hG (ptw u1 A) (ptw_le u1 A) (ptw_off u1 A)
  obtain ⟨k3, k4⟩ := hG h (hle.trans hu) hoff.1
  have hpt : ∀ b o, blk A ≠ some b → u1 b = some o → ptw u1 A b = some o := fun b o hb ho => by unfold ptw; rw [if_neg hb]; exact ho
  have hrow : ∀ x ∈ hs, ∀ b, blk x.A = some b → blk A ≠ some b := fun x hx b hb => by
    obtain ⟨i, hi⟩ := List.getElem?_of_mem hx
    exact (g.rows.apart i x b hi hb).1
  have hya : ∀ b, blk y.A = some b → blk A ≠ some b := fun b hb e => by
    have := hof b hb
    cases A with
    | none => cases e
    | some a =>
      obtain ⟨_, arr, h2, _⟩ := g.own.row a rfl
      have e1 : a.block = b := Option.some.inj e
      rw [e1, this] at h2; cases h2
  have hX : ∀ b, u1 b ≠ none → blk A ≠ some b → blk A' ≠ some b := fun b hb hA e => by
    have := k2 b e
    cases hh : u1 b with
    | none => exact hb hh
    | some o => rw [hpt b o hA hh] at this; cases this
  have hR : ORows u 61 (blk A') hs ts := ⟨g.rows.len, g.rows.rows, fun i x b hx hb => ⟨hX b (fun e => by
    have := g.rows.live (List.mem_of_getElem? hx) hb
    cases hh : u b with
    | none => exact this hh
    | some o => rw [hu b o hh] at e; cases e) (hrow x (List.mem_of_getElem? hx) b hb), (g.rows.apart i x b hx hb).2⟩⟩
  refine ⟨⟨by simp, by rw [List.flatMap_append]; exact hO, hR.snoc (fun b o hx ho => ?_) hn (hy.le fun b o hb ho => k1 b o (hpt b o (hya b hb) ho)) (fun b hb => ⟨hX b (fun e => ?_) (hya b hb), hof b hb⟩)⟩, ⟨k4, fun x hx => ?_⟩, k3⟩
  · obtain ⟨x, hx, hb⟩ := hx
    exact k1 b o (hpt b o (hrow x hx b hb) (hu b o ho))
  · exact hy.live hb e
  · rcases List.mem_append.1 hx with hx | hx
    · exact hoff.2 x hx
    · rw [List.mem_singleton] at hx; subst hx
      exact fun b hb => none_of hle (hof b hb)
def repT (ts : List (List Pr)) : Nat → List (List Pr)
  | 0 => []
  | k + 1 => repT ts k ++ ts
theorem repT_dup {n : Nat} (ts : List (List Pr)) : repT ts (twD n) = dupL (twD n) ts := by
  rcases twD_rng n with h | h <;> rw [h] <;> simp [repT, dupL]
theorem repT_len (ts : List (List Pr)) : ∀ k, (repT ts k).length = k * ts.length
  | 0 => by simp [repT]
  | k + 1 => by rw [repT, List.length_append, repT_len ts k, Nat.add_mul]; omega
theorem repT_mem {ts : List (List Pr)} {t : List Pr} : ∀ {k : Nat}, t ∈ repT ts k → t ∈ ts
  | 0, h => by cases h
  | k + 1, h => by
    rcases List.mem_append.1 h with h | h
    · exact repT_mem h
    · exact h
theorem turnedF (h : Hp) (pb : Nat) (A : Option Addr) (n c : Nat) (s : DS) (bs : List Int) (hX : Cx h pb A n bs) (hi : s.1 ≤ 1000000) (v : V) (ts : List (List Pr)) (Ag : Option Addr) (cg : Nat) (hP : Tabs h Ag ts.length ts) (hg : GOk v ts) :
    TriS Tryd.prog 92 [.v (pt0 pb), .ag (gsv v Ag ts.length cg)] [] (Wc h pb A n c s) (fun y : OY => .ag (gsv (tuD bs v ts s).1.1 y.1.1 (tuD bs v ts s).1.2.length y.1.2)) (fun _ => [])
      (fun y u' => ∃ h', u' = Wc h' pb A n c (tuD bs v ts s).2 ∧ h' pb = none ∧ Le h h' ∧ OT h' 59 61 y.1.1 (tuD bs v ts s).1.2.length y.1.2 y.2 (tuD bs v ts s).1.2 ∧ OffAll h y.1.1 y.2) := by
  obtain ⟨i1, i2, i3, i4⟩ := gok_in hg
  have hw := twD_rng ts.length
  have l0 := ledD_at bs ts.length (twD ts.length) v s
  have c0 := dledF h pb A n c ts.length (twD ts.length) v s bs hX (by omega) (by omega) (by omega) (fun h4 => by have := i2 h4; omega)
  unfold tuD
  have htw : twD ts.length = if 2 * ts.length ≤ 200 then 2 else 1 := rfl
  generalize ledD bs ts.length (twD ts.length) v s = w0 at *
  obtain ⟨r0, s0⟩ := w0
  dsimp only at *
  rw [← repT_dup]
  refine enterS Tryd.func92 rfl (n := 84) rfl rfl (fun k N => ?_)
  repeat' (first | (refine r_pure hT rfl rfl rfl rfl ?_) | (refine r_new hT rfl rfl rfl rfl ?_) | (refine r_write hT rfl rfl rfl ?_) | (refine r_nil ?_) | (refine q_nil ?_) | (refine r_arith rfl rfl rfl rfl rfl rfl rfl (by omega) ?_) | (with_reducible refine r_seq ?_) | (with_reducible refine x_then ?_) | (with_reducible refine r_region ?_) | (refine r_draw hM (by kernel_rfl) ?_) | (with_reducible refine r_skip ?_) | (with_reducible refine r_ret ?_) | (with_reducible refine x_then_ret ?_) | (with_reducible refine r_block ?_) | (with_reducible refine x_block ?_) | (with_reducible refine x_block_ret ?_) | (with_reducible refine r_exit ?_) | (with_reducible refine x_then_exit ?_) | (with_reducible refine x_block_here ?_) | (refine x_block_past rfl ?_) | (refine c_yes rfl (by omega) ?_) | (refine c_no rfl (by omega) ?_) | (refine c_no rfl (fun h => h rfl) ?_) | (refine r_cond_false rfl ?_) | (refine r_cond_true rfl ?_) | (refine r_cond_true rfl ?_) | (refine r_cond_false rfl ?_) | (refine r_off rfl rfl rfl ?_) | (refine q_guard rfl rfl (fun _ => ?_) (fun _ => ?_)) | (refine q_guardn rfl rfl (fun _ => ?_) (fun _ => ?_)))
  refine r_cutD (c := .tmp 21) (γ := Unit) (p := 2 * (ts.length : Int) ≤ 200) rfl (fun _ => True) (fun _ => [(0, .v (pt0 pb)), (3, .p 3 0), (4, .p 4 0), (5, .v (.int .i64 (ts.length : Int))), (6, .v (.int .i64 (twD ts.length : Int)))])
    (fun _ => [(4, ⟨none, [.v (.int .i64 0), .v (.int .i64 0), .v (.string ⟨⟨[]⟩⟩), .v (.int .i64 0), .v (.slice none 0 0)], 51⟩), (3, ⟨none, gsv v Ag ts.length cg, 51⟩)]) (fun _ => Wc h pb A n c s) (fun h0 => ?_) (fun h0 => ?_) (fun _ _ => ?_)
  · have e : twD ts.length = 2 := by rw [htw]; exact if_pos (by omega)
    repeat' (first | (refine r_pure hT rfl rfl rfl rfl ?_) | (refine r_new hT rfl rfl rfl rfl ?_) | (refine r_write hT rfl rfl rfl ?_) | (refine r_nil ?_) | (refine q_nil ?_) | (refine r_arith rfl rfl rfl rfl rfl rfl rfl (by omega) ?_) | (with_reducible refine r_seq ?_) | (with_reducible refine x_then ?_) | (with_reducible refine r_region ?_) | (refine r_draw hM (by kernel_rfl) ?_) | (with_reducible refine r_skip ?_) | (with_reducible refine r_ret ?_) | (with_reducible refine x_then_ret ?_) | (with_reducible refine r_block ?_) | (with_reducible refine x_block ?_) | (with_reducible refine x_block_ret ?_) | (with_reducible refine r_exit ?_) | (with_reducible refine x_then_exit ?_) | (with_reducible refine x_block_here ?_) | (refine x_block_past rfl ?_) | (refine c_yes rfl (by omega) ?_) | (refine c_no rfl (by omega) ?_) | (refine c_no rfl (fun h => h rfl) ?_) | (refine r_cond_false rfl ?_) | (refine r_cond_true rfl ?_) | (refine r_cond_dec rfl (fun _ => ?_) (fun _ => ?_)) | (refine r_cond_true rfl ?_) | (refine r_cond_false rfl ?_) | (refine c_not rfl (fun _ => ?_) (fun _ => ?_)) | (refine r_off rfl rfl rfl ?_) | (refine q_guard rfl rfl (fun _ => ?_) (fun _ => ?_)) | (refine q_guardn rfl rfl (fun _ => ?_) (fun _ => ?_)))
    exact x_cut () trivial (into rfl ⟨rfl, rfl, rfl, rfl, congrArg (fun z : Nat => some (SV.v (.int .i64 (z : Int)))) e.symm, trivial⟩ ⟨rfl, rfl, trivial⟩ rfl rfl)
  · have e : twD ts.length = 1 := by rw [htw]; exact if_neg (by omega)
    repeat' (first | (refine r_pure hT rfl rfl rfl rfl ?_) | (refine r_new hT rfl rfl rfl rfl ?_) | (refine r_write hT rfl rfl rfl ?_) | (refine r_nil ?_) | (refine q_nil ?_) | (refine r_arith rfl rfl rfl rfl rfl rfl rfl (by omega) ?_) | (with_reducible refine r_seq ?_) | (with_reducible refine x_then ?_) | (with_reducible refine r_region ?_) | (refine r_draw hM (by kernel_rfl) ?_) | (with_reducible refine r_skip ?_) | (with_reducible refine r_ret ?_) | (with_reducible refine x_then_ret ?_) | (with_reducible refine r_block ?_) | (with_reducible refine x_block ?_) | (with_reducible refine x_block_ret ?_) | (with_reducible refine r_exit ?_) | (with_reducible refine x_then_exit ?_) | (with_reducible refine x_block_here ?_) | (refine x_block_past rfl ?_) | (refine c_yes rfl (by omega) ?_) | (refine c_no rfl (by omega) ?_) | (refine c_no rfl (fun h => h rfl) ?_) | (refine r_cond_false rfl ?_) | (refine r_cond_true rfl ?_) | (refine r_cond_dec rfl (fun _ => ?_) (fun _ => ?_)) | (refine r_cond_true rfl ?_) | (refine r_cond_false rfl ?_) | (refine c_not rfl (fun _ => ?_) (fun _ => ?_)) | (refine r_off rfl rfl rfl ?_) | (refine q_guard rfl rfl (fun _ => ?_) (fun _ => ?_)) | (refine q_guardn rfl rfl (fun _ => ?_) (fun _ => ?_)))
    exact x_cut () trivial (into rfl ⟨rfl, rfl, rfl, rfl, congrArg (fun z : Nat => some (SV.v (.int .i64 (z : Int)))) e.symm, trivial⟩ ⟨rfl, rfl, trivial⟩ rfl rfl)
  clear htw
  generalize hwd : twD ts.length = w at *
  repeat' (first | (refine r_pure hT rfl rfl rfl rfl ?_) | (refine r_new hT rfl rfl rfl rfl ?_) | (refine r_write hT rfl rfl rfl ?_) | (refine r_nil ?_) | (refine q_nil ?_) | ((refine r_call c0 rfl rfl rfl rfl rfl (hC _ rfl) rfl rfl (fun y0 u1 hy => ?_) ; subst hy)) | (refine r_arith rfl rfl rfl rfl rfl rfl rfl (by omega) ?_) | (with_reducible refine r_seq ?_) | (with_reducible refine x_then ?_) | (with_reducible refine r_region ?_) | (refine r_draw hM (by kernel_rfl) ?_) | (with_reducible refine r_skip ?_) | (with_reducible refine r_ret ?_) | (with_reducible refine x_then_ret ?_) | (with_reducible refine r_block ?_) | (with_reducible refine x_block ?_) | (with_reducible refine x_block_ret ?_) | (with_reducible refine r_exit ?_) | (with_reducible refine x_then_exit ?_) | (with_reducible refine x_block_here ?_) | (refine x_block_past rfl ?_) | (refine c_yes rfl (by omega) ?_) | (refine c_no rfl (by omega) ?_) | (refine c_no rfl (fun h => h rfl) ?_) | (refine r_cond_false rfl ?_) | (refine r_cond_true rfl ?_) | (refine r_cond_true rfl ?_) | (refine r_cond_false rfl ?_) | (refine r_off rfl rfl rfl ?_) | (refine q_guard rfl rfl (fun _ => ?_) (fun _ => ?_)) | (refine q_guardn rfl rfl (fun _ => ?_) (fun _ => ?_)))
  refine r_loop (γ := (Nat × Hp) × OY) (fun g => g.1.1 ≤ w ∧ g.1.2 pb = none ∧ OT g.1.2 59 61 g.2.1.1 (trD bs ts.length w (repT ts g.1.1) s0).1.length g.2.1.2 g.2.2 (trD bs ts.length w (repT ts g.1.1) s0).1 ∧ Le h g.1.2 ∧ OffAll h g.2.1.1 g.2.2)
    (fun g => [(0, .v (pt0 pb)), (3, .p 3 0), (4, .p 4 0), (7, .p 7 0), (5, .v (.int .i64 (ts.length : Int))), (6, .v (.int .i64 (w : Int))), (8, .v (.int .i64 (g.1.1 : Int)))])
    (fun g => [(7, ⟨none, gsv r0 g.2.1.1 (trD bs ts.length w (repT ts g.1.1) s0).1.length g.2.1.2, 51⟩), (4, ⟨none, [.v (.int .i64 0), .v (.int .i64 0), .v (.string ⟨⟨[]⟩⟩), .v (.int .i64 0), .v (.slice none 0 0)], 51⟩), (3, ⟨none, gsv v Ag ts.length cg, 51⟩)])
    (fun g => Wc g.1.2 pb A n c (trD bs ts.length w (repT ts g.1.1) s0).2) (fun g => w - g.1.1)
    ((0, h), ((none, 0), [])) ⟨Nat.zero_le _, hX.hp, ⟨rfl, own_nil, ORows.nil⟩, Le.refl h, off_nil, fun x hx => (by cases hx)⟩ (into rfl ⟨rfl, rfl, rfl, rfl, rfl, rfl, rfl, trivial⟩ ⟨rfl, rfl, rfl, trivial⟩ rfl rfl) ?_
  rintro ⟨⟨kk, v1⟩, ⟨⟨A7, c7⟩, hs7⟩⟩ ⟨hkk, hp1, hO7, hle7, hof7⟩
  dsimp only at *
  by_cases hltk : kk < w
  · repeat' (first | (refine r_pure hT rfl rfl rfl rfl ?_) | (refine r_new hT rfl rfl rfl rfl ?_) | (refine r_write hT rfl rfl rfl ?_) | (refine r_nil ?_) | (refine q_nil ?_) | (refine c_yes rfl (by omega) ?_) | (refine r_arith rfl rfl rfl rfl rfl rfl rfl (by omega) ?_) | (with_reducible refine r_seq ?_) | (with_reducible refine x_then ?_) | (with_reducible refine r_region ?_) | (refine r_draw hM (by kernel_rfl) ?_) | (with_reducible refine r_skip ?_) | (with_reducible refine r_ret ?_) | (with_reducible refine x_then_ret ?_) | (with_reducible refine r_block ?_) | (with_reducible refine x_block ?_) | (with_reducible refine x_block_ret ?_) | (with_reducible refine r_exit ?_) | (with_reducible refine x_then_exit ?_) | (with_reducible refine x_block_here ?_) | (refine x_block_past rfl ?_) | (refine c_yes rfl (by omega) ?_) | (refine c_no rfl (by omega) ?_) | (refine c_no rfl (fun h => h rfl) ?_) | (refine r_cond_false rfl ?_) | (refine r_cond_true rfl ?_) | (refine r_cond_true rfl ?_) | (refine r_cond_false rfl ?_) | (refine r_off rfl rfl rfl ?_) | (refine q_guard rfl rfl (fun _ => ?_) (fun _ => ?_)) | (refine q_guardn rfl rfl (fun _ => ?_) (fun _ => ?_)))
    refine r_loop (γ := (Nat × Hp) × OY) (fun g => g.1.1 ≤ ts.length ∧ g.1.2 pb = none ∧ OT g.1.2 59 61 g.2.1.1 (trD bs ts.length w (repT ts kk ++ ts.take g.1.1) s0).1.length g.2.1.2 g.2.2 (trD bs ts.length w (repT ts kk ++ ts.take g.1.1) s0).1 ∧ Le h g.1.2 ∧ OffAll h g.2.1.1 g.2.2)
      (fun g => [(0, .v (pt0 pb)), (3, .p 3 0), (4, .p 4 0), (7, .p 7 0), (5, .v (.int .i64 (ts.length : Int))), (6, .v (.int .i64 (w : Int))), (8, .v (.int .i64 (kk : Int))), (35, .v (.slice Ag ts.length cg)), (36, .v (.int .i64 (ts.length : Int))), (37, .v (.int .i64 (g.1.1 : Int)))])
      (fun g => [(7, ⟨none, gsv r0 g.2.1.1 (trD bs ts.length w (repT ts kk ++ ts.take g.1.1) s0).1.length g.2.1.2, 51⟩), (4, ⟨none, [.v (.int .i64 0), .v (.int .i64 0), .v (.string ⟨⟨[]⟩⟩), .v (.int .i64 0), .v (.slice none 0 0)], 51⟩), (3, ⟨none, gsv v Ag ts.length cg, 51⟩)])
      (fun g => Wc g.1.2 pb A n c (trD bs ts.length w (repT ts kk ++ ts.take g.1.1) s0).2) (fun g => ts.length - g.1.1)
      ((0, v1), ((A7, c7), hs7)) ⟨Nat.zero_le _, hp1, by simpa using hO7, hle7, hof7⟩ ?_ ?_
    · have e : repT ts kk ++ ts.take 0 = repT ts kk := by simp
      dsimp only
      rw [e]
      exact into rfl ⟨rfl, rfl, rfl, rfl, rfl, rfl, rfl, rfl, rfl, rfl, trivial⟩ ⟨rfl, rfl, rfl, trivial⟩ rfl rfl
    rintro ⟨⟨j, v2⟩, ⟨⟨A8, c8⟩, hs8⟩⟩ ⟨hj, hp2, hO8, hle8, hof8⟩
    dsimp only at *
    have htat := trD_at bs ts.length w (repT ts kk ++ ts.take j) s0 (fun t ht => by
      rcases List.mem_append.1 ht with ht | ht
      · exact i4 t (repT_mem ht)
      · exact i4 t (List.mem_of_mem_take ht))
    have hll : (trD bs ts.length w (repT ts kk ++ ts.take j) s0).1.length = kk * ts.length + j := by
      have h1 : (repT ts kk ++ ts.take j).length = kk * ts.length + j := by rw [List.length_append, repT_len, List.length_take]; omega
      rw [← h1]
      exact (trD_all2 bs ts.length (w := w) (by omega) _ s0).len
    have hkt : kk * ts.length ≤ 200 := by
      have : kk ≤ 1 := by omega
      have := Nat.mul_le_mul_right ts.length this
      omega
    have hsb : (trD bs ts.length w (repT ts kk ++ ts.take j) s0).2.1 ≤ 2000000 := by
      have h1 : (repT ts kk ++ ts.take j).length ≤ 400 := by rw [List.length_append, repT_len, List.length_take]; omega
      have := Nat.mul_le_mul_left 202 h1
      omega
    by_cases hltj : j < ts.length
    · have hX2 := hX.le hle8 hp2
      have hPW := hP.le (hle8.trans (wc_le (A := A) (n := n) (c := c) hp2 (trD bs ts.length w (repT ts kk ++ ts.take j) s0).2))
      obtain ⟨b4, off4, A4, n4, c4, t, rfl, _, hix4, hm4, hat4, hc4, hp4⟩ := hPW.elem hltj
      have hp4' : Pairs v2 A4 n4 t := by
        obtain ⟨b4', off4', A4', n4', c4', t', e1, _, hix4', _, hat4', _, hp4'⟩ := (hP.le hle8).elem hltj
        have e2 := Option.some.inj e1
        simp only [Addr.mk.injEq] at e2
        obtain ⟨rfl, rfl, _⟩ := e2
        rw [hix4] at hix4'
        have e3 := Option.some.inj hix4'
        subst e3
        obtain ⟨a1, t1, f1, g1, g2⟩ := hat4
        obtain ⟨a2, t2, f2, g3, g4⟩ := hat4'.le (wc_le (A := A) (n := n) (c := c) hp2 (trD bs ts.length w (repT ts kk ++ ts.take j) s0).2)
        rw [g1] at g3
        have e4 := Option.some.inj g3
        simp only [Obj.cells.injEq] at e4
        obtain ⟨rfl, _, _⟩ := e4
        have e5 := (g2 0 _ rfl).symm.trans (g4 0 _ rfl)
        have e6 := Option.some.inj e5
        simp only [Value.slice.injEq] at e6
        obtain ⟨rfl, rfl, rfl⟩ := e6
        exact hp4'
      obtain rfl := hp4.1
      have htl := i4 t hm4
      have htk : repT ts kk ++ ts.take (j + 1) = (repT ts kk ++ ts.take j) ++ [t] := by rw [take_snoc hix4, List.append_assoc]
      have esn := trD_snoc bs ts.length w t (repT ts kk ++ ts.take j) s0
      rw [← htk] at esn
      clear hPW htat
      generalize trD bs ts.length w (repT ts kk ++ ts.take j) s0 = q1 at *
      obtain ⟨T1, s1⟩ := q1
      dsimp only at *
      have hfr := frD_ok bs t s1
      have hfd : frD bs t s1 = if t.length = 0 then (0, s1) else pk bs t.length s1 := rfl
      have ert : rtD bs ts.length w t s1 = rwD bs ts.length w (rotL t (frD bs t s1).1) (frD bs t s1).2 := rfl
      have d1 := pickF v2 pb A n c s1 bs t.length hX2 (by omega) (by omega)
      repeat' (first | (refine r_pure hT rfl rfl rfl rfl ?_) | (refine r_new hT rfl rfl rfl rfl ?_) | (refine r_write hT rfl rfl rfl ?_) | (refine r_nil ?_) | (refine q_nil ?_) | (refine r_indexN hT rfl rfl rfl rfl rfl rfl rfl rfl rfl hltj ?_) | (refine r_load hT hat4 rfl rfl rfl rfl rfl (Nat.add_zero _).symm rfl rfl rfl rfl rfl ?_) | (refine c_yes (p := ((j : Int) < (ts.length : Int))) rfl (by omega) ?_) | (refine r_arith rfl rfl rfl rfl rfl rfl rfl (by omega) ?_) | (with_reducible refine r_seq ?_) | (with_reducible refine x_then ?_) | (with_reducible refine r_region ?_) | (refine r_draw hM (by kernel_rfl) ?_) | (with_reducible refine r_skip ?_) | (with_reducible refine r_ret ?_) | (with_reducible refine x_then_ret ?_) | (with_reducible refine r_block ?_) | (with_reducible refine x_block ?_) | (with_reducible refine x_block_ret ?_) | (with_reducible refine r_exit ?_) | (with_reducible refine x_then_exit ?_) | (with_reducible refine x_block_here ?_) | (refine x_block_past rfl ?_) | (refine c_yes rfl (by omega) ?_) | (refine c_no rfl (by omega) ?_) | (refine c_no rfl (fun h => h rfl) ?_) | (refine r_cond_false rfl ?_) | (refine r_cond_true rfl ?_) | (refine r_cond_true rfl ?_) | (refine r_cond_false rfl ?_) | (refine r_off rfl rfl rfl ?_) | (refine q_guard rfl rfl (fun _ => ?_) (fun _ => ?_)) | (refine q_guardn rfl rfl (fun _ => ?_) (fun _ => ?_)))
      refine r_cutD (c := .tmp 45) (γ := Unit) (p := (0 : Int) < (t.length : Int)) rfl (fun _ => True) (fun _ => [(0, .v (pt0 pb)), (3, .p 3 0), (4, .p 4 0), (7, .p 7 0), (10, .p 10 0), (11, .p 11 0), (5, .v (.int .i64 (ts.length : Int))), (6, .v (.int .i64 (w : Int))), (8, .v (.int .i64 (kk : Int))), (35, .v (.slice (some ⟨b4, off4, none⟩) ts.length cg)), (36, .v (.int .i64 (ts.length : Int))), (37, .v (.int .i64 (j : Int))), (12, .v (.int .i64 (t.length : Int))), (13, .v (.int .i64 ((frD bs t s1).1 : Int)))])
        (fun _ => [(11, ⟨none, [.v (.slice none 0 0)], 59⟩), (10, ⟨none, [.v (.slice A4 t.length c4)], 59⟩), (7, ⟨none, gsv r0 A8 T1.length c8, 51⟩), (4, ⟨none, [.v (.int .i64 0), .v (.int .i64 0), .v (.string ⟨⟨[]⟩⟩), .v (.int .i64 0), .v (.slice none 0 0)], 51⟩), (3, ⟨none, gsv v (some ⟨b4, off4, none⟩) ts.length cg, 51⟩)]) (fun _ => Wc v2 pb A n c (frD bs t s1).2) (fun h0 => ?_) (fun h0 => ?_) (fun _ _ => ?_)
      · rw [if_neg (by omega)] at hfd
        rw [hfd]
        repeat' (first | (refine r_pure hT rfl rfl rfl rfl ?_) | (refine r_new hT rfl rfl rfl rfl ?_) | (refine r_write hT rfl rfl rfl ?_) | (refine r_nil ?_) | (refine q_nil ?_) | ((refine r_call d1 rfl rfl rfl rfl rfl (hC _ rfl) rfl rfl (fun y0 u1 hy => ?_) ; subst hy)) | (refine r_arith rfl rfl rfl rfl rfl rfl rfl (by omega) ?_) | (with_reducible refine r_seq ?_) | (with_reducible refine x_then ?_) | (with_reducible refine r_region ?_) | (refine r_draw hM (by kernel_rfl) ?_) | (with_reducible refine r_skip ?_) | (with_reducible refine r_ret ?_) | (with_reducible refine x_then_ret ?_) | (with_reducible refine r_block ?_) | (with_reducible refine x_block ?_) | (with_reducible refine x_block_ret ?_) | (with_reducible refine r_exit ?_) | (with_reducible refine x_then_exit ?_) | (with_reducible refine x_block_here ?_) | (refine x_block_past rfl ?_) | (refine c_yes rfl (by omega) ?_) | (refine c_no rfl (by omega) ?_) | (refine c_no rfl (fun h => h rfl) ?_) | (refine r_cond_false rfl ?_) | (refine r_cond_true rfl ?_) | (refine r_cond_dec rfl (fun _ => ?_) (fun _ => ?_)) | (refine r_cond_true rfl ?_) | (refine r_cond_false rfl ?_) | (refine c_not rfl (fun _ => ?_) (fun _ => ?_)) | (refine r_off rfl rfl rfl ?_) | (refine q_guard rfl rfl (fun _ => ?_) (fun _ => ?_)) | (refine q_guardn rfl rfl (fun _ => ?_) (fun _ => ?_)))
        exact x_cut () trivial (into rfl ⟨rfl, rfl, rfl, rfl, rfl, rfl, rfl, rfl, rfl, rfl, rfl, rfl, rfl, rfl, trivial⟩ ⟨rfl, rfl, rfl, rfl, rfl, trivial⟩ rfl rfl)
      · rw [if_pos (by omega)] at hfd
        rw [hfd]
        repeat' (first | (refine r_pure hT rfl rfl rfl rfl ?_) | (refine r_new hT rfl rfl rfl rfl ?_) | (refine r_write hT rfl rfl rfl ?_) | (refine r_nil ?_) | (refine q_nil ?_) | (refine r_arith rfl rfl rfl rfl rfl rfl rfl (by omega) ?_) | (with_reducible refine r_seq ?_) | (with_reducible refine x_then ?_) | (with_reducible refine r_region ?_) | (refine r_draw hM (by kernel_rfl) ?_) | (with_reducible refine r_skip ?_) | (with_reducible refine r_ret ?_) | (with_reducible refine x_then_ret ?_) | (with_reducible refine r_block ?_) | (with_reducible refine x_block ?_) | (with_reducible refine x_block_ret ?_) | (with_reducible refine r_exit ?_) | (with_reducible refine x_then_exit ?_) | (with_reducible refine x_block_here ?_) | (refine x_block_past rfl ?_) | (refine c_yes rfl (by omega) ?_) | (refine c_no rfl (by omega) ?_) | (refine c_no rfl (fun h => h rfl) ?_) | (refine r_cond_false rfl ?_) | (refine r_cond_true rfl ?_) | (refine r_cond_dec rfl (fun _ => ?_) (fun _ => ?_)) | (refine r_cond_true rfl ?_) | (refine r_cond_false rfl ?_) | (refine c_not rfl (fun _ => ?_) (fun _ => ?_)) | (refine r_off rfl rfl rfl ?_) | (refine q_guard rfl rfl (fun _ => ?_) (fun _ => ?_)) | (refine q_guardn rfl rfl (fun _ => ?_) (fun _ => ?_)))
        exact x_cut () trivial (into rfl ⟨rfl, rfl, rfl, rfl, rfl, rfl, rfl, rfl, rfl, rfl, rfl, rfl, rfl, rfl, trivial⟩ ⟨rfl, rfl, rfl, rfl, rfl, trivial⟩ rfl rfl)
      rw [ert] at esn
      clear hfd ert d1
      generalize frD bs t s1 = q2 at *
      obtain ⟨f, s2⟩ := q2
      dsimp only at *
      have hrl : (rotL t f).length = t.length := rot_len (by omega)
      repeat' (first | (refine r_pure hT rfl rfl rfl rfl ?_) | (refine r_new hT rfl rfl rfl rfl ?_) | (refine r_write hT rfl rfl rfl ?_) | (refine r_nil ?_) | (refine q_nil ?_) | (refine r_arith rfl rfl rfl rfl rfl rfl rfl (by omega) ?_) | (with_reducible refine r_seq ?_) | (with_reducible refine x_then ?_) | (with_reducible refine r_region ?_) | (refine r_draw hM (by kernel_rfl) ?_) | (with_reducible refine r_skip ?_) | (with_reducible refine r_ret ?_) | (with_reducible refine x_then_ret ?_) | (with_reducible refine r_block ?_) | (with_reducible refine x_block ?_) | (with_reducible refine x_block_ret ?_) | (with_reducible refine r_exit ?_) | (with_reducible refine x_then_exit ?_) | (with_reducible refine x_block_here ?_) | (refine x_block_past rfl ?_) | (refine c_yes rfl (by omega) ?_) | (refine c_no rfl (by omega) ?_) | (refine c_no rfl (fun h => h rfl) ?_) | (refine r_cond_false rfl ?_) | (refine r_cond_true rfl ?_) | (refine r_cond_true rfl ?_) | (refine r_cond_false rfl ?_) | (refine r_off rfl rfl rfl ?_) | (refine q_guard rfl rfl (fun _ => ?_) (fun _ => ?_)) | (refine q_guardn rfl rfl (fun _ => ?_) (fun _ => ?_)))
      refine r_loop (γ := (Nat × Hp) × (Option Addr × Nat)) (fun g => g.1.1 ≤ t.length ∧ g.1.2 pb = none ∧ Le v2 g.1.2 ∧ Off v2 g.2.1 ∧ Own g.1.2 g.2.1 g.1.1 g.2.2 61 8 ((rwD bs ts.length w ((rotL t f).take g.1.1) s2).1.flatMap Pr.c))
        (fun g => [(0, .v (pt0 pb)), (3, .p 3 0), (4, .p 4 0), (7, .p 7 0), (10, .p 10 0), (11, .p 11 0), (5, .v (.int .i64 (ts.length : Int))), (6, .v (.int .i64 (w : Int))), (8, .v (.int .i64 (kk : Int))), (35, .v (.slice (some ⟨b4, off4, none⟩) ts.length cg)), (36, .v (.int .i64 (ts.length : Int))), (37, .v (.int .i64 (j : Int))), (12, .v (.int .i64 (t.length : Int))), (13, .v (.int .i64 (f : Int))), (14, .v (.int .i64 (g.1.1 : Int)))])
        (fun g => [(11, ⟨none, [.v (.slice g.2.1 g.1.1 g.2.2)], 59⟩), (10, ⟨none, [.v (.slice A4 t.length c4)], 59⟩), (7, ⟨none, gsv r0 A8 T1.length c8, 51⟩), (4, ⟨none, [.v (.int .i64 0), .v (.int .i64 0), .v (.string ⟨⟨[]⟩⟩), .v (.int .i64 0), .v (.slice none 0 0)], 51⟩), (3, ⟨none, gsv v (some ⟨b4, off4, none⟩) ts.length cg, 51⟩)])
        (fun g => Wc g.1.2 pb A n c (rwD bs ts.length w ((rotL t f).take g.1.1) s2).2) (fun g => t.length - g.1.1)
        ((0, v2), (none, 0)) ⟨Nat.zero_le _, hp2, Le.refl v2, off_nil, own_nil⟩ (into rfl ⟨rfl, rfl, rfl, rfl, rfl, rfl, rfl, rfl, rfl, rfl, rfl, rfl, rfl, rfl, rfl, trivial⟩ ⟨rfl, rfl, rfl, rfl, rfl, trivial⟩ rfl rfl) ?_
      rintro ⟨⟨i, v3⟩, ⟨Ax, cx⟩⟩ ⟨hii, hp3, hl3, hof3, hO3⟩
      dsimp only at *
      have hX3 := hX2.le hl3 hp3
      by_cases hlti : i < t.length
      · have hrg := rot_get (t := t) (f := f) (i := i) (by omega) hlti
        have hmod : (f + i) % t.length < t.length := Nat.mod_lt _ (by omega)
        have hrw := rwD_at bs ts.length w ((rotL t f).take i) s2
        have hrl2 : ((rotL t f).take i).length = i := by rw [List.length_take]; omega
        obtain ⟨b7, off7, p, rfl, _, hix7, hm7, hat7⟩ := (hp4'.le (hl3.trans (wc_le (A := A) (n := n) (c := c) hp3 (rwD bs ts.length w ((rotL t f).take i) s2).2))).elem Pr.c_len hmod
        rw [hix7] at hrg
        have esn2 := rwD_snoc bs ts.length w p ((rotL t f).take i) s2
        rw [← take_snoc hrg] at esn2
        have hpv := i1 t hm4 p hm7
        have d2 := dledF v3 pb A n c ts.length w p.val (rwD bs ts.length w ((rotL t f).take i) s2).2 bs hX3 (by omega) (by omega) (by omega) (fun h4 => by have := hpv h4; omega)
        generalize rwD bs ts.length w ((rotL t f).take i) s2 = q3 at *
        obtain ⟨R1, s3⟩ := q3
        dsimp only at *
        generalize ledD bs ts.length w p.val s3 = q4 at *
        obtain ⟨pv, s4⟩ := q4
        dsimp only at *
        repeat' (first | (refine r_pure hT rfl rfl rfl rfl ?_) | (refine r_new hT rfl rfl rfl rfl ?_) | (refine r_write hT rfl rfl rfl ?_) | (refine r_nil ?_) | (refine q_nil ?_) | (refine c_yes rfl (by omega) ?_) | (refine r_addM (p := f) (q := i) rfl rfl rfl rfl rfl rfl (by omega) ?_) | (refine r_remN rfl rfl rfl rfl rfl rfl (by omega) ?_) | (refine r_indexN hT rfl rfl rfl rfl rfl rfl rfl rfl rfl hmod ?_) | (refine r_load hT hat7 rfl rfl rfl rfl rfl (Nat.add_zero _).symm rfl rfl rfl rfl rfl ?_) | (refine r_many (id := 21) [0, 1, 2, 3, 4, 5, 6, 7, 8] [10] (Wc v3 pb A n c s3) (Le.refl _) hM (by kernel_rfl) rfl (by kernel_rfl) rfl rfl rfl (fun β0 => ?_)) | (refine m_keep (Le.refl _) ⟨rfl, rfl, rfl, rfl, rfl, trivial⟩ rfl rfl ?_) | (refine m_late rfl rfl ?_) | ((refine r_call d2 rfl rfl rfl rfl rfl (hC _ rfl) rfl rfl (fun y0 u1 hy => ?_) ; subst hy)) | (refine r_bslice (t := 57) hT (ps := [(0, .tmp 72)]) rfl rfl rfl rfl rfl rfl rfl (by simp) rfl rfl (by decide) (fun b3 hb3 => ?_)) | (refine r_append (t := 57) hT (cs := R1.flatMap Pr.c) (news := [(⟨p.key, pv⟩ : Pr)].flatMap Pr.c) rfl rfl rfl rfl rfl rfl rfl rfl rfl rfl rfl (own_fr (hO3.le fun b o _ ho => wc_le hp3 s4 b o ho) hb3) (sl_blk (upd_here ..) rfl) (Pr.one _) (by dsimp only; omega) (by omega) (fun A6 c6 u6 hO6 hG6 => ?_)) | (refine r_arith rfl rfl rfl rfl rfl rfl rfl (by omega) ?_) | (with_reducible refine r_seq ?_) | (with_reducible refine x_then ?_) | (with_reducible refine r_region ?_) | (with_reducible refine r_skip ?_) | (with_reducible refine r_ret ?_) | (with_reducible refine x_then_ret ?_) | (with_reducible refine r_block ?_) | (with_reducible refine x_block ?_) | (with_reducible refine x_block_ret ?_) | (with_reducible refine r_exit ?_) | (with_reducible refine x_then_exit ?_) | (with_reducible refine x_block_here ?_) | (refine x_block_past rfl ?_) | (refine c_yes rfl (by omega) ?_) | (refine c_no rfl (by omega) ?_) | (refine c_no rfl (fun h => h rfl) ?_) | (refine r_cond_false rfl ?_) | (refine r_cond_true rfl ?_) | (refine r_cond_true rfl ?_) | (refine r_cond_false rfl ?_) | (refine r_off rfl rfl rfl ?_) | (refine q_guard rfl rfl (fun _ => ?_) (fun _ => ?_)) | (refine q_guardn rfl rfl (fun _ => ?_) (fun _ => ?_)) | (refine s_nil ?_) | (with_reducible refine a_full ?_) | (refine m_step rfl rfl (List.cons_ne_nil _ _) ?_) | (refine allR_cons rfl ?_ ?_) | (exact allR_nil) | (refine m_end rfl rfl rfl ?_))
        obtain ⟨v4, e5, hp5, hO5, hk5⟩ := wc_app hp3 hO3 hb3 hG6 hO6
        have hk6 := hk5 v2 hl3 hof3
        subst e5
        have e4 : s4 = (rwD bs ts.length w ((rotL t f).take (i + 1)) s2).2 := by rw [esn2]
        rw [e4]
        exact x_round ((i + 1, v4), (A6, c6)) ⟨hlti, hp5, hk6.1, hk6.2, by dsimp only; rw [esn2, List.flatMap_append]; exact hO5⟩ (by dsimp only; omega) (into rfl ⟨rfl, rfl, rfl, rfl, rfl, rfl, rfl, rfl, rfl, rfl, rfl, rfl, rfl, rfl, rfl, trivial⟩ ⟨rfl, rfl, rfl, rfl, rfl, trivial⟩ rfl rfl)
      · obtain rfl : i = t.length := by omega
        have e0 : (rotL t f).take t.length = rotL t f := by rw [← hrl, List.take_length]
        rw [e0] at hO3 ⊢
        have hrlen : (rwD bs ts.length w (rotL t f) s2).1.length = t.length := by rw [rwD_len, hrl]
        generalize rwD bs ts.length w (rotL t f) s2 = q3 at *
        obtain ⟨R1, s3⟩ := q3
        dsimp only at *
        repeat' (first | (refine r_pure hT rfl rfl rfl rfl ?_) | (refine r_new hT rfl rfl rfl rfl ?_) | (refine r_write hT rfl rfl rfl ?_) | (refine r_nil ?_) | (refine q_nil ?_) | (refine c_no rfl (by omega) ?_) | (refine r_bslice (t := 49) hT (ps := [(0, .tmp 78)]) rfl rfl rfl rfl rfl rfl rfl (by simp) rfl rfl (by decide) (fun b3 hb3 => ?_)) | (refine r_append (t := 49) hT (cs := hs8.flatMap Hd.v) (news := [(⟨Ax, t.length, cx⟩ : Hd)].flatMap Hd.v) rfl rfl rfl rfl rfl rfl rfl rfl rfl rfl rfl (own_fr (hO8.own.le fun b o _ ho => wc_le hp3 s3 b o (hl3 b o ho)) hb3) (sl_blk (upd_here ..) rfl) (heads_one _) (by dsimp only; omega) (by omega) (fun A6 c6 u6 hO6 hG6 => ?_)) | (refine r_arith rfl rfl rfl rfl rfl rfl rfl (by omega) ?_) | (with_reducible refine r_seq ?_) | (with_reducible refine x_then ?_) | (with_reducible refine r_region ?_) | (refine r_draw hM (by kernel_rfl) ?_) | (with_reducible refine r_skip ?_) | (with_reducible refine r_ret ?_) | (with_reducible refine x_then_ret ?_) | (with_reducible refine r_block ?_) | (with_reducible refine x_block ?_) | (with_reducible refine x_block_ret ?_) | (with_reducible refine r_exit ?_) | (with_reducible refine x_then_exit ?_) | (with_reducible refine x_block_here ?_) | (refine x_block_past rfl ?_) | (refine c_yes rfl (by omega) ?_) | (refine c_no rfl (by omega) ?_) | (refine c_no rfl (fun h => h rfl) ?_) | (refine r_cond_false rfl ?_) | (refine r_cond_true rfl ?_) | (refine r_cond_true rfl ?_) | (refine r_cond_false rfl ?_) | (refine r_off rfl rfl rfl ?_) | (refine q_guard rfl rfl (fun _ => ?_) (fun _ => ?_)) | (refine q_guardn rfl rfl (fun _ => ?_) (fun _ => ?_)))
        obtain ⟨v4, e5, hp5, hO5, hk5⟩ := wc_app hp3 (hO8.own.le fun b o _ ho => hl3 b o ho) hb3 hG6 hO6
        subst e5
        obtain ⟨k1, k2, k3⟩ := OT.push hO8 hof8 hle8 hl3 (y := ⟨Ax, t.length, cx⟩) (t := R1) hrlen.symm hO3 hof3 hO5 hk5
        have e3 : T1 ++ [R1] = (trD bs ts.length w (repT ts kk ++ ts.take (j + 1)) s0).1 := by rw [esn]
        have e4 : s3 = (trD bs ts.length w (repT ts kk ++ ts.take (j + 1)) s0).2 := by rw [esn]
        have e6 : T1.length + 1 = (trD bs ts.length w (repT ts kk ++ ts.take (j + 1)) s0).1.length := by rw [← e3]; simp
        rw [e4]
        exact x_round ((j + 1, v4), ((A6, c6), hs8 ++ [⟨Ax, t.length, cx⟩])) ⟨hltj, hp5, by dsimp only; rw [← e6, ← e3]; exact k1, k3, k2⟩ (by dsimp only; omega) (into rfl ⟨rfl, rfl, rfl, rfl, rfl, rfl, rfl, rfl, rfl, rfl, trivial⟩ ⟨congrArg (fun z : Nat => some (⟨none, gsv r0 A6 z c6, 51⟩ : Blk)) e6, rfl, rfl, trivial⟩ rfl rfl)
    · obtain rfl : j = ts.length := by omega
      have e0 : repT ts kk ++ ts.take ts.length = repT ts (kk + 1) := by rw [List.take_length]; rfl
      rw [e0] at hO8 ⊢
      repeat' (first | (refine r_pure hT rfl rfl rfl rfl ?_) | (refine r_new hT rfl rfl rfl rfl ?_) | (refine r_write hT rfl rfl rfl ?_) | (refine r_nil ?_) | (refine q_nil ?_) | (refine c_no rfl (by omega) ?_) | (refine r_arith rfl rfl rfl rfl rfl rfl rfl (by omega) ?_) | (with_reducible refine r_seq ?_) | (with_reducible refine x_then ?_) | (with_reducible refine r_region ?_) | (refine r_draw hM (by kernel_rfl) ?_) | (with_reducible refine r_skip ?_) | (with_reducible refine r_ret ?_) | (with_reducible refine x_then_ret ?_) | (with_reducible refine r_block ?_) | (with_reducible refine x_block ?_) | (with_reducible refine x_block_ret ?_) | (with_reducible refine r_exit ?_) | (with_reducible refine x_then_exit ?_) | (with_reducible refine x_block_here ?_) | (refine x_block_past rfl ?_) | (refine c_yes rfl (by omega) ?_) | (refine c_no rfl (by omega) ?_) | (refine c_no rfl (fun h => h rfl) ?_) | (refine r_cond_false rfl ?_) | (refine r_cond_true rfl ?_) | (refine r_cond_true rfl ?_) | (refine r_cond_false rfl ?_) | (refine r_off rfl rfl rfl ?_) | (refine q_guard rfl rfl (fun _ => ?_) (fun _ => ?_)) | (refine q_guardn rfl rfl (fun _ => ?_) (fun _ => ?_)))
      exact x_round ((kk + 1, v2), ((A8, c8), hs8)) ⟨hltk, hp2, hO8, hle8, hof8⟩ (by dsimp only; omega) (into rfl ⟨rfl, rfl, rfl, rfl, rfl, rfl, rfl, trivial⟩ ⟨rfl, rfl, rfl, trivial⟩ rfl rfl)
  · obtain rfl : kk = w := by omega
    repeat' (first | (refine r_pure hT rfl rfl rfl rfl ?_) | (refine r_new hT rfl rfl rfl rfl ?_) | (refine r_write hT rfl rfl rfl ?_) | (refine r_nil ?_) | (refine q_nil ?_) | (refine c_no rfl (by omega) ?_) | (refine r_arith rfl rfl rfl rfl rfl rfl rfl (by omega) ?_) | (with_reducible refine r_seq ?_) | (with_reducible refine x_then ?_) | (with_reducible refine r_region ?_) | (refine r_draw hM (by kernel_rfl) ?_) | (with_reducible refine r_skip ?_) | (with_reducible refine r_ret ?_) | (with_reducible refine x_then_ret ?_) | (with_reducible refine r_block ?_) | (with_reducible refine x_block ?_) | (with_reducible refine x_block_ret ?_) | (with_reducible refine r_exit ?_) | (with_reducible refine x_then_exit ?_) | (with_reducible refine x_block_here ?_) | (refine x_block_past rfl ?_) | (refine c_yes rfl (by omega) ?_) | (refine c_no rfl (by omega) ?_) | (refine c_no rfl (fun h => h rfl) ?_) | (refine r_cond_false rfl ?_) | (refine r_cond_true rfl ?_) | (refine r_cond_true rfl ?_) | (refine r_cond_false rfl ?_) | (refine r_off rfl rfl rfl ?_) | (refine q_guard rfl rfl (fun _ => ?_) (fun _ => ?_)) | (refine q_guardn rfl rfl (fun _ => ?_) (fun _ => ?_)))
    exact r_fin hT rfl (((A7, c7), hs7) : OY) rfl rfl rfl trivial rfl ⟨v1, rfl, hp1, hle7, hO7, hof7⟩
theorem drawn (h : Hp) (A : Option Addr) (n c : Nat) (bs : List Int) (hB : Bys h A n bs) (hb : ∀ x ∈ bs, 0 ≤ x ∧ x ≤ 255) (hn : n ≤ 1048576) :
    TriS Tryd.prog 45 [.v (.slice A n c)] [] h (fun y : Option Addr × Nat => .ag (gsv (grD bs (0, 0)).1.1 y.1 (grD bs (0, 0)).1.2.length y.2)) (fun _ => []) (fun y h' => Tabs h' y.1 (grD bs (0, 0)).1.2.length (grD bs (0, 0)).1.2 ∧ Le h h') := by
  refine enterS Tryd.func45 rfl (n := 9) rfl rfl (fun k N => ?_)
  repeat' (first | (refine r_pure hT rfl rfl rfl rfl ?_) | (refine r_new hT rfl rfl rfl rfl ?_) | (refine r_write hT rfl rfl rfl ?_) | (refine r_nil ?_) | (refine q_nil ?_) | (refine r_build hT rfl rfl rfl (ps := [(0, .tmp 4)]) rfl rfl rfl rfl rfl rfl ?_) | (refine r_arith rfl rfl rfl rfl rfl rfl rfl (by omega) ?_) | (with_reducible refine r_seq ?_) | (with_reducible refine x_then ?_) | (with_reducible refine r_region ?_) | (refine r_draw hM (by kernel_rfl) ?_) | (with_reducible refine r_skip ?_) | (with_reducible refine r_ret ?_) | (with_reducible refine x_then_ret ?_) | (with_reducible refine r_block ?_) | (with_reducible refine x_block ?_) | (with_reducible refine x_block_ret ?_) | (with_reducible refine r_exit ?_) | (with_reducible refine x_then_exit ?_) | (with_reducible refine x_block_here ?_) | (refine x_block_past rfl ?_) | (refine c_yes rfl (by omega) ?_) | (refine c_no rfl (by omega) ?_) | (refine c_no rfl (fun h => h rfl) ?_) | (refine r_cond_false rfl ?_) | (refine r_cond_true rfl ?_) | (refine r_cond_dec rfl (fun _ => ?_) (fun _ => ?_)) | (refine r_cond_true rfl ?_) | (refine r_cond_false rfl ?_) | (refine c_not rfl (fun _ => ?_) (fun _ => ?_)) | (refine r_off rfl rfl rfl ?_) | (refine q_guard rfl rfl (fun _ => ?_) (fun _ => ?_)) | (refine q_guardn rfl rfl (fun _ => ?_) (fun _ => ?_)))
  refine r_pub 6 (fun _ => cuCells A n c (0, 0)) rfl rfl (fun _ => rfl) (fun pb hpb => ?_)
  change h pb = none at hpb
  have hX : Cx h pb A n bs := ⟨hpb, hB, hb, hn⟩
  repeat' (first | (refine r_pure hT rfl rfl rfl rfl ?_) | (refine r_new hT rfl rfl rfl rfl ?_) | (refine r_write hT rfl rfl rfl ?_) | (refine r_nil ?_) | (refine q_nil ?_) | (refine r_call (graphF h pb A n c (0, 0) bs hX (by dsimp only; omega)) rfl rfl rfl rfl rfl (hC _ rfl) rfl rfl (fun y u1 hy => ?_)) | (refine r_arith rfl rfl rfl rfl rfl rfl rfl (by omega) ?_) | (with_reducible refine r_seq ?_) | (with_reducible refine x_then ?_) | (with_reducible refine r_region ?_) | (refine r_draw hM (by kernel_rfl) ?_) | (with_reducible refine r_skip ?_) | (with_reducible refine r_ret ?_) | (with_reducible refine x_then_ret ?_) | (with_reducible refine r_block ?_) | (with_reducible refine x_block ?_) | (with_reducible refine x_block_ret ?_) | (with_reducible refine r_exit ?_) | (with_reducible refine x_then_exit ?_) | (with_reducible refine x_block_here ?_) | (refine x_block_past rfl ?_) | (refine c_yes rfl (by omega) ?_) | (refine c_no rfl (by omega) ?_) | (refine c_no rfl (fun h => h rfl) ?_) | (refine r_cond_false rfl ?_) | (refine r_cond_true rfl ?_) | (refine r_cond_dec rfl (fun _ => ?_) (fun _ => ?_)) | (refine r_cond_true rfl ?_) | (refine r_cond_false rfl ?_) | (refine c_not rfl (fun _ => ?_) (fun _ => ?_)) | (refine r_off rfl rfl rfl ?_) | (refine q_guard rfl rfl (fun _ => ?_) (fun _ => ?_)) | (refine q_guardn rfl rfl (fun _ => ?_) (fun _ => ?_)))
  obtain ⟨h', rfl, hp', hl', hT'⟩ := hy
  exact r_fin hT rfl y rfl rfl rfl trivial rfl ⟨hT'.le (wc_le hp' _), hl'.trans (wc_le hp' _)⟩
theorem turned (h : Hp) (A : Option Addr) (n c : Nat) (bs : List Int) (hB : Bys h A n bs) (hb : ∀ x ∈ bs, 0 ≤ x ∧ x ≤ 255) (hn : n ≤ 1048576) (v : V) (ts : List (List Pr)) (Ag : Option Addr) (cg : Nat) (hP : Tabs h Ag ts.length ts) (hg : GOk v ts) :
    TriS Tryd.prog 48 [.ag (gsv v Ag ts.length cg), .v (.slice A n c)] [] h (fun y : OY => .ag (gsv (tuD bs v ts (0, 0)).1.1 y.1.1 (tuD bs v ts (0, 0)).1.2.length y.1.2)) (fun _ => [])
      (fun y h' => OT h' 59 61 y.1.1 (tuD bs v ts (0, 0)).1.2.length y.1.2 y.2 (tuD bs v ts (0, 0)).1.2 ∧ Le h h' ∧ OffAll h y.1.1 y.2) := by
  refine enterS Tryd.func48 rfl (n := 12) rfl rfl (fun k N => ?_)
  repeat' (first | (refine r_pure hT rfl rfl rfl rfl ?_) | (refine r_new hT rfl rfl rfl rfl ?_) | (refine r_write hT rfl rfl rfl ?_) | (refine r_nil ?_) | (refine q_nil ?_) | (refine r_build hT rfl rfl rfl (ps := [(0, .tmp 6)]) rfl rfl rfl rfl rfl rfl ?_) | (refine r_arith rfl rfl rfl rfl rfl rfl rfl (by omega) ?_) | (with_reducible refine r_seq ?_) | (with_reducible refine x_then ?_) | (with_reducible refine r_region ?_) | (refine r_draw hM (by kernel_rfl) ?_) | (with_reducible refine r_skip ?_) | (with_reducible refine r_ret ?_) | (with_reducible refine x_then_ret ?_) | (with_reducible refine r_block ?_) | (with_reducible refine x_block ?_) | (with_reducible refine x_block_ret ?_) | (with_reducible refine r_exit ?_) | (with_reducible refine x_then_exit ?_) | (with_reducible refine x_block_here ?_) | (refine x_block_past rfl ?_) | (refine c_yes rfl (by omega) ?_) | (refine c_no rfl (by omega) ?_) | (refine c_no rfl (fun h => h rfl) ?_) | (refine r_cond_false rfl ?_) | (refine r_cond_true rfl ?_) | (refine r_cond_dec rfl (fun _ => ?_) (fun _ => ?_)) | (refine r_cond_true rfl ?_) | (refine r_cond_false rfl ?_) | (refine c_not rfl (fun _ => ?_) (fun _ => ?_)) | (refine r_off rfl rfl rfl ?_) | (refine q_guard rfl rfl (fun _ => ?_) (fun _ => ?_)) | (refine q_guardn rfl rfl (fun _ => ?_) (fun _ => ?_)))
  refine r_pub 8 (fun _ => cuCells A n c (0, 0)) rfl rfl (fun _ => rfl) (fun pb hpb => ?_)
  change h pb = none at hpb
  have hX : Cx h pb A n bs := ⟨hpb, hB, hb, hn⟩
  repeat' (first | (refine r_pure hT rfl rfl rfl rfl ?_) | (refine r_new hT rfl rfl rfl rfl ?_) | (refine r_write hT rfl rfl rfl ?_) | (refine r_nil ?_) | (refine q_nil ?_) | (refine r_call (turnedF h pb A n c (0, 0) bs hX (by dsimp only; omega) v ts Ag cg hP hg) rfl rfl rfl rfl rfl (hC _ rfl) rfl rfl (fun y u1 hy => ?_)) | (refine r_arith rfl rfl rfl rfl rfl rfl rfl (by omega) ?_) | (with_reducible refine r_seq ?_) | (with_reducible refine x_then ?_) | (with_reducible refine r_region ?_) | (refine r_draw hM (by kernel_rfl) ?_) | (with_reducible refine r_skip ?_) | (with_reducible refine r_ret ?_) | (with_reducible refine x_then_ret ?_) | (with_reducible refine r_block ?_) | (with_reducible refine x_block ?_) | (with_reducible refine x_block_ret ?_) | (with_reducible refine r_exit ?_) | (with_reducible refine x_then_exit ?_) | (with_reducible refine x_block_here ?_) | (refine x_block_past rfl ?_) | (refine c_yes rfl (by omega) ?_) | (refine c_no rfl (by omega) ?_) | (refine c_no rfl (fun h => h rfl) ?_) | (refine r_cond_false rfl ?_) | (refine r_cond_true rfl ?_) | (refine r_cond_dec rfl (fun _ => ?_) (fun _ => ?_)) | (refine r_cond_true rfl ?_) | (refine r_cond_false rfl ?_) | (refine c_not rfl (fun _ => ?_) (fun _ => ?_)) | (refine r_off rfl rfl rfl ?_) | (refine q_guard rfl rfl (fun _ => ?_) (fun _ => ?_)) | (refine q_guardn rfl rfl (fun _ => ?_) (fun _ => ?_)))
  obtain ⟨h', rfl, hp', hl', hT', hof'⟩ := hy
  exact r_fin hT rfl y rfl rfl rfl trivial rfl ⟨hT'.le (wc_le hp' _), hl'.trans (wc_le hp' _), hof'⟩
end Go.Proofs.YtkamfnmbidnhdaaDoor
/- laws.wRing. No condition. -/
namespace Go.Proofs.YtkamfnmbidnhdaaDoor
open Go.Sy
set_option maxRecDepth 100000
set_option maxHeartbeats 8000000
set_option linter.unusedVariables false
set_option linter.unusedSimpArgs false
theorem wRing34 (n : Nat) (h : Hp) (hn : 1 ≤ n ∧ n ≤ 60) :
    TriS Tryd.prog 34 [.v (.int .i64 (n : Int))] [] h (fun y : OY => .ag (gsv (taV 0) y.1.1 (rg n).length y.1.2)) (fun _ => []) (fun y h' => OT h' 59 61 y.1.1 (rg n).length y.1.2 y.2 (rg n) ∧ Le h h' ∧ OffAll h y.1.1 y.2) := by
  rw [rg_len]
  refine enterS Tryd.func34 rfl (n := 27) rfl rfl (fun k N => ?_)
  repeat' (first | (refine r_pure hT rfl rfl rfl rfl ?_) | (refine r_new hT rfl rfl rfl rfl ?_) | (refine r_write hT rfl rfl rfl ?_) | (refine r_nil ?_) | (refine q_nil ?_) | (refine r_build hT rfl rfl rfl (t := 48) (ps := [(0, .const (.int .i64 4))]) rfl rfl rfl rfl rfl rfl ?_) | (refine r_build hT rfl rfl rfl (t := 51) (ps := [(0, .tmp 5)]) rfl rfl rfl rfl rfl rfl ?_) | (refine r_arith rfl rfl rfl rfl rfl rfl rfl (by omega) ?_) | (with_reducible refine r_seq ?_) | (with_reducible refine x_then ?_) | (with_reducible refine r_region ?_) | (with_reducible refine r_skip ?_) | (with_reducible refine r_ret ?_) | (with_reducible refine x_then_ret ?_) | (with_reducible refine r_block ?_) | (with_reducible refine x_block ?_) | (with_reducible refine x_block_ret ?_) | (with_reducible refine r_exit ?_) | (with_reducible refine x_then_exit ?_) | (with_reducible refine x_block_here ?_) | (refine x_block_past rfl ?_) | (refine c_yes rfl (by omega) ?_) | (refine c_no rfl (by omega) ?_) | (refine c_no rfl (fun h => h rfl) ?_) | (refine r_cond_false rfl ?_) | (refine r_cond_true rfl ?_) | (refine r_cond_true rfl ?_) | (refine r_cond_false rfl ?_) | (refine r_off rfl rfl rfl ?_) | (refine q_guard rfl rfl (fun _ => ?_) (fun _ => ?_)) | (refine q_guardn rfl rfl (fun _ => ?_) (fun _ => ?_)))
  refine r_loop (γ := (Nat × Hp) × OY) (fun g => g.1.1 ≤ n ∧ OT g.1.2 59 61 g.2.1.1 g.1.1 g.2.1.2 g.2.2 ((List.range g.1.1).map (rgT n)) ∧ Le h g.1.2 ∧ OffAll h g.2.1.1 g.2.2)
    (fun g => [(0, .v (.int .i64 (n : Int))), (2, .p 2 0), (3, .p 3 0), (4, .v (.int .i64 (g.1.1 : Int)))])
    (fun g => [(3, ⟨none, gsv (taV 0) g.2.1.1 g.1.1 g.2.1.2, 51⟩), (2, ⟨none, [.v (.int .i64 0), .v (.int .i64 0), .v (.string ⟨⟨[]⟩⟩), .v (.int .i64 0), .v (.slice none 0 0)], 51⟩)]) (fun g => g.1.2) (fun g => n - g.1.1)
    ((0, h), ((none, 0), [])) ⟨Nat.zero_le _, ⟨rfl, own_nil, ORows.nil⟩, Le.refl h, off_nil, fun x hx => (by cases hx)⟩ (into rfl ⟨rfl, rfl, rfl, rfl, trivial⟩ ⟨rfl, rfl, trivial⟩ rfl rfl) ?_
  rintro ⟨⟨i, u⟩, ⟨⟨A, c⟩, hs⟩⟩ ⟨hi, hO, hle, hof⟩
  dsimp only at *
  have hlen : ((List.range i).map (rgT n)).length = i := by simp
  by_cases hlt : i < n
  · repeat' (first | (refine r_pure hT rfl rfl rfl rfl ?_) | (refine r_new hT rfl rfl rfl rfl ?_) | (refine r_write hT rfl rfl rfl ?_) | (refine r_nil ?_) | (refine q_nil ?_) | (refine c_yes rfl (by omega) ?_) | (refine r_arith rfl rfl rfl rfl rfl rfl rfl (by omega) ?_) | (with_reducible refine r_seq ?_) | (with_reducible refine x_then ?_) | (with_reducible refine r_region ?_) | (with_reducible refine r_skip ?_) | (with_reducible refine r_ret ?_) | (with_reducible refine x_then_ret ?_) | (with_reducible refine r_block ?_) | (with_reducible refine x_block ?_) | (with_reducible refine x_block_ret ?_) | (with_reducible refine r_exit ?_) | (with_reducible refine x_then_exit ?_) | (with_reducible refine x_block_here ?_) | (refine x_block_past rfl ?_) | (refine c_yes rfl (by omega) ?_) | (refine c_no rfl (by omega) ?_) | (refine c_no rfl (fun h => h rfl) ?_) | (refine r_cond_false rfl ?_) | (refine r_cond_true rfl ?_) | (refine r_cond_true rfl ?_) | (refine r_cond_false rfl ?_) | (refine r_off rfl rfl rfl ?_) | (refine q_guard rfl rfl (fun _ => ?_) (fun _ => ?_)) | (refine q_guardn rfl rfl (fun _ => ?_) (fun _ => ?_)))
    refine r_cut (γ := Hp × OY) (fun g => OT g.1 59 61 g.2.1.1 (i + 1) g.2.1.2 g.2.2 ((List.range (i + 1)).map (rgT n)) ∧ Le h g.1 ∧ OffAll h g.2.1.1 g.2.2) (fun _ => [(0, .v (.int .i64 (n : Int))), (2, .p 2 0), (3, .p 3 0), (4, .v (.int .i64 (i : Int)))])
      (fun g => [(3, ⟨none, gsv (taV 0) g.2.1.1 (i + 1) g.2.1.2, 51⟩), (2, ⟨none, [.v (.int .i64 0), .v (.int .i64 0), .v (.string ⟨⟨[]⟩⟩), .v (.int .i64 0), .v (.slice none 0 0)], 51⟩)]) (fun g => g.1)
      (r_manyD (id := 5) [0, 1, 2, 3, 4, 5, 6, 7, 8] [14] (ptw u A) (ptw_le u A) hM (by kernel_rfl) rfl (by kernel_rfl) rfl rfl rfl (fun β0 => ?_)) (fun g hg => ?_)
    · have hval : (1 : Nat) ≤ n := hn.1
      repeat' (first | (refine r_pure hT rfl rfl rfl rfl ?_) | (refine r_new hT rfl rfl rfl rfl ?_) | (refine r_write hT rfl rfl rfl ?_) | (refine r_nil ?_) | (refine q_nil ?_) | (refine r_addM (p := i) (q := 1) rfl rfl rfl rfl rfl rfl (by omega) ?_) | (refine r_remN rfl rfl rfl rfl rfl rfl (by omega) ?_) | (refine r_build hT rfl rfl rfl (t := 48) (ps := [(0, .const (.int .i64 2)), (1, .const (.int .i64 1))]) rfl rfl rfl rfl rfl rfl ?_) | (refine r_build hT rfl rfl rfl (t := 48) (ps := [(0, .const (.int .i64 4)), (3, .tmp 18)]) rfl rfl rfl rfl rfl rfl ?_) | (refine r_build hT rfl rfl rfl (t := 61) (ps := [(0, .tmp 14), (1, .tmp 19)]) rfl rfl rfl rfl rfl rfl ?_) | (refine r_build hT rfl rfl rfl (t := 59) (ps := [(0, .tmp 21)]) rfl rfl rfl rfl rfl rfl ?_) | (refine r_bslice (t := 57) hT (ps := [(0, .tmp 20)]) rfl rfl rfl rfl rfl rfl rfl (by simp) rfl rfl (by decide) (fun b7 hb7 => ?_)) | (refine r_bslice (t := 49) hT (ps := [(0, .tmp 22)]) rfl rfl rfl rfl rfl rfl rfl (by simp) rfl rfl (by decide) (fun b8 hb8 => ?_)) | (refine r_append (t := 49) hT (cs := hs.flatMap Hd.v) (news := [(⟨some ⟨b7, 0, none⟩, 1, 1⟩ : Hd)].flatMap Hd.v) rfl rfl rfl rfl rfl rfl rfl rfl rfl rfl rfl (own_fr (own_fr hO.own hb7) hb8) (sl_blk (upd_here ..) rfl) (heads_one _) (by dsimp only; omega) (by omega) (fun A6 c6 u6 hO6 hG6 => ?_)) | (refine m_keep ((ptw_le u A).trans (le_frsh (Le.refl u) hb7)) ⟨rfl, rfl, trivial⟩ rfl rfl ?_) | (refine m_keep ((ptw_le u A).trans ((le_frsh (Le.refl u) hb7).trans (le_frsh (Le.refl _) hb8))) ⟨rfl, rfl, trivial⟩ rfl rfl ?_) | (refine m_keep (hG6 (ptw u A) ((ptw_le u A).trans ((le_frsh (Le.refl u) hb7).trans (le_frsh (Le.refl _) hb8))) (ptw_off u A)).1 ⟨rfl, rfl, trivial⟩ rfl rfl ?_) | (refine m_late rfl rfl ?_) | (refine r_arith rfl rfl rfl rfl rfl rfl rfl (by omega) ?_) | (with_reducible refine r_seq ?_) | (with_reducible refine x_then ?_) | (with_reducible refine r_region ?_) | (with_reducible refine r_skip ?_) | (with_reducible refine r_ret ?_) | (with_reducible refine x_then_ret ?_) | (with_reducible refine r_block ?_) | (with_reducible refine x_block ?_) | (with_reducible refine x_block_ret ?_) | (with_reducible refine r_exit ?_) | (with_reducible refine x_then_exit ?_) | (with_reducible refine x_block_here ?_) | (refine x_block_past rfl ?_) | (refine c_yes rfl (by omega) ?_) | (refine c_no rfl (by omega) ?_) | (refine c_no rfl (fun h => h rfl) ?_) | (refine r_cond_false rfl ?_) | (refine r_cond_true rfl ?_) | (refine r_cond_dec rfl (fun _ => ?_) (fun _ => ?_)) | (refine r_cond_true rfl ?_) | (refine r_cond_false rfl ?_) | (refine c_not rfl (fun _ => ?_) (fun _ => ?_)) | (refine r_off rfl rfl rfl ?_) | (refine q_guard rfl rfl (fun _ => ?_) (fun _ => ?_)) | (refine q_guardn rfl rfl (fun _ => ?_) (fun _ => ?_)) | (refine s_nil ?_) | (with_reducible refine a_full ?_) | (refine m_step rfl rfl (List.cons_ne_nil _ _) ?_) | (refine allR_cons rfl ?_ ?_) | (exact allR_nil) | (refine m_end rfl rfl rfl ?_))
      have hof3 : Off u (some ⟨b7, 0, none⟩) := fun b hb => by have e := Option.some.inj hb; dsimp only at e; rw [← e]; exact hb7
      have hO' : OT u 59 61 A ((List.range i).map (rgT n)).length c hs ((List.range i).map (rgT n)) := by rw [hlen]; exact hO
      have hO6' := hO6
      rw [← hlen] at hO6'
      obtain ⟨k1, k2, k3⟩ := OT.push hO' hof hle (le_frsh (le_frsh (Le.refl u) hb7) hb8) (y := ⟨some ⟨b7, 0, none⟩, 1, 1⟩) (t := rgT n i) rfl (own_fr (own_lit (b := b7) (m := 1) (sz := 8) rfl) hb8) hof3 hO6' hG6
      rw [hlen] at k1
      refine x_cut (u6, ((A6, c6), hs ++ [⟨some ⟨b7, 0, none⟩, 1, 1⟩])) ⟨?_, k3, k2⟩ (into rfl ⟨rfl, rfl, rfl, rfl, trivial⟩ ⟨rfl, rfl, trivial⟩ rfl rfl)
      have e : (List.range (i + 1)).map (rgT n) = (List.range i).map (rgT n) ++ [rgT n i] := by rw [List.range_succ, List.map_append]; rfl
      rw [e]
      exact k1
    · obtain ⟨u5, ⟨⟨A5, c5⟩, hs5⟩⟩ := g
      obtain ⟨g1, g2, g3⟩ := hg
      dsimp only at *
      repeat' (first | (refine r_pure hT rfl rfl rfl rfl ?_) | (refine r_new hT rfl rfl rfl rfl ?_) | (refine r_write hT rfl rfl rfl ?_) | (refine r_nil ?_) | (refine q_nil ?_) | (refine r_arith rfl rfl rfl rfl rfl rfl rfl (by omega) ?_) | (with_reducible refine r_seq ?_) | (with_reducible refine x_then ?_) | (with_reducible refine r_region ?_) | (with_reducible refine r_skip ?_) | (with_reducible refine r_ret ?_) | (with_reducible refine x_then_ret ?_) | (with_reducible refine r_block ?_) | (with_reducible refine x_block ?_) | (with_reducible refine x_block_ret ?_) | (with_reducible refine r_exit ?_) | (with_reducible refine x_then_exit ?_) | (with_reducible refine x_block_here ?_) | (refine x_block_past rfl ?_) | (refine c_yes rfl (by omega) ?_) | (refine c_no rfl (by omega) ?_) | (refine c_no rfl (fun h => h rfl) ?_) | (refine r_cond_false rfl ?_) | (refine r_cond_true rfl ?_) | (refine r_cond_true rfl ?_) | (refine r_cond_false rfl ?_) | (refine r_off rfl rfl rfl ?_) | (refine q_guard rfl rfl (fun _ => ?_) (fun _ => ?_)) | (refine q_guardn rfl rfl (fun _ => ?_) (fun _ => ?_)))
      exact x_round ((i + 1, u5), ((A5, c5), hs5)) ⟨hlt, g1, g2, g3⟩ (by dsimp only; omega) (into rfl ⟨rfl, rfl, rfl, rfl, trivial⟩ ⟨rfl, rfl, trivial⟩ rfl rfl)
  · obtain rfl : i = n := by omega
    repeat' (first | (refine r_pure hT rfl rfl rfl rfl ?_) | (refine r_new hT rfl rfl rfl rfl ?_) | (refine r_write hT rfl rfl rfl ?_) | (refine r_nil ?_) | (refine q_nil ?_) | (refine c_no rfl (by omega) ?_) | (refine r_arith rfl rfl rfl rfl rfl rfl rfl (by omega) ?_) | (with_reducible refine r_seq ?_) | (with_reducible refine x_then ?_) | (with_reducible refine r_region ?_) | (with_reducible refine r_skip ?_) | (with_reducible refine r_ret ?_) | (with_reducible refine x_then_ret ?_) | (with_reducible refine r_block ?_) | (with_reducible refine x_block ?_) | (with_reducible refine x_block_ret ?_) | (with_reducible refine r_exit ?_) | (with_reducible refine x_then_exit ?_) | (with_reducible refine x_block_here ?_) | (refine x_block_past rfl ?_) | (refine c_yes rfl (by omega) ?_) | (refine c_no rfl (by omega) ?_) | (refine c_no rfl (fun h => h rfl) ?_) | (refine r_cond_false rfl ?_) | (refine r_cond_true rfl ?_) | (refine r_cond_true rfl ?_) | (refine r_cond_false rfl ?_) | (refine r_off rfl rfl rfl ?_) | (refine q_guard rfl rfl (fun _ => ?_) (fun _ => ?_)) | (refine q_guardn rfl rfl (fun _ => ?_) (fun _ => ?_)))
    exact r_fin hT rfl (((A, c), hs) : OY) rfl rfl rfl trivial rfl ⟨hO, hle, hof⟩
end Go.Proofs.YtkamfnmbidnhdaaDoor
/- The walk by a symbolic frame: a call of a function value that the frame itself made, its captures known. Over any program; no condition. -/
namespace Go.Sy
set_option linter.unusedVariables false
section
variable {P : Program} {F : Fr} {tm : Tm} {L : Lm} {u : Hp} {n : FN} {β : Nat → Nat} {a : Act} {w : World} {Q : Exit → Act → World → Prop}
def calleeF (tm : Tm) (c : Call) : Option (FuncId × List SV) :=
  match c.callee with
  | .value x => match ev tm x with
    | some (.fn (.func f) [] b) => match evs tm c.args.toList with
      | some l => some (f, l ++ b)
      | none => none
    | _ => none
  | _ => none
theorem calleeF_ok {o : Oper} {c : Call} {f : FuncId} {svs : List SV} (hop : o.op = .call c) (h : calleeF tm c = some (f, svs)) (hc : callable P f = true) (ht : RelT n L β tm a) :
    (execOp a.eval o).run P w = .ok (.enter f (SV.dens β svs).toArray) w := by
  unfold callable at hc
  split at hc
  · rename_i fn hfn
    simp only [Bool.and_eq_true, Bool.not_eq_true', beq_eq_false_iff_ne, ne_eq] at hc
    have hcall : ∀ args, (callFunc f args).run P w = .ok (.enter f args) w := fun args => by
      obtain ⟨cd, h2⟩ := Option.isSome_iff_exists.1 hc.2
      simp [callFunc, program, Sem.run, hfn, hc.1, h2]
    unfold calleeF at h
    split at h
    · rename_i x hx
      have hargs : ∀ l, evs tm c.args.toList = some l → c.args.map a.eval = (SV.dens β l).toArray := fun l hl => by
        rw [← (evs_ok ht hl).1]; exact Array.toList_inj.1 (by simp)
      split at h
      · rename_i f' b hv
        split at h
        · rename_i l hl
          have e := Option.some.inj h
          simp only [Prod.mk.injEq] at e
          obtain ⟨rfl, rfl⟩ := e
          have hb : SV.dens β (l ++ b) = SV.dens β l ++ SV.dens β b := by rw [dens_map, List.map_append, ← dens_map, ← dens_map]
          simp [execOp, hop, resolve, hx, ev_ok ht hv, SV.den, SV.dens, Deferred.ofValue, hargs l hl, invoke, hcall, hb]
        · cases h
      · cases h
    · cases h
  · cases hc
theorem r_callF {l : List Oper} {o : Oper} {r : List Oper} {d : Nat} {c : Call} {f : FuncId} {svs args : List SV} {vs : List Value} {Y : Type} {val : Y → SV} {ψ : Y → Hp → Prop}
    (htri : TriS P f args [] u val (fun _ => []) ψ) (hw : wantE l tm o = some true) (ho : o.dst = some d) (hn : Nat.blt d F.n.z = true) (hop : o.op = .call c) (hcal : calleeF tm c = some (f, svs)) (hc : callable P f = true) (hvs' : valsE [] args = some vs) (hvs : valsE L svs = some vs)
    (next : ∀ y u', ψ y u' → Run P Q F ((d, val y) :: tm) L u' .seq l r) : Run P Q F tm L u .seq l (o :: r) := by
  intro β a w hf ht hd
  show (if _ then _ else _)
  rw [if_pos (wantE_ok hw ht)]
  refine .inl ?_
  unfold Oper.wp
  rw [calleeF_ok hop hcal hc ht, Oper.upon_enter, valsE_den hd.bn hvs]
  refine (htri List.nodup_nil (fun b hb => by simp [names] at hb) vs u hvs' rfl _ _ w (den0_of hd)).mono ?_
  rintro e w' ⟨v, h'', rfl, ⟨y, h', h1, h2, h3, h4⟩, h5⟩
  simp only [addsE, Option.some.injEq] at h2; subst h2
  have hk : (val y).ok [] = true := valE_ok h1
  have hk' : (val y).ok L = true := ok_more (fun i hi => by simp [kget] at hi) _ hk
  have hv : (val y).den β = v := valE_den (L := []) (fun i B b hB => by simp [kget] at hB) h1
  simp only [ho, ← hv]
  exact next y h' h4 β _ w' hf (put_rel hn ht hk') (den_back hd h5)
end
end Go.Sy
