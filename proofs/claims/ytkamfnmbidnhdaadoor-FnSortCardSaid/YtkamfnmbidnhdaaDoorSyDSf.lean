/- The drawer's answers. No condition. -/
import Derived.Test.YtkamfnmbidnhdaaDoorSyDSde
import Derived.Test.YtkamfnmbidnhdaaDoorSyDR
import Derived.Test.YtkamfnmbidnhdaaDoorSySqO
set_option linter.unusedVariables false
set_option linter.unusedSimpArgs false
set_option linter.unusedSectionVars false
namespace Go.Proofs.YtkamfnmbidnhdaaDoor
open Go.Sy
set_option maxRecDepth 100000
set_option maxHeartbeats 8000000
set_option linter.unusedVariables false
set_option linter.unusedSimpArgs false
/-- A heap without a block. -/
def no (u : Hp) (pb : Nat) : Hp := fun z => if z = pb then none else u z
theorem no_le {u v : Hp} {pb : Nat} : Le (no u pb) v ↔ ∀ z o, z ≠ pb → u z = some o → v z = some o :=
  ⟨fun h z o hz ho => h z o (by unfold no; rw [if_neg hz]; exact ho), fun h z o ho => by
    unfold no at ho
    by_cases hz : z = pb
    · rw [if_pos hz] at ho; cases ho
    · rw [if_neg hz] at ho; exact h z o hz ho⟩
theorem no_refl (u : Hp) (pb : Nat) : Le (no u pb) u := no_le.2 fun _ _ _ h => h
theorem no_trans {u v w : Hp} {pb : Nat} (h : Le (no u pb) v) (g : Le (no v pb) w) : Le (no u pb) w := no_le.2 fun z o hz ho => no_le.1 g z o hz (no_le.1 h z o hz ho)
theorem no_eq {u v : Hp} {pb : Nat} (h : ∀ z, z ≠ pb → v z = u z) : Le (no u pb) v := no_le.2 fun z o hz ho => by rw [h z hz]; exact ho
theorem no_off {u v : Hp} {pb : Nat} {A : Option Addr} (h : Le (no u pb) v) (hp : v pb ≠ none) (ho : Off v A) : Off u A := fun b hb => by
  have h1 := ho b hb
  cases hu : u b with
  | none => rfl
  | some o =>
    by_cases e : b = pb
    · exact absurd (by rw [← e]; exact h1) hp
    · rw [no_le.1 h b o e hu] at h1; cases h1
theorem no_offall {u v : Hp} {pb : Nat} {A : Option Addr} {hs : List Hd} (h : Le (no u pb) v) (hp : v pb ≠ none) (ho : OffAll v A hs) : OffAll u A hs := ⟨no_off h hp ho.1, fun x hx => no_off h hp (ho.2 x hx)⟩
theorem Cu.mv {h0 u v : Hp} {pb : Nat} {A : Option Addr} {n c i : Nat} {st : Int} {bs : List Int} (h : Cu h0 u pb A n c i st bs) (hk : ∀ z o, h0 z = some o → u z = some o → v z = some o) (hp : v pb = u pb) : Cu h0 v pb A n c i st bs :=
  ⟨by rw [hp]; exact h.cell, fun z o hz => hk z o hz (h.base z o hz), h.hp, h.row, h.byt, h.max⟩
theorem Cu.live {h0 u : Hp} {pb : Nat} {A : Option Addr} {n c i : Nat} {st : Int} {bs : List Int} (h : Cu h0 u pb A n c i st bs) : u pb ≠ none := by rw [h.cell]; simp
theorem Cu.new {h0 u : Hp} {pb b : Nat} {o : Obj} {A : Option Addr} {n c i : Nat} {st : Int} {bs : List Int} (h : Cu h0 u pb A n c i st bs) (hb : u b = none) : Cu h0 (upd u b o) pb A n c i st bs :=
  h.mv (fun z o hz hu => by rw [upd_ne (fun e => by rw [e, hb] at hu; cases hu)]; exact hu) (upd_ne fun e => h.live (by rw [e]; exact hb))
theorem no_new {u : Hp} {pb b : Nat} {o : Obj} (hb : u b = none) : Le (no u pb) (upd u b o) := no_le.2 fun z o hz hu => by rw [upd_ne (fun e => by rw [e, hb] at hu; cases hu)]; exact hu
/-- A row in the making, beside the cursor: w is the heap before it. -/
structure RS (w h0 v : Hp) (pb b m : Nat) (A : Option Addr) (n c i : Nat) (st : Int) (bs : List Int) (t : List Int) : Prop where
  own : Own v (some ⟨b, 0, none⟩) m m 3 1 (t.flatMap Ic)
  len : t.length = m
  cur : Cu h0 v pb A n c i st bs
  le : Le (no w pb) v
  new : w b = none
  lv : w pb ≠ none
section
variable {w h0 v v' : Hp} {pb b m : Nat} {A : Option Addr} {n c i : Nat} {st : Int} {bs : List Int} {t : List Int}
theorem RS.ne (h : RS w h0 v pb b m A n c i st bs t) : b ≠ pb := fun e => h.lv (by rw [← e]; exact h.new)
theorem RS.off0 (h : RS w h0 v pb b m A n c i st bs t) (hw : Le h0 w) : h0 b = none := by
  cases hu : h0 b with
  | none => rfl
  | some o => have := hw b o hu; rw [h.new] at this; cases this
theorem RS.pick {i' : Nat} {st' : Int} (h : RS w h0 v pb b m A n c i st bs t) (hz : ∀ z, z ≠ pb → v' z = v z) (hc : Cu h0 v' pb A n c i' st' bs) : RS w h0 v' pb b m A n c i' st' bs t :=
  ⟨h.own.le fun x o hx ho => by rw [hz x (fun e => by subst e; exact h.ne (Option.some.inj hx))]; exact ho, h.len, hc, no_trans h.le (no_eq hz), h.new, h.lv⟩
theorem RS.store {j : Nat} {x : Int} (h : RS w h0 v pb b m A n c i st bs t) (hw : Le h0 w) (hj : j < m) (hO : Own v' (some ⟨b, 0, none⟩) m m 3 1 (setL (t.flatMap Ic) (j * 1) [.int .i64 x])) (hz : ∀ z, z ≠ b → v' z = v z) : RS w h0 v' pb b m A n c i st bs (t.set j x) :=
  ⟨by rw [← set_flat Ic_len t x (by rw [h.len]; exact hj)]; exact hO, by rw [List.length_set]; exact h.len,
    h.cur.mv (fun z o h1 h2 => by rw [hz z (fun e => by rw [e, h.off0 hw] at h1; cases h1)]; exact h2) (hz pb (Ne.symm h.ne)),
    no_le.2 fun z o h1 h2 => by rw [hz z (fun e => by rw [e, h.new] at h2; cases h2)]; exact no_le.1 h.le z o h1 h2, h.new, h.lv⟩
end
/-- A heap without a row. -/
def pt (u : Hp) (A : Option Addr) : Hp := fun b => if blk A = some b then none else u b
theorem pt_le (u : Hp) (A : Option Addr) : Le (pt u A) u := fun b o h => by
  unfold pt at h
  split at h
  · cases h
  · exact h
theorem pt_at {u : Hp} {A : Option Addr} {b : Nat} (h : blk A ≠ some b) : pt u A b = u b := by unfold pt; rw [if_neg h]
theorem pt_off (u : Hp) (A : Option Addr) : Off (pt u A) A := fun b hb => by unfold pt; rw [if_pos hb]
theorem pt_grown {w v u : Hp} {A A' : Option Addr} (hG : Grown v u A A') (h : Le w v) : Le (pt w A) u ∧ Off (pt w A) A' := hG _ ((pt_le w A).trans h) (pt_off w A)
abbrev AY := (Option Addr × Nat) × (List Hd × List (List Int)) × (Nat × Int)
theorem reps_Ic (m : Nat) (x : Int) : reps m [Value.int .i64 x] = (List.replicate m x).flatMap Ic := by
  induction m with
  | zero => rfl
  | succ m ih => rw [reps, ih, List.replicate_succ, List.flatMap_cons]; rfl
theorem answers (h0 u : Hp) (pb : Nat) (A : Option Addr) (n c i : Nat) (st : Int) (bs : List Int) (hC0 : Cu h0 u pb A n c i st bs) (hi : i ≤ 1000) :
    TriS Tryd.prog 96 [.v (ptr pb)] [] u (fun y : AY => .v (.slice y.1.1 y.2.1.2.length y.1.2)) (fun _ => [])
      (fun y u' => OTG Ic 1 u' 25 3 y.1.1 y.2.1.2.length y.1.2 y.2.1.1 y.2.1.2 ∧ (∀ t ∈ y.2.1.2, t.length = y.2.1.2.length) ∧ y.2.1.2.length ≤ 30 ∧ OffAll u y.1.1 y.2.1.1 ∧ Cu h0 u' pb A n c y.2.2.1 y.2.2.2 bs ∧ y.2.2.1 ≤ 1000000 ∧ Le (no u pb) u') := by
  refine enterS Tryd.func96 rfl (n := 87) rfl rfl (fun k N => ?_)
  repeat' (first | (refine r_pure hT rfl rfl rfl rfl ?_) | (refine r_new hT rfl rfl rfl rfl ?_) | (refine r_write hT rfl rfl rfl ?_) | (refine r_nil ?_) | (refine q_nil ?_) | (refine r_call (pickC h0 u pb A n c i st bs 14 hC0 (by omega) (by omega) (by omega)) rfl rfl rfl rfl rfl (hC _ rfl) rfl rfl (fun y u1 hy => ?_)) | (refine r_call (pickC h0 u1 pb A n c (i + 1) y.2 bs 20 hy.2.2 (by omega) (by omega) (by omega)) rfl rfl rfl rfl rfl (hC _ rfl) rfl rfl (fun y2 u2 hy2 => ?_)) | (refine r_cutC (c := .tmp 15) (γ := Nat) (p := ((y2.1 : Nat) : Int) = 0) rfl (fun g => g ≤ 30) (fun g => [(0, .v (ptr pb)), (3, .v (.int .i64 (g : Int)))]) (fun _ => []) (fun _ => u2) (fun _ => ?_) (fun _ => ?_) (fun n0 hn0 => ?_)) | (refine r_arith rfl rfl rfl rfl rfl rfl rfl (by omega) ?_) | (with_reducible refine r_seq ?_) | (with_reducible refine x_then ?_) | (with_reducible refine r_region ?_) | (refine r_draw hM (by kernel_rfl) ?_) | (with_reducible refine r_skip ?_) | (with_reducible refine r_ret ?_) | (with_reducible refine x_then_ret ?_) | (with_reducible refine r_block ?_) | (with_reducible refine x_block ?_) | (with_reducible refine x_block_ret ?_) | (with_reducible refine r_exit ?_) | (with_reducible refine x_then_exit ?_) | (with_reducible refine x_block_here ?_) | (refine x_block_past rfl ?_) | (refine c_yes rfl (by omega) ?_) | (refine c_no rfl (by omega) ?_) | (refine c_no rfl (fun h => h rfl) ?_) | (refine r_cond_false rfl ?_) | (refine r_cond_true rfl ?_) | (refine r_cond_dec rfl (fun _ => ?_) (fun _ => ?_)) | (refine r_cond_true rfl ?_) | (refine r_cond_false rfl ?_) | (refine c_not rfl (fun _ => ?_) (fun _ => ?_)) | (refine r_off rfl rfl rfl ?_) | (refine q_guard rfl rfl (fun _ => ?_) (fun _ => ?_)) | (refine q_guardn rfl rfl (fun _ => ?_) (fun _ => ?_)))
  · exact x_cut 30 (by omega) (into rfl ⟨rfl, rfl, trivial⟩ trivial rfl rfl)
  · have := hy.1
    exact x_cut y.1 (by omega) (into rfl ⟨rfl, rfl, trivial⟩ trivial rfl rfl)
  obtain ⟨y, st1⟩ := y
  obtain ⟨y2, st2⟩ := y2
  obtain ⟨_, hz1, hC1⟩ := hy
  obtain ⟨_, hz2, hC2⟩ := hy2
  dsimp only at *
  have hl2 : Le (no u pb) u2 := no_trans (no_eq hz1) (no_eq hz2)
  repeat' (first | (refine r_pure hT rfl rfl rfl rfl ?_) | (refine r_new hT rfl rfl rfl rfl ?_) | (refine r_write hT rfl rfl rfl ?_) | (refine r_nil ?_) | (refine q_nil ?_) | (refine r_makeN hT rfl rfl rfl rfl rfl rfl rfl (by simp) rfl rfl (by dsimp only; omega) (by omega) (fun b0 hb0 => ?_)) | (refine r_arith rfl rfl rfl rfl rfl rfl rfl (by omega) ?_) | (with_reducible refine r_seq ?_) | (with_reducible refine x_then ?_) | (with_reducible refine r_region ?_) | (refine r_draw hM (by kernel_rfl) ?_) | (with_reducible refine r_skip ?_) | (with_reducible refine r_ret ?_) | (with_reducible refine x_then_ret ?_) | (with_reducible refine r_block ?_) | (with_reducible refine x_block ?_) | (with_reducible refine x_block_ret ?_) | (with_reducible refine r_exit ?_) | (with_reducible refine x_then_exit ?_) | (with_reducible refine x_block_here ?_) | (refine x_block_past rfl ?_) | (refine c_yes rfl (by omega) ?_) | (refine c_no rfl (by omega) ?_) | (refine c_no rfl (fun h => h rfl) ?_) | (refine r_cond_false rfl ?_) | (refine r_cond_true rfl ?_) | (refine r_cond_dec rfl (fun _ => ?_) (fun _ => ?_)) | (refine r_cond_true rfl ?_) | (refine r_cond_false rfl ?_) | (refine c_not rfl (fun _ => ?_) (fun _ => ?_)) | (refine r_off rfl rfl rfl ?_) | (refine q_guard rfl rfl (fun _ => ?_) (fun _ => ?_)) | (refine q_guardn rfl rfl (fun _ => ?_) (fun _ => ?_)))
  refine r_loop (γ := (Nat × Hp) × ((Nat × Int) × List Int)) (fun g => g.1.1 ≤ n0 ∧ g.2.1.1 ≤ 1100 + g.1.1 ∧ RS u2 h0 g.1.2 pb b0 n0 A n c g.2.1.1 g.2.1.2 bs g.2.2)
    (fun g => [(0, .v (ptr pb)), (3, .v (.int .i64 (n0 : Int))), (4, .v (.slice (some ⟨b0, 0, none⟩) n0 n0)), (19, .v (.int .i64 (n0 : Int))), (20, .v (.int .i64 (g.1.1 : Int)))]) (fun _ => []) (fun g => g.1.2) (fun g => n0 - g.1.1)
    ((0, _), ((i + 1 + 1, st2), List.replicate n0 0)) ⟨Nat.zero_le _, by dsimp only; omega, ⟨by rw [← reps_Ic]; exact own_made rfl, List.length_replicate, hC2.new hb0, no_new hb0, hb0, hC2.live⟩⟩ (into rfl ⟨rfl, rfl, rfl, rfl, rfl, trivial⟩ trivial rfl rfl) ?_
  rintro ⟨⟨j, v⟩, ⟨⟨i1, st3⟩, rk⟩⟩ ⟨hj, hi1, hR⟩
  dsimp only at *
  by_cases hlt : j < n0
  · repeat' (first | (refine r_pure hT rfl rfl rfl rfl ?_) | (refine r_new hT rfl rfl rfl rfl ?_) | (refine r_write hT rfl rfl rfl ?_) | (refine r_nil ?_) | (refine q_nil ?_) | (refine r_call (pickC h0 v pb A n c i1 st3 bs 6 hR.cur (by omega) (by omega) (by omega)) rfl rfl rfl rfl rfl (hC _ rfl) rfl rfl (fun y3 u3 hy3 => ?_)) | (refine r_indexN hT rfl rfl rfl rfl rfl rfl rfl rfl rfl (by omega) ?_) | (refine r_store_own (o := j * 1) hT (hR.pick hy3.2.1 hy3.2.2).own rfl rfl rfl rfl rfl rfl rfl rfl rfl rfl rfl (by rw [hR.own.len]; show j * 1 + 1 ≤ n0 * 1; omega) (fun u4 hO4 hu4 => ?_)) | (refine r_arith rfl rfl rfl rfl rfl rfl rfl (by omega) ?_) | (with_reducible refine r_seq ?_) | (with_reducible refine x_then ?_) | (with_reducible refine r_region ?_) | (refine r_draw hM (by kernel_rfl) ?_) | (with_reducible refine r_skip ?_) | (with_reducible refine r_ret ?_) | (with_reducible refine x_then_ret ?_) | (with_reducible refine r_block ?_) | (with_reducible refine x_block ?_) | (with_reducible refine x_block_ret ?_) | (with_reducible refine r_exit ?_) | (with_reducible refine x_then_exit ?_) | (with_reducible refine x_block_here ?_) | (refine x_block_past rfl ?_) | (refine c_yes rfl (by omega) ?_) | (refine c_no rfl (by omega) ?_) | (refine c_no rfl (fun h => h rfl) ?_) | (refine r_cond_false rfl ?_) | (refine r_cond_true rfl ?_) | (refine r_cond_dec rfl (fun _ => ?_) (fun _ => ?_)) | (refine r_cond_true rfl ?_) | (refine r_cond_false rfl ?_) | (refine c_not rfl (fun _ => ?_) (fun _ => ?_)) | (refine r_off rfl rfl rfl ?_) | (refine q_guard rfl rfl (fun _ => ?_) (fun _ => ?_)) | (refine q_guardn rfl rfl (fun _ => ?_) (fun _ => ?_)))
    exact x_round ((j + 1, u4), ((i1 + 1, y3.2), rk.set j (y3.1 : Int))) ⟨hlt, by dsimp only; omega, (hR.pick hy3.2.1 hy3.2.2).store hC2.base hlt hO4 hu4⟩ (by dsimp only; omega) (into rfl ⟨rfl, rfl, rfl, rfl, rfl, trivial⟩ trivial rfl rfl)
  · obtain rfl : j = n0 := by omega
    repeat' (first | (refine r_pure hT rfl rfl rfl rfl ?_) | (refine r_new hT rfl rfl rfl rfl ?_) | (refine r_write hT rfl rfl rfl ?_) | (refine r_nil ?_) | (refine q_nil ?_) | (refine r_call (pickC h0 v pb A n c i1 st3 bs 4 hR.cur (by omega) (by omega) (by omega)) rfl rfl rfl rfl rfl (hC _ rfl) rfl rfl (fun y4 u4 hy4 => ?_)) | (refine r_arith rfl rfl rfl rfl rfl rfl rfl (by omega) ?_) | (with_reducible refine r_seq ?_) | (with_reducible refine x_then ?_) | (with_reducible refine r_region ?_) | (refine r_draw hM (by kernel_rfl) ?_) | (with_reducible refine r_skip ?_) | (with_reducible refine r_ret ?_) | (with_reducible refine x_then_ret ?_) | (with_reducible refine r_block ?_) | (with_reducible refine x_block ?_) | (with_reducible refine x_block_ret ?_) | (with_reducible refine r_exit ?_) | (with_reducible refine x_then_exit ?_) | (with_reducible refine x_block_here ?_) | (refine x_block_past rfl ?_) | (refine c_yes rfl (by omega) ?_) | (refine c_no rfl (by omega) ?_) | (refine c_no rfl (fun h => h rfl) ?_) | (refine r_cond_false rfl ?_) | (refine r_cond_true rfl ?_) | (refine r_cond_dec rfl (fun _ => ?_) (fun _ => ?_)) | (refine r_cond_true rfl ?_) | (refine r_cond_false rfl ?_) | (refine c_not rfl (fun _ => ?_) (fun _ => ?_)) | (refine r_off rfl rfl rfl ?_) | (refine q_guard rfl rfl (fun _ => ?_) (fun _ => ?_)) | (refine q_guardn rfl rfl (fun _ => ?_) (fun _ => ?_)))
    have hR4 := hR.pick hy4.2.1 hy4.2.2
    have hmode := hy4.1
    obtain ⟨mo, st4⟩ := y4
    dsimp only at *
    have hrI : Ints (no u4 pb) (some ⟨b0, 0, none⟩) j rk := ⟨hR4.len.symm, (hR4.own.le fun b o hb ho => by
      have e := Option.some.inj hb; subst e
      unfold no; rw [if_neg hR4.ne]; exact ho).sl⟩
    repeat' (first | (refine r_pure hT rfl rfl rfl rfl ?_) | (refine r_new hT rfl rfl rfl rfl ?_) | (refine r_write hT rfl rfl rfl ?_) | (refine r_nil ?_) | (refine q_nil ?_) | (refine r_loop (γ := (Nat × Hp) × AY) (fun g => g.1.1 ≤ j ∧ OTG Ic 1 g.1.2 25 3 g.2.1.1 g.1.1 g.2.1.2 g.2.2.1.1 g.2.2.1.2 ∧ (∀ t ∈ g.2.2.1.2, t.length = j) ∧ OffAll u4 g.2.1.1 g.2.2.1.1 ∧ Cu h0 g.1.2 pb A n c g.2.2.2.1 g.2.2.2.2 bs ∧ g.2.2.2.1 ≤ 2000 + 100 * g.1.1 ∧ Le (no u4 pb) g.1.2) (fun g => [(0, .v (ptr pb)), (3, .v (.int .i64 (j : Int))), (4, .v (.slice (some ⟨b0, 0, none⟩) j j)), (6, .v (.int .i64 (mo : Int))), (7, .v (.slice g.2.1.1 g.1.1 g.2.1.2)), (8, .v (.int .i64 (g.1.1 : Int)))]) (fun _ => []) (fun g => g.1.2) (fun g => j - g.1.1) ((0, u4), ((none, 0), (([], []), (i1 + 1, st4)))) ⟨Nat.zero_le _, ⟨rfl, own_nil, ORowG.nil⟩, fun t ht => (by cases ht), ⟨off_nil, fun x hx => (by cases hx)⟩, hR4.cur, by dsimp only; omega, no_refl _ _⟩ (into rfl ⟨rfl, rfl, rfl, rfl, rfl, rfl, trivial⟩ trivial rfl rfl) ?_) | (refine r_arith rfl rfl rfl rfl rfl rfl rfl (by omega) ?_) | (with_reducible refine r_seq ?_) | (with_reducible refine x_then ?_) | (with_reducible refine r_region ?_) | (refine r_draw hM (by kernel_rfl) ?_) | (with_reducible refine r_skip ?_) | (with_reducible refine r_ret ?_) | (with_reducible refine x_then_ret ?_) | (with_reducible refine r_block ?_) | (with_reducible refine x_block ?_) | (with_reducible refine x_block_ret ?_) | (with_reducible refine r_exit ?_) | (with_reducible refine x_then_exit ?_) | (with_reducible refine x_block_here ?_) | (refine x_block_past rfl ?_) | (refine c_yes rfl (by omega) ?_) | (refine c_no rfl (by omega) ?_) | (refine c_no rfl (fun h => h rfl) ?_) | (refine r_cond_false rfl ?_) | (refine r_cond_true rfl ?_) | (refine r_cond_dec rfl (fun _ => ?_) (fun _ => ?_)) | (refine r_cond_true rfl ?_) | (refine r_cond_false rfl ?_) | (refine c_not rfl (fun _ => ?_) (fun _ => ?_)) | (refine r_off rfl rfl rfl ?_) | (refine q_guard rfl rfl (fun _ => ?_) (fun _ => ?_)) | (refine q_guardn rfl rfl (fun _ => ?_) (fun _ => ?_)))
    rintro ⟨⟨a, v5⟩, ⟨⟨Ao, co⟩, ⟨⟨hs, ts⟩, ⟨i2, st5⟩⟩⟩⟩ ⟨ha, hO, hts, hoff, hC5, hi2, hle5⟩
    dsimp only at *
    by_cases halt : a < j
    · repeat' (first | (refine r_pure hT rfl rfl rfl rfl ?_) | (refine r_new hT rfl rfl rfl rfl ?_) | (refine r_write hT rfl rfl rfl ?_) | (refine r_nil ?_) | (refine q_nil ?_) | (refine r_makeN hT rfl rfl rfl rfl rfl rfl rfl (by simp) rfl rfl (by dsimp only; omega) (by omega) (fun bR hbR => ?_)) | (refine r_arith rfl rfl rfl rfl rfl rfl rfl (by omega) ?_) | (with_reducible refine r_seq ?_) | (with_reducible refine x_then ?_) | (with_reducible refine r_region ?_) | (refine r_draw hM (by kernel_rfl) ?_) | (with_reducible refine r_skip ?_) | (with_reducible refine r_ret ?_) | (with_reducible refine x_then_ret ?_) | (with_reducible refine r_block ?_) | (with_reducible refine x_block ?_) | (with_reducible refine x_block_ret ?_) | (with_reducible refine r_exit ?_) | (with_reducible refine x_then_exit ?_) | (with_reducible refine x_block_here ?_) | (refine x_block_past rfl ?_) | (refine c_yes rfl (by omega) ?_) | (refine c_no rfl (by omega) ?_) | (refine c_no rfl (fun h => h rfl) ?_) | (refine r_cond_false rfl ?_) | (refine r_cond_true rfl ?_) | (refine r_cond_dec rfl (fun _ => ?_) (fun _ => ?_)) | (refine r_cond_true rfl ?_) | (refine r_cond_false rfl ?_) | (refine c_not rfl (fun _ => ?_) (fun _ => ?_)) | (refine r_off rfl rfl rfl ?_) | (refine q_guard rfl rfl (fun _ => ?_) (fun _ => ?_)) | (refine q_guardn rfl rfl (fun _ => ?_) (fun _ => ?_)))
      refine r_loop (γ := (Nat × Hp) × ((Nat × Int) × List Int)) (fun g => g.1.1 ≤ j ∧ g.2.1.1 ≤ i2 + 2 * g.1.1 ∧ RS v5 h0 g.1.2 pb bR j A n c g.2.1.1 g.2.1.2 bs g.2.2)
        (fun g => [(0, .v (ptr pb)), (3, .v (.int .i64 (j : Int))), (4, .v (.slice (some ⟨b0, 0, none⟩) j j)), (6, .v (.int .i64 (mo : Int))), (7, .v (.slice Ao a co)), (8, .v (.int .i64 (a : Int))), (9, .v (.slice (some ⟨bR, 0, none⟩) j j)), (39, .v (.int .i64 (j : Int))), (40, .v (.int .i64 (g.1.1 : Int)))]) (fun _ => []) (fun g => g.1.2) (fun g => j - g.1.1)
        ((0, _), ((i2, st5), List.replicate j 0)) ⟨Nat.zero_le _, by dsimp only; omega, ⟨by rw [← reps_Ic]; exact own_made rfl, List.length_replicate, hC5.new hbR, no_new hbR, hbR, hC5.live⟩⟩ (into rfl ⟨rfl, rfl, rfl, rfl, rfl, rfl, rfl, rfl, rfl, trivial⟩ trivial rfl rfl) ?_
      rintro ⟨⟨b, w0⟩, ⟨⟨i3, st6⟩, t0⟩⟩ ⟨hbj, hi3, hS0⟩
      dsimp only at *
      by_cases hblt : b < j
      · obtain ⟨bx, ox, x, hbx, _, _, _, hatx⟩ := hrI.elem Ic_len (i := a) (by rw [← hrI.1]; exact halt)
        obtain ⟨by_, oy, y, hby, _, _, _, haty⟩ := hrI.elem Ic_len (i := b) (by rw [← hrI.1]; exact hblt)
        have ex := Option.some.inj hbx
        have ey := Option.some.inj hby
        simp only [Addr.mk.injEq] at ex ey
        obtain ⟨rfl, rfl, _⟩ := ex
        obtain ⟨rfl, rfl, _⟩ := ey
        have hlw := no_trans hle5 hS0.le
        have hatx2 := hatx.le hlw
        have haty2 := haty.le hlw
        repeat' (first | (refine r_pure hT rfl rfl rfl rfl ?_) | (refine r_new hT rfl rfl rfl rfl ?_) | (refine r_write hT rfl rfl rfl ?_) | (refine r_nil ?_) | (refine q_nil ?_) | (refine r_indexN hT rfl rfl rfl rfl rfl rfl rfl rfl rfl (by omega) ?_) | (refine r_load hT hatx2 rfl rfl rfl rfl rfl (Nat.add_zero _).symm rfl rfl rfl rfl rfl ?_) | (refine r_load hT haty2 rfl rfl rfl rfl rfl (Nat.add_zero _).symm rfl rfl rfl rfl rfl ?_) | (refine r_store_own (o := b * 1) hT hS0.own rfl rfl rfl rfl rfl rfl rfl rfl rfl rfl rfl (by rw [hS0.own.len]; show b * 1 + 1 ≤ j * 1; omega) (fun u6 hO6 hu6 => ?_)) | (refine r_cutC (c := .tmp 51) (γ := Hp × List Int) (p := x < y) rfl (fun g => RS v5 h0 g.1 pb bR j A n c i3 st6 bs g.2) (fun g => [(0, .v (ptr pb)), (3, .v (.int .i64 (j : Int))), (4, .v (.slice (some ⟨b0, 0, none⟩) j j)), (6, .v (.int .i64 (mo : Int))), (7, .v (.slice Ao a co)), (8, .v (.int .i64 (a : Int))), (9, .v (.slice (some ⟨bR, 0, none⟩) j j)), (10, .v (.int .i64 (b : Int))), (39, .v (.int .i64 (j : Int))), (40, .v (.int .i64 (b : Int)))]) (fun _ => []) (fun g => g.1) (fun _ => ?_) (fun _ => ?_) (fun g hg => ?_)) | (refine r_arith rfl rfl rfl rfl rfl rfl rfl (by omega) ?_) | (with_reducible refine r_seq ?_) | (with_reducible refine x_then ?_) | (with_reducible refine r_region ?_) | (refine r_draw hM (by kernel_rfl) ?_) | (with_reducible refine r_skip ?_) | (with_reducible refine r_ret ?_) | (with_reducible refine x_then_ret ?_) | (with_reducible refine r_block ?_) | (with_reducible refine x_block ?_) | (with_reducible refine x_block_ret ?_) | (with_reducible refine r_exit ?_) | (with_reducible refine x_then_exit ?_) | (with_reducible refine x_block_here ?_) | (refine x_block_past rfl ?_) | (refine c_yes rfl (by omega) ?_) | (refine c_no rfl (by omega) ?_) | (refine c_no rfl (fun h => h rfl) ?_) | (refine r_cond_false rfl ?_) | (refine r_cond_true rfl ?_) | (refine r_cond_true rfl ?_) | (refine r_cond_false rfl ?_) | (refine r_off rfl rfl rfl ?_))
        · exact x_cut (u6, t0.set b 1) (hS0.store (hC5.base) hblt hO6 hu6) (into rfl ⟨rfl, rfl, rfl, rfl, rfl, rfl, rfl, rfl, rfl, rfl, trivial⟩ trivial rfl rfl)
        · exact x_cut (w0, t0) hS0 (into rfl ⟨rfl, rfl, rfl, rfl, rfl, rfl, rfl, rfl, rfl, rfl, trivial⟩ trivial rfl rfl)
        obtain ⟨w, t⟩ := g
        dsimp only at *
        clear hatx2 haty2 hatx haty
        by_cases m1 : ((mo : Nat) : Int) = 1
        · have n3 : ¬ ((mo : Nat) : Int) = 3 := by omega
          have n2 : ¬ ((mo : Nat) : Int) = 2 := by omega
          repeat' (first | (refine r_pure hT rfl rfl rfl rfl ?_) | (refine r_new hT rfl rfl rfl rfl ?_) | (refine r_write hT rfl rfl rfl ?_) | (refine r_nil ?_) | (refine q_nil ?_) | (refine q_guard rfl rfl (fun _ => ?_) (fun hx => absurd m1 hx)) | (refine r_call (pickC h0 w pb A n c i3 st6 bs 12 hg.cur (by omega) (by omega) (by omega)) rfl rfl rfl rfl rfl (hC _ rfl) rfl rfl (fun y6 u6 hy6 => ?_)) | (refine r_arith rfl rfl rfl rfl rfl rfl rfl (by omega) ?_) | (with_reducible refine r_seq ?_) | (with_reducible refine x_then ?_) | (with_reducible refine r_region ?_) | (refine r_draw hM (by kernel_rfl) ?_) | (with_reducible refine r_skip ?_) | (with_reducible refine r_ret ?_) | (with_reducible refine x_then_ret ?_) | (with_reducible refine r_block ?_) | (with_reducible refine x_block ?_) | (with_reducible refine x_block_ret ?_) | (with_reducible refine r_exit ?_) | (with_reducible refine x_then_exit ?_) | (with_reducible refine x_block_here ?_) | (refine x_block_past rfl ?_) | (refine c_yes rfl (by omega) ?_) | (refine c_no rfl (by omega) ?_) | (refine c_no rfl (fun h => h rfl) ?_) | (refine r_cond_false rfl ?_) | (refine r_cond_true rfl ?_) | (refine r_cond_true rfl ?_) | (refine r_cond_false rfl ?_) | (refine r_off rfl rfl rfl ?_))
          have hg6 := hg.pick hy6.2.1 hy6.2.2
          by_cases hy0 : ((y6.1 : Nat) : Int) = 0
          · repeat' (first | (refine r_pure hT rfl rfl rfl rfl ?_) | (refine r_new hT rfl rfl rfl rfl ?_) | (refine r_write hT rfl rfl rfl ?_) | (refine r_nil ?_) | (refine q_nil ?_) | (refine q_guard rfl rfl (fun _ => ?_) (fun hx => absurd hy0 hx)) | (refine q_guard rfl rfl (fun hx => absurd hx n3) (fun _ => ?_)) | (refine r_offu rfl rfl rfl rfl rfl rfl ?_) | (refine r_call (pickC h0 u6 pb A n c (i3 + 1) y6.2 bs 2 hg6.cur (by omega) (by omega) (by omega)) rfl rfl rfl rfl rfl (hC _ rfl) rfl rfl (fun y7 u7 hy7 => ?_)) | (refine r_indexN hT rfl rfl rfl rfl rfl rfl rfl rfl rfl (by omega) ?_) | (refine r_store_own (o := b * 1) hT (hg6.pick hy7.2.1 hy7.2.2).own rfl rfl rfl rfl rfl rfl rfl rfl rfl rfl rfl (by rw [hg.own.len]; show b * 1 + 1 ≤ j * 1; omega) (fun u8 hO8 hu8 => ?_)) | (refine r_arith rfl rfl rfl rfl rfl rfl rfl (by omega) ?_) | (with_reducible refine r_seq ?_) | (with_reducible refine x_then ?_) | (with_reducible refine r_region ?_) | (refine r_draw hM (by kernel_rfl) ?_) | (with_reducible refine r_skip ?_) | (with_reducible refine r_ret ?_) | (with_reducible refine x_then_ret ?_) | (with_reducible refine r_block ?_) | (with_reducible refine x_block ?_) | (with_reducible refine x_block_ret ?_) | (with_reducible refine r_exit ?_) | (with_reducible refine x_then_exit ?_) | (with_reducible refine x_block_here ?_) | (refine x_block_past rfl ?_) | (refine c_yes rfl (by omega) ?_) | (refine c_no rfl (by omega) ?_) | (refine c_no rfl (fun h => h rfl) ?_) | (refine r_cond_false rfl ?_) | (refine r_cond_true rfl ?_) | (refine r_cond_dec rfl (fun _ => ?_) (fun _ => ?_)) | (refine r_cond_true rfl ?_) | (refine r_cond_false rfl ?_) | (refine c_not rfl (fun _ => ?_) (fun _ => ?_)) | (refine r_off rfl rfl rfl ?_))
            exact x_round ((b + 1, u8), ((i3 + 1 + 1, y7.2), t.set b (y7.1 : Int))) ⟨hblt, by dsimp only; omega, (hg6.pick hy7.2.1 hy7.2.2).store hC5.base hblt hO8 hu8⟩ (by dsimp only; omega) (into rfl ⟨rfl, rfl, rfl, rfl, rfl, rfl, rfl, rfl, rfl, trivial⟩ trivial rfl rfl)
          · repeat' (first | (refine r_pure hT rfl rfl rfl rfl ?_) | (refine r_new hT rfl rfl rfl rfl ?_) | (refine r_write hT rfl rfl rfl ?_) | (refine r_nil ?_) | (refine q_nil ?_) | (refine q_guard rfl rfl (fun hx => absurd hx hy0) (fun _ => ?_)) | (refine q_guard rfl rfl (fun hx => absurd hx n2) (fun _ => ?_)) | (refine q_guard rfl rfl (fun hx => absurd hx n3) (fun _ => ?_)) | (refine r_offu rfl rfl rfl rfl rfl rfl ?_) | (refine r_arith rfl rfl rfl rfl rfl rfl rfl (by omega) ?_) | (with_reducible refine r_seq ?_) | (with_reducible refine x_then ?_) | (with_reducible refine r_region ?_) | (refine r_draw hM (by kernel_rfl) ?_) | (with_reducible refine r_skip ?_) | (with_reducible refine r_ret ?_) | (with_reducible refine x_then_ret ?_) | (with_reducible refine r_block ?_) | (with_reducible refine x_block ?_) | (with_reducible refine x_block_ret ?_) | (with_reducible refine r_exit ?_) | (with_reducible refine x_then_exit ?_) | (with_reducible refine x_block_here ?_) | (refine x_block_past rfl ?_) | (refine c_yes rfl (by omega) ?_) | (refine c_no rfl (by omega) ?_) | (refine c_no rfl (fun h => h rfl) ?_) | (refine r_cond_false rfl ?_) | (refine r_cond_true rfl ?_) | (refine r_cond_dec rfl (fun _ => ?_) (fun _ => ?_)) | (refine r_cond_true rfl ?_) | (refine r_cond_false rfl ?_) | (refine c_not rfl (fun _ => ?_) (fun _ => ?_)) | (refine r_off rfl rfl rfl ?_))
            exact x_round ((b + 1, u6), ((i3 + 1, y6.2), t)) ⟨hblt, by dsimp only; omega, hg6⟩ (by dsimp only; omega) (into rfl ⟨rfl, rfl, rfl, rfl, rfl, rfl, rfl, rfl, rfl, trivial⟩ trivial rfl rfl)
        · by_cases m2 : ((mo : Nat) : Int) = 2
          · have n3 : ¬ ((mo : Nat) : Int) = 3 := by omega
            repeat' (first | (refine r_pure hT rfl rfl rfl rfl ?_) | (refine r_new hT rfl rfl rfl rfl ?_) | (refine r_write hT rfl rfl rfl ?_) | (refine r_nil ?_) | (refine q_nil ?_) | (refine q_guard rfl rfl (fun hx => absurd hx m1) (fun _ => ?_)) | (refine q_guard rfl rfl (fun hx => absurd hx n3) (fun _ => ?_)) | (refine r_offu rfl rfl rfl rfl rfl rfl ?_) | (refine r_call (pickC h0 w pb A n c i3 st6 bs 2 hg.cur (by omega) (by omega) (by omega)) rfl rfl rfl rfl rfl (hC _ rfl) rfl rfl (fun y7 u7 hy7 => ?_)) | (refine r_indexN hT rfl rfl rfl rfl rfl rfl rfl rfl rfl (by omega) ?_) | (refine r_store_own (o := b * 1) hT (hg.pick hy7.2.1 hy7.2.2).own rfl rfl rfl rfl rfl rfl rfl rfl rfl rfl rfl (by rw [hg.own.len]; show b * 1 + 1 ≤ j * 1; omega) (fun u8 hO8 hu8 => ?_)) | (refine r_arith rfl rfl rfl rfl rfl rfl rfl (by omega) ?_) | (with_reducible refine r_seq ?_) | (with_reducible refine x_then ?_) | (with_reducible refine r_region ?_) | (refine r_draw hM (by kernel_rfl) ?_) | (with_reducible refine r_skip ?_) | (with_reducible refine r_ret ?_) | (with_reducible refine x_then_ret ?_) | (with_reducible refine r_block ?_) | (with_reducible refine x_block ?_) | (with_reducible refine x_block_ret ?_) | (with_reducible refine r_exit ?_) | (with_reducible refine x_then_exit ?_) | (with_reducible refine x_block_here ?_) | (refine x_block_past rfl ?_) | (refine c_yes rfl (by omega) ?_) | (refine c_no rfl (by omega) ?_) | (refine c_no rfl (fun h => h rfl) ?_) | (refine r_cond_false rfl ?_) | (refine r_cond_true rfl ?_) | (refine r_cond_dec rfl (fun _ => ?_) (fun _ => ?_)) | (refine r_cond_true rfl ?_) | (refine r_cond_false rfl ?_) | (refine c_not rfl (fun _ => ?_) (fun _ => ?_)) | (refine r_off rfl rfl rfl ?_))
            exact x_round ((b + 1, u8), ((i3 + 1, y7.2), t.set b (y7.1 : Int))) ⟨hblt, by dsimp only; omega, (hg.pick hy7.2.1 hy7.2.2).store hC5.base hblt hO8 hu8⟩ (by dsimp only; omega) (into rfl ⟨rfl, rfl, rfl, rfl, rfl, rfl, rfl, rfl, rfl, trivial⟩ trivial rfl rfl)
          · by_cases m3 : ((mo : Nat) : Int) = 3
            · repeat' (first | (refine r_pure hT rfl rfl rfl rfl ?_) | (refine r_new hT rfl rfl rfl rfl ?_) | (refine r_write hT rfl rfl rfl ?_) | (refine r_nil ?_) | (refine q_nil ?_) | (refine q_guard rfl rfl (fun hx => absurd hx m1) (fun _ => ?_)) | (refine q_guard rfl rfl (fun _ => ?_) (fun hx => absurd m3 hx)) | (refine r_offu rfl rfl rfl rfl rfl rfl ?_) | (refine r_call (pickC h0 w pb A n c i3 st6 bs 30 hg.cur (by omega) (by omega) (by omega)) rfl rfl rfl rfl rfl (hC _ rfl) rfl rfl (fun y6 u6 hy6 => ?_)) | (refine r_arith rfl rfl rfl rfl rfl rfl rfl (by omega) ?_) | (with_reducible refine r_seq ?_) | (with_reducible refine x_then ?_) | (with_reducible refine r_region ?_) | (refine r_draw hM (by kernel_rfl) ?_) | (with_reducible refine r_skip ?_) | (with_reducible refine r_ret ?_) | (with_reducible refine x_then_ret ?_) | (with_reducible refine r_block ?_) | (with_reducible refine x_block ?_) | (with_reducible refine x_block_ret ?_) | (with_reducible refine r_exit ?_) | (with_reducible refine x_then_exit ?_) | (with_reducible refine x_block_here ?_) | (refine x_block_past rfl ?_) | (refine c_yes rfl (by omega) ?_) | (refine c_no rfl (by omega) ?_) | (refine c_no rfl (fun h => h rfl) ?_) | (refine r_cond_false rfl ?_) | (refine r_cond_true rfl ?_) | (refine r_cond_true rfl ?_) | (refine r_cond_false rfl ?_) | (refine r_off rfl rfl rfl ?_))
              have hg6 := hg.pick hy6.2.1 hy6.2.2
              by_cases hy0 : ((y6.1 : Nat) : Int) = 0
              · repeat' (first | (refine r_pure hT rfl rfl rfl rfl ?_) | (refine r_new hT rfl rfl rfl rfl ?_) | (refine r_write hT rfl rfl rfl ?_) | (refine r_nil ?_) | (refine q_nil ?_) | (refine r_indexN hT rfl rfl rfl rfl rfl rfl rfl rfl rfl (by omega) ?_) | (refine r_store_own (o := b * 1) hT (hg6).own rfl rfl rfl rfl rfl rfl rfl rfl rfl rfl rfl (by rw [hg.own.len]; show b * 1 + 1 ≤ j * 1; omega) (fun u8 hO8 hu8 => ?_)) | (refine r_arith rfl rfl rfl rfl rfl rfl rfl (by omega) ?_) | (with_reducible refine r_seq ?_) | (with_reducible refine x_then ?_) | (with_reducible refine r_region ?_) | (refine r_draw hM (by kernel_rfl) ?_) | (with_reducible refine r_skip ?_) | (with_reducible refine r_ret ?_) | (with_reducible refine x_then_ret ?_) | (with_reducible refine r_block ?_) | (with_reducible refine x_block ?_) | (with_reducible refine x_block_ret ?_) | (with_reducible refine r_exit ?_) | (with_reducible refine x_then_exit ?_) | (with_reducible refine x_block_here ?_) | (refine x_block_past rfl ?_) | (refine c_yes rfl (by omega) ?_) | (refine c_no rfl (by omega) ?_) | (refine c_no rfl (fun h => h rfl) ?_) | (refine r_cond_false rfl ?_) | (refine r_cond_true rfl ?_) | (refine r_cond_dec rfl (fun _ => ?_) (fun _ => ?_)) | (refine r_cond_true rfl ?_) | (refine r_cond_false rfl ?_) | (refine c_not rfl (fun _ => ?_) (fun _ => ?_)) | (refine r_off rfl rfl rfl ?_) | (refine q_guard rfl rfl (fun _ => ?_) (fun _ => ?_)) | (refine q_guardn rfl rfl (fun _ => ?_) (fun _ => ?_)))
                exact x_round ((b + 1, u8), ((i3 + 1, y6.2), t.set b 2)) ⟨hblt, by dsimp only; omega, hg6.store hC5.base hblt hO8 hu8⟩ (by dsimp only; omega) (into rfl ⟨rfl, rfl, rfl, rfl, rfl, rfl, rfl, rfl, rfl, trivial⟩ trivial rfl rfl)
              · repeat' (first | (refine r_pure hT rfl rfl rfl rfl ?_) | (refine r_new hT rfl rfl rfl rfl ?_) | (refine r_write hT rfl rfl rfl ?_) | (refine r_nil ?_) | (refine q_nil ?_) | (refine r_arith rfl rfl rfl rfl rfl rfl rfl (by omega) ?_) | (with_reducible refine r_seq ?_) | (with_reducible refine x_then ?_) | (with_reducible refine r_region ?_) | (refine r_draw hM (by kernel_rfl) ?_) | (with_reducible refine r_skip ?_) | (with_reducible refine r_ret ?_) | (with_reducible refine x_then_ret ?_) | (with_reducible refine r_block ?_) | (with_reducible refine x_block ?_) | (with_reducible refine x_block_ret ?_) | (with_reducible refine r_exit ?_) | (with_reducible refine x_then_exit ?_) | (with_reducible refine x_block_here ?_) | (refine x_block_past rfl ?_) | (refine c_yes rfl (by omega) ?_) | (refine c_no rfl (by omega) ?_) | (refine c_no rfl (fun h => h rfl) ?_) | (refine r_cond_false rfl ?_) | (refine r_cond_true rfl ?_) | (refine r_cond_dec rfl (fun _ => ?_) (fun _ => ?_)) | (refine r_cond_true rfl ?_) | (refine r_cond_false rfl ?_) | (refine c_not rfl (fun _ => ?_) (fun _ => ?_)) | (refine r_off rfl rfl rfl ?_) | (refine q_guard rfl rfl (fun _ => ?_) (fun _ => ?_)) | (refine q_guardn rfl rfl (fun _ => ?_) (fun _ => ?_)))
                exact x_round ((b + 1, u6), ((i3 + 1, y6.2), t)) ⟨hblt, by dsimp only; omega, hg6⟩ (by dsimp only; omega) (into rfl ⟨rfl, rfl, rfl, rfl, rfl, rfl, rfl, rfl, rfl, trivial⟩ trivial rfl rfl)
            · repeat' (first | (refine r_pure hT rfl rfl rfl rfl ?_) | (refine r_new hT rfl rfl rfl rfl ?_) | (refine r_write hT rfl rfl rfl ?_) | (refine r_nil ?_) | (refine q_nil ?_) | (refine q_guard rfl rfl (fun hx => absurd hx m1) (fun _ => ?_)) | (refine q_guard rfl rfl (fun hx => absurd hx m3) (fun _ => ?_)) | (refine r_offu rfl rfl rfl rfl rfl rfl ?_) | (refine r_arith rfl rfl rfl rfl rfl rfl rfl (by omega) ?_) | (with_reducible refine r_seq ?_) | (with_reducible refine x_then ?_) | (with_reducible refine r_region ?_) | (refine r_draw hM (by kernel_rfl) ?_) | (with_reducible refine r_skip ?_) | (with_reducible refine r_ret ?_) | (with_reducible refine x_then_ret ?_) | (with_reducible refine r_block ?_) | (with_reducible refine x_block ?_) | (with_reducible refine x_block_ret ?_) | (with_reducible refine r_exit ?_) | (with_reducible refine x_then_exit ?_) | (with_reducible refine x_block_here ?_) | (refine x_block_past rfl ?_) | (refine c_yes rfl (by omega) ?_) | (refine c_no rfl (by omega) ?_) | (refine c_no rfl (fun h => h rfl) ?_) | (refine r_cond_false rfl ?_) | (refine r_cond_true rfl ?_) | (refine r_cond_dec rfl (fun _ => ?_) (fun _ => ?_)) | (refine r_cond_true rfl ?_) | (refine r_cond_false rfl ?_) | (refine c_not rfl (fun _ => ?_) (fun _ => ?_)) | (refine r_off rfl rfl rfl ?_))
              exact x_round ((b + 1, w), ((i3, st6), t)) ⟨hblt, by dsimp only; omega, hg⟩ (by dsimp only; omega) (into rfl ⟨rfl, rfl, rfl, rfl, rfl, rfl, rfl, rfl, rfl, trivial⟩ trivial rfl rfl)
      · obtain rfl : b = j := by omega
        have hv5 : ∀ x o, x ≠ pb → v5 x = some o → w0 x = some o := fun x o hx ho => no_le.1 hS0.le x o hx ho
        have hAp : blk Ao ≠ some pb := fun e => hR4.cur.live (hoff.1 pb e)
        have hOv : Own w0 Ao a co 25 1 (hs.flatMap Hd.v) := hO.own.le fun x o hx ho => hv5 x o (fun e => hAp (by rw [← e]; exact hx)) ho
        repeat' (first | (refine r_pure hT rfl rfl rfl rfl ?_) | (refine r_new hT rfl rfl rfl rfl ?_) | (refine r_write hT rfl rfl rfl ?_) | (refine r_nil ?_) | (refine q_nil ?_) | (refine r_bslice hT (ps := [(0, .tmp 83)]) rfl rfl rfl rfl rfl rfl rfl (by simp) rfl rfl (by decide) (fun b2 hb2 => ?_)) | (refine r_append hT (cs := hs.flatMap Hd.v) (news := Hd.v ⟨some ⟨bR, 0, none⟩, b, b⟩) rfl rfl rfl rfl rfl rfl rfl rfl rfl rfl rfl (hOv.le fun b o hb ho => by rw [upd_ne (fun e => by subst e; rw [hb2] at ho; cases ho)]; exact ho) (sl_all (upd_here ..) rfl) (by intro v hv; simp [Hd.v] at hv; subst hv; rfl) (by dsimp only; omega) (by omega) (fun A' c' u9 hO9 hG9 => ?_)) | (refine r_arith rfl rfl rfl rfl rfl rfl rfl (by omega) ?_) | (with_reducible refine r_seq ?_) | (with_reducible refine x_then ?_) | (with_reducible refine r_region ?_) | (refine r_draw hM (by kernel_rfl) ?_) | (with_reducible refine r_skip ?_) | (with_reducible refine r_ret ?_) | (with_reducible refine x_then_ret ?_) | (with_reducible refine r_block ?_) | (with_reducible refine x_block ?_) | (with_reducible refine x_block_ret ?_) | (with_reducible refine r_exit ?_) | (with_reducible refine x_then_exit ?_) | (with_reducible refine x_block_here ?_) | (refine x_block_past rfl ?_) | (refine c_yes rfl (by omega) ?_) | (refine c_no rfl (by omega) ?_) | (refine c_no rfl (fun h => h rfl) ?_) | (refine r_cond_false rfl ?_) | (refine r_cond_true rfl ?_) | (refine r_cond_dec rfl (fun _ => ?_) (fun _ => ?_)) | (refine r_cond_true rfl ?_) | (refine r_cond_false rfl ?_) | (refine c_not rfl (fun _ => ?_) (fun _ => ?_)) | (refine r_off rfl rfl rfl ?_) | (refine q_guard rfl rfl (fun _ => ?_) (fun _ => ?_)) | (refine q_guardn rfl rfl (fun _ => ?_) (fun _ => ?_)))
        have hbRp : bR ≠ pb := hS0.ne
        have hwb2 : ∀ o, Le w0 (upd w0 b2 o) := fun o x ox hx => by rw [upd_ne (fun e => by rw [e, hb2] at hx; cases hx)]; exact hx
        obtain ⟨g1, g2⟩ := pt_grown hG9 (hwb2 _)
        have hno : ∀ x, (blk Ao = some x ∨ ∃ y ∈ hs, blk y.A = some x) → u4 x = none := fun x hx => hx.elim (fun e => hoff.1 x e) (fun ⟨y, hy, e⟩ => hoff.2 y hy x e)
        have hO2 : OTG Ic 1 (no w0 bR) 25 3 Ao a co hs ts := hO.keep fun x o hx ho => by
          have e1 : x ≠ pb := fun e => hR4.cur.live (by rw [← e]; exact hno x hx)
          have e2 : x ≠ bR := fun e => by rw [e, hS0.new] at ho; cases ho
          unfold no; rw [if_neg e2]; exact hv5 x o e1 ho
        have hu4 : ∀ x o, u4 x = some o → x ≠ pb → u9 x = some o ∧ blk A' ≠ some x := fun x o hx e => by
          have h1 : blk Ao ≠ some x := fun e2 => by rw [hoff.1 x e2] at hx; cases hx
          have h2 := hv5 x o e (no_le.1 hle5 x o e hx)
          have h3 : pt w0 Ao x = some o := by rw [pt_at h1]; exact h2
          exact ⟨g1 x o h3, fun e3 => by rw [g2 x e3] at h3; cases h3⟩
        have hpb9 : u9 pb = w0 pb ∧ blk A' ≠ some pb := by
          obtain ⟨o, ho⟩ := Option.ne_none_iff_exists'.1 hS0.cur.live
          have h3 : pt w0 Ao pb = some o := by rw [pt_at hAp]; exact ho
          exact ⟨by rw [g1 pb o h3, ho], fun e3 => by rw [g2 pb e3] at h3; cases h3⟩
        have hu4R : u4 bR = none := by
          cases hq : u4 bR with
          | none => rfl
          | some o => have := no_le.1 hle5 bR o hbRp hq; rw [hS0.new] at this; cases this
        have hOT := otg_app hO2 (by unfold no; rw [if_pos rfl]) (v := upd w0 b2 (.cells (Hd.v ⟨some ⟨bR, 0, none⟩, b, b⟩).toArray 25 (0, 0))) (fun x hx hu => by
            have e2 : x ≠ b2 := fun e => hu (by unfold no; rw [if_neg hx, e]; exact hb2)
            rw [upd_ne e2]; unfold no; rw [if_neg hx]) (y := ⟨some ⟨bR, 0, none⟩, b, b⟩) (t := t0) rfl hS0.len.symm (hS0.own.le fun x o hx ho => hwb2 _ x o ho) hG9 hO9
        exact x_round ((a + 1, u9), ((A', c'), ((hs ++ [⟨some ⟨bR, 0, none⟩, b, b⟩], ts ++ [t0]), (i3, st6)))) ⟨halt, hOT, fun t ht => by
            rcases List.mem_append.1 ht with ht | ht
            · exact hts t ht
            · rw [List.mem_singleton] at ht; rw [ht]; exact hS0.len,
          ⟨fun x hx => by
            cases hq : u4 x with
            | none => rfl
            | some o =>
              by_cases e : x = pb
              · exact absurd (by rw [← e]; exact hx) hpb9.2
              · exact absurd hx (hu4 x o hq e).2, fun y hy x hx => by
            rcases List.mem_append.1 hy with hy | hy
            · exact hoff.2 y hy x hx
            · rw [List.mem_singleton] at hy; subst hy
              have e := Option.some.inj hx; subst e; exact hu4R⟩,
          hS0.cur.mv (fun z o h1 h2 => (hu4 z o (hR4.cur.base z o h1) (fun e => by rw [e, hR4.cur.hp] at h1; cases h1)).1) hpb9.1, by dsimp only; omega,
          no_le.2 fun z o hz ho => (hu4 z o ho hz).1⟩ (by dsimp only; omega) (into rfl ⟨rfl, rfl, rfl, rfl, rfl, rfl, trivial⟩ trivial rfl rfl)
    · obtain rfl : a = j := by omega
      have hnum := hO.num
      repeat' (first | (refine r_pure hT rfl rfl rfl rfl ?_) | (refine r_new hT rfl rfl rfl rfl ?_) | (refine r_write hT rfl rfl rfl ?_) | (refine r_nil ?_) | (refine q_nil ?_) | (refine r_arith rfl rfl rfl rfl rfl rfl rfl (by omega) ?_) | (with_reducible refine r_seq ?_) | (with_reducible refine x_then ?_) | (with_reducible refine r_region ?_) | (refine r_draw hM (by kernel_rfl) ?_) | (with_reducible refine r_skip ?_) | (with_reducible refine r_ret ?_) | (with_reducible refine x_then_ret ?_) | (with_reducible refine r_block ?_) | (with_reducible refine x_block ?_) | (with_reducible refine x_block_ret ?_) | (with_reducible refine r_exit ?_) | (with_reducible refine x_then_exit ?_) | (with_reducible refine x_block_here ?_) | (refine x_block_past rfl ?_) | (refine c_yes rfl (by omega) ?_) | (refine c_no rfl (by omega) ?_) | (refine c_no rfl (fun h => h rfl) ?_) | (refine r_cond_false rfl ?_) | (refine r_cond_true rfl ?_) | (refine r_cond_dec rfl (fun _ => ?_) (fun _ => ?_)) | (refine r_cond_true rfl ?_) | (refine r_cond_false rfl ?_) | (refine c_not rfl (fun _ => ?_) (fun _ => ?_)) | (refine r_off rfl rfl rfl ?_) | (refine q_guard rfl rfl (fun _ => ?_) (fun _ => ?_)) | (refine q_guardn rfl rfl (fun _ => ?_) (fun _ => ?_)))
      subst hnum
      exact r_fin hT rfl (((Ao, co), ((hs, ts), (i2, st5))) : AY) rfl rfl rfl trivial rfl ⟨hO, hts, by omega, no_offall (no_trans hl2 hR4.le) hR4.cur.live hoff, hC5, by dsimp only; omega, no_trans (no_trans hl2 hR4.le) hle5⟩
end Go.Proofs.YtkamfnmbidnhdaaDoor
