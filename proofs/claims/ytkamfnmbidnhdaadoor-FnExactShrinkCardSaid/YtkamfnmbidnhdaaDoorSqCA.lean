/- Two graphs side by side: the tables of both, plain and as the programs lay them. No condition. -/
import Derived.Test.YtkamfnmbidnhdaaDoorSqAY
set_option linter.unusedVariables false
set_option linter.unusedSimpArgs false
set_option linter.unusedSectionVars false
namespace Go.Proofs.YtkamfnmbidnhdaaDoor
open Go.Sy
set_option maxRecDepth 100000
set_option maxHeartbeats 4000000
set_option linter.unusedVariables false
set_option linter.unusedSimpArgs false
def shV (n : Nat) (v : V) : V := if v.k = 4 then { v with a := v.a + n } else v
def shP (n : Nat) (p : Pr) : Pr := ⟨p.key, shV n p.val⟩
def both (a b : List (List Pr)) : List (List Pr) := a ++ b.map fun t => t.map (shP a.length)
/-- A list of tables that is being laid: its heads lie in u, its rows in q. -/
structure Gr (h u q : Hp) (A : Option Addr) (c : Nat) (hs : List Hd) (ts : List (List Pr)) : Prop where
  hq : Le h q
  qu : Le q u
  off : Off q A
  own : Own u A ts.length c 59 1 (hs.flatMap Hd.v)
  len : hs.length = ts.length
  rows : SRow q hs ts
theorem Gr.tabs {h u q : Hp} {A : Option Addr} {c : Nat} {hs : List Hd} {ts : List (List Pr)} (g : Gr h u q A c hs ts) : Tabs u A ts.length ts :=
  ⟨hs, g.len, ⟨g.len.symm, g.own.sl⟩, fun i x t hx ht => ⟨(g.rows i x t hx ht).1, (g.rows i x t hx ht).2.le g.qu⟩⟩
theorem Gr.start (h : Hp) : Gr h h h none 0 [] [] := ⟨Le.refl h, Le.refl h, off_nil, own_nil, rfl, fun j x t hx => by simp at hx⟩
theorem srow_snoc {q q' : Hp} {hs : List Hd} {ts : List (List Pr)} (hS : SRow q hs ts) (hl : hs.length = ts.length) (hq : Le q q') {y : Hd} {t : List Pr} (hc : y.n ≤ y.c) (hy : Pairs q' y.A y.n t) : SRow q' (hs ++ [y]) (ts ++ [t]) := fun j x t' hx ht' => by
  by_cases hj : j < hs.length
  · rw [List.getElem?_append_left hj] at hx
    rw [List.getElem?_append_left (by omega)] at ht'
    exact ⟨(hS j x t' hx ht').1, (hS j x t' hx ht').2.le hq⟩
  · have hj2 : j = hs.length := by
      have := (List.getElem?_eq_some_iff.1 hx).1
      simp at this; omega
    subst hj2
    rw [List.getElem?_append_right (Nat.le_refl _)] at hx
    rw [hl, List.getElem?_append_right (Nat.le_refl _)] at ht'
    simp at hx ht'
    subst hx
    subst ht'
    exact ⟨hc, hy⟩
/-- A head is added whose row lies in q already. -/
theorem Gr.push0 {h u q w u3 : Hp} {A A' : Option Addr} {c c' : Nat} {hs : List Hd} {ts : List (List Pr)} (g : Gr h u q A c hs ts) (hw : Le u w) {y : Hd} {t : List Pr} (hc : y.n ≤ y.c) (hy : Pairs q y.A y.n t)
    (hO : Own u3 A' (ts.length + 1) c' 59 1 (hs.flatMap Hd.v ++ [y].flatMap Hd.v)) (hG : Grown w u3 A A') : Gr h u3 q A' c' (hs ++ [y]) (ts ++ [t]) := by
  have hk := hG q (g.qu.trans hw) g.off
  exact ⟨g.hq, hk.1, hk.2, by simpa using hO, by simp [g.len], srow_snoc g.rows g.len (Le.refl q) hc hy⟩
/-- A head is added whose row is new. -/
theorem Gr.push {h u q u1 w u3 : Hp} {A A' : Option Addr} {c c' e : Nat} {hs : List Hd} {ts : List (List Pr)} (g : Gr h u q A c hs ts) (hu : Le u u1) (hw : Le u1 w) {y : Hd} {t : List Pr} (hy : Own u1 y.A y.n y.c e 8 (t.flatMap Pr.c)) (hof : Off u y.A)
    (hO : Own u3 A' (ts.length + 1) c' 59 1 (hs.flatMap Hd.v ++ [y].flatMap Hd.v)) (hG : Grown w u3 A A') : Gr h u3 (ptw u1 A) A' c' (hs ++ [y]) (ts ++ [t]) := by
  have hAy : ∀ z, blk A = some z → blk y.A ≠ some z := fun z hz e => by
    cases A with
    | none => cases hz
    | some a =>
      obtain ⟨_, arr, h2, _⟩ := g.own.row a rfl
      have e1 : a.block = z := Option.some.inj hz
      rw [e1, hof z e] at h2; cases h2
  have hqp : Le q (ptw u1 A) := fun z o hz => by
    unfold ptw
    rw [if_neg (fun e => by rw [g.off z e] at hz; cases hz)]
    exact hu z o (g.qu z o hz)
  have hk := hG (ptw u1 A) ((ptw_le u1 A).trans hw) (ptw_off u1 A)
  have hyp : Pairs (ptw u1 A) y.A y.n t := own_pairs (hy.le fun b o hb ho => by show ptw u1 A b = some o; unfold ptw; rw [if_neg (fun e => hAy b e hb)]; exact ho)
  exact ⟨g.hq.trans hqp, hk.1, hk.2, by simpa using hO, by simp [g.len], srow_snoc g.rows g.len hqp hy.cap hyp⟩
theorem vok_sh {v : V} {m n : Nat} (h : VOk v m) : VOk (shV n v) (n + m) ∧ ((shV n v).k = v.k) := by
  unfold shV
  rcases h with ⟨a, b, c, d⟩ | ⟨a, b, c, d⟩ | ⟨a, c, d⟩ | ⟨a, b, c, d⟩ | ⟨a, b, c, d, e⟩
  · rw [if_neg (by omega)]; exact ⟨.inl ⟨a, b, c, d⟩, rfl⟩
  · rw [if_neg (by omega)]; exact ⟨.inr (.inl ⟨a, b, c, d⟩), rfl⟩
  · rw [if_neg (by omega)]; exact ⟨.inr (.inr (.inl ⟨a, c, d⟩)), rfl⟩
  · rw [if_neg (by omega)]; exact ⟨.inr (.inr (.inr (.inl ⟨a, b, c, d⟩))), rfl⟩
  · rw [if_pos a]; exact ⟨.inr (.inr (.inr (.inr ⟨a, b, c, by simp only; omega, by simp only; omega⟩))), rfl⟩
theorem vok_up {v : V} {m n : Nat} (h : VOk v m) (hl : m ≤ n) : VOk v n := by
  rcases h with a | a | a | a | ⟨a, b, c, d, e⟩
  · exact .inl a
  · exact .inr (.inl a)
  · exact .inr (.inr (.inl a))
  · exact .inr (.inr (.inr (.inl a)))
  · exact .inr (.inr (.inr (.inr ⟨a, b, c, d, by omega⟩)))
theorem shV_fit {v : V} {n : Nat} (h : v.fit) : (shV n v).fit := by
  unfold shV
  split
  · exact h
  · exact h
theorem cl_both {a b : List (List Pr)} (ha : ClOk a) (hb : ClOk b) (h1 : a.length ≤ 200) (h2 : b.length ≤ 200) : ClOk (both a b) := by
  have hl : (both a b).length = a.length + b.length := by simp [both]
  refine ⟨by omega, fun t ht => ?_, fun t ht p hp => ?_⟩
  · rw [hl]
    rcases List.mem_append.1 ht with ht | ht
    · obtain ⟨g1, g2, g3⟩ := ha.tok t ht
      exact ⟨g1, fun p hp => ⟨(g2 p hp).1, vok_up (g2 p hp).2.1 (by omega), (g2 p hp).2.2⟩, g3⟩
    · obtain ⟨s, hs, rfl⟩ := List.mem_map.1 ht
      obtain ⟨g1, g2, g3⟩ := hb.tok s hs
      refine ⟨by rw [List.length_map]; exact g1, fun p hp => ?_, ?_⟩
      · obtain ⟨r, hr, rfl⟩ := List.mem_map.1 hp
        obtain ⟨k1, k2, k3⟩ := g2 r hr
        exact ⟨k1, (vok_sh k2).1, by show (shV a.length r.val).k ≠ 0; rw [(vok_sh k2).2]; exact k3⟩
      · rw [List.map_map]; exact g3
  · rcases List.mem_append.1 ht with ht | ht
    · exact ha.fit t ht p hp
    · obtain ⟨s, hs, rfl⟩ := List.mem_map.1 ht
      obtain ⟨r, hr, rfl⟩ := List.mem_map.1 hp
      exact ⟨(hb.fit s hs r hr).1, shV_fit (hb.fit s hs r hr).2⟩
end Go.Proofs.YtkamfnmbidnhdaaDoor
/- spec.l3both, slices.Clone of tables. No condition. -/
namespace Go.Proofs.YtkamfnmbidnhdaaDoor
open Go.Sy
set_option maxRecDepth 100000
set_option maxHeartbeats 4000000
set_option linter.unusedVariables false
set_option linter.unusedSimpArgs false
theorem heads_one (hs : List Hd) : ∀ v ∈ hs.flatMap Hd.v, Go.Sy.one v = true := fun v hv => by
  obtain ⟨x, _, hx⟩ := List.mem_flatMap.1 hv
  simp only [Hd.v, List.mem_singleton] at hx; subst hx; rfl
theorem shP_yes {n : Nat} {p : Pr} (h : p.val.k = 4) : shP n p = ⟨p.key, ⟨p.val.k, p.val.n, p.val.s, p.val.a + n⟩⟩ := by unfold shP shV; rw [if_pos h]
theorem shP_no {n : Nat} {p : Pr} (h : p.val.k ≠ 4) : shP n p = p := by unfold shP shV; rw [if_neg h]
theorem clone75 (hs : List Hd) (A : Option Addr) (n c : Nat) (h : Hp) (hP : Rd Hd.v 1 h A n hs) (hl : hs.length ≤ 1000000) :
    TriS Tryd.prog 75 [.v (.slice A n c)] [] h (fun y : Option Addr × Nat => .v (.slice y.1 hs.length y.2)) (fun _ => []) (fun y h' => Own h' y.1 hs.length y.2 59 1 (hs.flatMap Hd.v) ∧ Le h h' ∧ Off h y.1) := by
  obtain rfl := hP.1
  refine enterS Tryd.func75 rfl (n := 8) rfl rfl (fun k N => ?_)
  cases A with
  | none =>
    have h0 := hP.2.nil rfl
    have : hs = [] := List.length_eq_zero_iff.1 h0
    subst this
    repeat' (first | (refine r_pure hT rfl rfl rfl rfl ?_) | (refine r_new hT rfl rfl rfl rfl ?_) | (refine r_write hT rfl rfl rfl ?_) | (refine r_nil ?_) | (refine q_nil ?_) | (refine r_slnil hT rfl rfl rfl rfl rfl rfl rfl ?_) | (refine r_arith rfl rfl rfl rfl rfl rfl rfl (by omega) ?_) | (with_reducible refine r_seq ?_) | (with_reducible refine x_then ?_) | (with_reducible refine r_region ?_) | (refine r_draw hM (by kernel_rfl) ?_) | (with_reducible refine r_skip ?_) | (with_reducible refine r_ret ?_) | (with_reducible refine x_then_ret ?_) | (with_reducible refine r_block ?_) | (with_reducible refine x_block ?_) | (with_reducible refine x_block_ret ?_) | (with_reducible refine r_exit ?_) | (with_reducible refine x_then_exit ?_) | (with_reducible refine x_block_here ?_) | (refine x_block_past rfl ?_) | (refine c_yes rfl (by omega) ?_) | (refine c_no rfl (by omega) ?_) | (refine c_no rfl (fun h => h rfl) ?_) | (refine r_cond_false rfl ?_) | (refine r_cond_true rfl ?_) | (refine r_cond_dec rfl (fun _ => ?_) (fun _ => ?_)) | (refine r_cond_true rfl ?_) | (refine r_cond_false rfl ?_) | (refine c_not rfl (fun _ => ?_) (fun _ => ?_)) | (refine r_off rfl rfl rfl ?_) | (refine q_guard rfl rfl (fun _ => ?_) (fun _ => ?_)) | (refine q_guardn rfl rfl (fun _ => ?_) (fun _ => ?_)))
    exact r_fin hT rfl ((none, 0) : Option Addr × Nat) rfl rfl rfl trivial rfl ⟨own_nil, Le.refl _, off_nil⟩
  | some ad =>
    repeat' (first | (refine r_pure hT rfl rfl rfl rfl ?_) | (refine r_new hT rfl rfl rfl rfl ?_) | (refine r_write hT rfl rfl rfl ?_) | (refine r_nil ?_) | (refine q_nil ?_) | (refine r_slnil hT rfl rfl rfl rfl rfl rfl rfl ?_) | (refine r_bslice hT (ps := []) rfl rfl rfl rfl rfl rfl rfl (by simp) rfl rfl (by decide) (fun b3 hb3 => ?_)) | ((refine r_append hT (cs := []) (news := hs.flatMap Hd.v) rfl rfl rfl rfl rfl rfl rfl rfl rfl rfl rfl ⟨rfl, Nat.le_refl _, fun h => (by cases h), fun a ha => (by have e := Option.some.inj ha; subst e; exact ⟨rfl, _, upd_here .., Nat.le_refl _, fun j v hj => (by simp at hj)⟩)⟩ (hP.2.le ((Le.refl h).upd hb3)) (heads_one _) (by dsimp only; omega) (by omega) (fun A' c' u3 hO3 hG3 => ?_))) | (refine r_arith rfl rfl rfl rfl rfl rfl rfl (by omega) ?_) | (with_reducible refine r_seq ?_) | (with_reducible refine x_then ?_) | (with_reducible refine r_region ?_) | (refine r_draw hM (by kernel_rfl) ?_) | (with_reducible refine r_skip ?_) | (with_reducible refine r_ret ?_) | (with_reducible refine x_then_ret ?_) | (with_reducible refine r_block ?_) | (with_reducible refine x_block ?_) | (with_reducible refine x_block_ret ?_) | (with_reducible refine r_exit ?_) | (with_reducible refine x_then_exit ?_) | (with_reducible refine x_block_here ?_) | (refine x_block_past rfl ?_) | (refine c_yes rfl (by omega) ?_) | (refine c_no rfl (by omega) ?_) | (refine c_no rfl (fun h => h rfl) ?_) | (refine r_cond_false rfl ?_) | (refine r_cond_true rfl ?_) | (refine r_cond_dec rfl (fun _ => ?_) (fun _ => ?_)) | (refine r_cond_true rfl ?_) | (refine r_cond_false rfl ?_) | (refine c_not rfl (fun _ => ?_) (fun _ => ?_)) | (refine r_off rfl rfl rfl ?_) | (refine q_guard rfl rfl (fun _ => ?_) (fun _ => ?_)) | (refine q_guardn rfl rfl (fun _ => ?_) (fun _ => ?_)))
    have hk := hG3 h ((Le.refl h).upd hb3) (fun b hb => by have e := Option.some.inj hb; subst e; exact hb3)
    have e0 : 0 + hs.length = hs.length := by omega
    rw [e0] at hO3 ⊢
    exact r_fin hT rfl (A', c') rfl rfl rfl trivial rfl ⟨by simpa using hO3, hk.1, hk.2⟩
theorem both87 (v v' : V) (a b : List (List Pr)) (A B : Option Addr) (n c m d : Nat) (h : Hp) (hPa : Tabs h A n a) (hPb : Tabs h B m b) (ha : a.length ≤ 200) (hb : b.length ≤ 200) (hB : ∀ t ∈ b, t.length ≤ 1000) (hR : ∀ t ∈ b, ∀ p ∈ t, In b.length p.val) :
    TriS Tryd.prog 87 [.ag (gsv v A n c), .ag (gsv v' B m d)] [] h (fun y : Option Addr × Nat => .v (.slice y.1 (both a b).length y.2)) (fun _ => []) (fun y h' => Tabs h' y.1 (both a b).length (both a b) ∧ Le h h') := by
  obtain rfl := hPa.len
  obtain rfl := hPb.len
  refine enterS Tryd.func87 rfl (n := 65) rfl rfl (fun k N => ?_)
  repeat' (first | (refine r_pure hT rfl rfl rfl rfl ?_) | (refine r_new hT rfl rfl rfl rfl ?_) | (refine r_write hT rfl rfl rfl ?_) | (refine r_nil ?_) | (refine q_nil ?_) | (refine r_arith rfl rfl rfl rfl rfl rfl rfl (by omega) ?_) | (with_reducible refine r_seq ?_) | (with_reducible refine x_then ?_) | (with_reducible refine r_region ?_) | (refine r_draw hM (by kernel_rfl) ?_) | (with_reducible refine r_skip ?_) | (with_reducible refine r_ret ?_) | (with_reducible refine x_then_ret ?_) | (with_reducible refine r_block ?_) | (with_reducible refine x_block ?_) | (with_reducible refine x_block_ret ?_) | (with_reducible refine r_exit ?_) | (with_reducible refine x_then_exit ?_) | (with_reducible refine x_block_here ?_) | (refine x_block_past rfl ?_) | (refine c_yes rfl (by omega) ?_) | (refine c_no rfl (by omega) ?_) | (refine c_no rfl (fun h => h rfl) ?_) | (refine r_cond_false rfl ?_) | (refine r_cond_true rfl ?_) | (refine r_cond_dec rfl (fun _ => ?_) (fun _ => ?_)) | (refine r_cond_true rfl ?_) | (refine r_cond_false rfl ?_) | (refine c_not rfl (fun _ => ?_) (fun _ => ?_)) | (refine r_off rfl rfl rfl ?_) | (refine q_guard rfl rfl (fun _ => ?_) (fun _ => ?_)) | (refine q_guardn rfl rfl (fun _ => ?_) (fun _ => ?_)))
  refine r_loop (γ := (Nat × Hp) × ((Option Addr × Nat) × (List (List Pr) × (List Hd × Hp)))) (fun g => g.1.1 ≤ a.length ∧ g.2.2.1 = a.take g.1.1 ∧ g.2.2.2.2 = h ∧ Gr h g.1.2 g.2.2.2.2 g.2.1.1 g.2.1.2 g.2.2.2.1 g.2.2.1)
    (fun g => [(2, .p 2 0), (3, .p 3 0), (5, .v (.slice g.2.1.1 g.2.2.1.length g.2.1.2)), (14, .v (.slice A a.length c)), (15, .v (.int .i64 (a.length : Int))), (16, .v (.int .i64 (g.1.1 : Int)))]) (fun _ => [(3, ⟨none, gsv v' B b.length d, 51⟩), (2, ⟨none, gsv v A a.length c, 51⟩)]) (fun g => g.1.2) (fun g => a.length - g.1.1)
    ((0, h), ((none, 0), ([], ([], h)))) ⟨Nat.zero_le _, rfl, rfl, Gr.start h⟩ (into rfl ⟨rfl, rfl, rfl, rfl, rfl, rfl, trivial⟩ ⟨rfl, rfl, trivial⟩ rfl rfl) ?_
  rintro ⟨⟨i, u⟩, ⟨⟨A1, c1⟩, ⟨L1, ⟨hs1, q1⟩⟩⟩⟩ ⟨hi, hL1, hq1, hG1⟩
  dsimp only at *
  have hL1l : L1.length ≤ 1000 := by rw [hL1]; simp; omega
  by_cases hlt : i < a.length
  · obtain ⟨b0, off0, A0, n0, c0, t, rfl, _, hix, hm0, hat, hc0, hp0⟩ := hPa.elem hlt
    obtain rfl := hp0.1
    replace hat := hat.le (hG1.hq.trans hG1.qu)
    repeat' (first | (refine r_pure hT rfl rfl rfl rfl ?_) | (refine r_new hT rfl rfl rfl rfl ?_) | (refine r_write hT rfl rfl rfl ?_) | (refine r_nil ?_) | (refine q_nil ?_) | (refine r_indexN hT rfl rfl rfl rfl rfl rfl rfl rfl rfl hlt ?_) | (refine r_load hT hat rfl rfl rfl rfl rfl (Nat.add_zero _).symm rfl rfl rfl rfl rfl ?_) | (refine r_bslice hT (ps := [(0, .tmp 21)]) rfl rfl rfl rfl rfl rfl rfl (by simp) rfl rfl (by decide) (fun b3 hb3 => ?_)) | (refine r_append hT (cs := hs1.flatMap Hd.v) (news := [(⟨A0, t.length, c0⟩ : Hd)].flatMap Hd.v) rfl rfl rfl rfl rfl rfl rfl rfl rfl rfl rfl (own_fr hG1.own hb3) (sl_blk (upd_here ..) rfl) (heads_one _) (by dsimp only; omega) (by omega) (fun A' c' u3 hO3 hG3 => ?_)) | (refine r_arith rfl rfl rfl rfl rfl rfl rfl (by omega) ?_) | (with_reducible refine r_seq ?_) | (with_reducible refine x_then ?_) | (with_reducible refine r_region ?_) | (refine r_draw hM (by kernel_rfl) ?_) | (with_reducible refine r_skip ?_) | (with_reducible refine r_ret ?_) | (with_reducible refine x_then_ret ?_) | (with_reducible refine r_block ?_) | (with_reducible refine x_block ?_) | (with_reducible refine x_block_ret ?_) | (with_reducible refine r_exit ?_) | (with_reducible refine x_then_exit ?_) | (with_reducible refine x_block_here ?_) | (refine x_block_past rfl ?_) | (refine c_yes rfl (by omega) ?_) | (refine c_no rfl (by omega) ?_) | (refine c_no rfl (fun h => h rfl) ?_) | (refine r_cond_false rfl ?_) | (refine r_cond_true rfl ?_) | (refine r_cond_dec rfl (fun _ => ?_) (fun _ => ?_)) | (refine r_cond_true rfl ?_) | (refine r_cond_false rfl ?_) | (refine c_not rfl (fun _ => ?_) (fun _ => ?_)) | (refine r_off rfl rfl rfl ?_) | (refine q_guard rfl rfl (fun _ => ?_) (fun _ => ?_)) | (refine q_guardn rfl rfl (fun _ => ?_) (fun _ => ?_)))
    have hG7 := hG1.push0 (le_frsh (Le.refl u) hb3) (y := ⟨A0, t.length, c0⟩) (t := t) hc0 (hp0.le hG1.hq) hO3 hG3
    exact x_round ((i + 1, u3), ((A', c'), (L1 ++ [t], (_, q1)))) ⟨hlt, by rw [hL1, take_snoc hix], hq1, hG7⟩ (by dsimp only; omega) (into rfl ⟨rfl, rfl, congrArg (fun z => some (SV.v (.slice A' z c'))) (by simp), rfl, rfl, rfl, trivial⟩ ⟨rfl, rfl, trivial⟩ rfl rfl)
  obtain rfl : i = a.length := by omega
  rw [List.take_length] at hL1
  subst L1
  repeat' (first | (refine r_pure hT rfl rfl rfl rfl ?_) | (refine r_new hT rfl rfl rfl rfl ?_) | (refine r_write hT rfl rfl rfl ?_) | (refine r_nil ?_) | (refine q_nil ?_) | (refine r_arith rfl rfl rfl rfl rfl rfl rfl (by omega) ?_) | (with_reducible refine r_seq ?_) | (with_reducible refine x_then ?_) | (with_reducible refine r_region ?_) | (refine r_draw hM (by kernel_rfl) ?_) | (with_reducible refine r_skip ?_) | (with_reducible refine r_ret ?_) | (with_reducible refine x_then_ret ?_) | (with_reducible refine r_block ?_) | (with_reducible refine x_block ?_) | (with_reducible refine x_block_ret ?_) | (with_reducible refine r_exit ?_) | (with_reducible refine x_then_exit ?_) | (with_reducible refine x_block_here ?_) | (refine x_block_past rfl ?_) | (refine c_yes rfl (by omega) ?_) | (refine c_no rfl (by omega) ?_) | (refine c_no rfl (fun h => h rfl) ?_) | (refine r_cond_false rfl ?_) | (refine r_cond_true rfl ?_) | (refine r_cond_dec rfl (fun _ => ?_) (fun _ => ?_)) | (refine r_cond_true rfl ?_) | (refine r_cond_false rfl ?_) | (refine c_not rfl (fun _ => ?_) (fun _ => ?_)) | (refine r_off rfl rfl rfl ?_) | (refine q_guard rfl rfl (fun _ => ?_) (fun _ => ?_)) | (refine q_guardn rfl rfl (fun _ => ?_) (fun _ => ?_)))
  refine r_loop (γ := (Nat × Hp) × ((Option Addr × Nat) × (List (List Pr) × (List Hd × Hp)))) (fun g => g.1.1 ≤ b.length ∧ g.2.2.1 = a ++ (b.take g.1.1).map (fun t => t.map (shP a.length)) ∧ Gr h g.1.2 g.2.2.2.2 g.2.1.1 g.2.1.2 g.2.2.2.1 g.2.2.1)
    (fun g => [(2, .p 2 0), (3, .p 3 0), (26, .v (.slice B b.length d)), (27, .v (.int .i64 (b.length : Int))), (5, .v (.slice g.2.1.1 g.2.2.1.length g.2.1.2)), (28, .v (.int .i64 (g.1.1 : Int)))]) (fun _ => [(3, ⟨none, gsv v' B b.length d, 51⟩), (2, ⟨none, gsv v A a.length c, 51⟩)]) (fun g => g.1.2) (fun g => b.length - g.1.1)
    ((0, u), ((A1, c1), (a, (hs1, q1)))) ⟨Nat.zero_le _, by simp, hG1⟩ (into rfl ⟨rfl, rfl, rfl, rfl, rfl, rfl, trivial⟩ ⟨rfl, rfl, trivial⟩ rfl rfl) ?_
  rintro ⟨⟨j, w⟩, ⟨⟨A2, c2⟩, ⟨L2, ⟨hs2, q2⟩⟩⟩⟩ ⟨hj, hL2, hG2⟩
  dsimp only at *
  have hL2l : L2.length ≤ 2000 := by rw [hL2]; simp; omega
  by_cases hlt2 : j < b.length
  · obtain ⟨b4, off4, A4, n4, c4, t, rfl, _, hix4, hm4, hat4, hc4, hp4⟩ := (hPb.le (hG2.hq.trans hG2.qu)).elem hlt2
    obtain rfl := hp4.1
    have htl := hB t hm4
    repeat' (first | (refine r_pure hT rfl rfl rfl rfl ?_) | (refine r_new hT rfl rfl rfl rfl ?_) | (refine r_write hT rfl rfl rfl ?_) | (refine r_nil ?_) | (refine q_nil ?_) | (refine r_indexN hT rfl rfl rfl rfl rfl rfl rfl rfl rfl hlt2 ?_) | (refine r_load hT hat4 rfl rfl rfl rfl rfl (Nat.add_zero _).symm rfl rfl rfl rfl rfl ?_) | (refine r_arith rfl rfl rfl rfl rfl rfl rfl (by omega) ?_) | (with_reducible refine r_seq ?_) | (with_reducible refine x_then ?_) | (with_reducible refine r_region ?_) | (refine r_draw hM (by kernel_rfl) ?_) | (with_reducible refine r_skip ?_) | (with_reducible refine r_ret ?_) | (with_reducible refine x_then_ret ?_) | (with_reducible refine r_block ?_) | (with_reducible refine x_block ?_) | (with_reducible refine x_block_ret ?_) | (with_reducible refine r_exit ?_) | (with_reducible refine x_then_exit ?_) | (with_reducible refine x_block_here ?_) | (refine x_block_past rfl ?_) | (refine c_yes rfl (by omega) ?_) | (refine c_no rfl (by omega) ?_) | (refine c_no rfl (fun h => h rfl) ?_) | (refine r_cond_false rfl ?_) | (refine r_cond_true rfl ?_) | (refine r_cond_dec rfl (fun _ => ?_) (fun _ => ?_)) | (refine r_cond_true rfl ?_) | (refine r_cond_false rfl ?_) | (refine c_not rfl (fun _ => ?_) (fun _ => ?_)) | (refine r_off rfl rfl rfl ?_) | (refine q_guard rfl rfl (fun _ => ?_) (fun _ => ?_)) | (refine q_guardn rfl rfl (fun _ => ?_) (fun _ => ?_)))
    refine r_loop (γ := (Nat × Hp) × (Option Addr × Nat)) (fun g => g.1.1 ≤ t.length ∧ Le w g.1.2 ∧ Off w g.2.1 ∧ Own g.1.2 g.2.1 g.1.1 g.2.2 61 8 (((t.take g.1.1).map (shP a.length)).flatMap Pr.c))
      (fun g => [(2, .p 2 0), (3, .p 3 0), (26, .v (.slice (some ⟨b4, off4, none⟩) b.length d)), (27, .v (.int .i64 (b.length : Int))), (5, .v (.slice A2 L2.length c2)), (28, .v (.int .i64 (j : Int))), (33, .v (.slice A4 t.length c4)), (34, .v (.int .i64 (t.length : Int))), (35, .v (.int .i64 (g.1.1 : Int))), (10, .p 10 0)]) (fun g => [(10, ⟨none, [.v (.slice g.2.1 g.1.1 g.2.2)], 59⟩), (3, ⟨none, gsv v' (some ⟨b4, off4, none⟩) b.length d, 51⟩), (2, ⟨none, gsv v A a.length c, 51⟩)]) (fun g => g.1.2) (fun g => t.length - g.1.1)
      ((0, w), (none, 0)) ⟨Nat.zero_le _, Le.refl w, off_nil, own_nil⟩ (into rfl ⟨rfl, rfl, rfl, rfl, rfl, rfl, rfl, rfl, rfl, rfl, trivial⟩ ⟨rfl, rfl, rfl, trivial⟩ rfl rfl) ?_
    rintro ⟨⟨k3, u5⟩, ⟨A5, c5⟩⟩ ⟨hk3, hw5, hof5, hO5⟩
    dsimp only at *
    by_cases hltk : k3 < t.length
    · obtain ⟨b7, off7, p, rfl, _, hixp, hmp, hatp⟩ := (hp4.le hw5).elem Pr.c_len hltk
      have hpf := hR t hm4 p hmp
      have fin : ∀ u6 (A6 : Option Addr) c6 b3 o, u5 b3 = none → Grown (upd u5 b3 o) u6 A5 A6 → Own u6 A6 (k3 + 1) c6 61 8 (((t.take k3).map (shP a.length)).flatMap Pr.c ++ [shP a.length p].flatMap Pr.c) → Le w u6 ∧ Off w A6 ∧ Own u6 A6 (k3 + 1) c6 61 8 (((t.take (k3 + 1)).map (shP a.length)).flatMap Pr.c) := fun u6 A6 c6 b3 o hb3 hG6 hO6 => by
        have hk := hG6 w (hw5.trans (le_frsh (Le.refl u5) hb3)) hof5
        refine ⟨hk.1, hk.2, own_eq hO6 ?_⟩
        rw [take_snoc hixp]; simp
      by_cases h4 : p.val.k = 4
      · have hva := hpf h4
        rw [shP_yes h4] at fin
        repeat' (first | (refine r_pure hT rfl rfl rfl rfl ?_) | (refine r_new hT rfl rfl rfl rfl ?_) | (refine r_write hT rfl rfl rfl ?_) | (refine r_nil ?_) | (refine q_nil ?_) | (refine r_indexN hT rfl rfl rfl rfl rfl rfl rfl rfl rfl hltk ?_) | (refine r_load hT hatp rfl rfl rfl rfl rfl (Nat.add_zero _).symm rfl rfl rfl rfl rfl ?_) | (refine c_yes rfl h4 ?_) | (refine r_bslice (t := 57) hT (ps := [(0, .tmp 54)]) rfl rfl rfl rfl rfl rfl rfl (by simp) rfl rfl (by decide) (fun b3 hb3 => ?_)) | (refine r_append (t := 57) hT (cs := ((t.take k3).map (shP a.length)).flatMap Pr.c) (news := [(⟨p.key, ⟨p.val.k, p.val.n, p.val.s, p.val.a + (a.length : Int)⟩⟩ : Pr)].flatMap Pr.c) rfl rfl rfl rfl rfl rfl rfl rfl rfl rfl rfl (own_fr hO5 hb3) (sl_blk (upd_here ..) rfl) (Pr.one _) (by dsimp only; omega) (by omega) (fun A6 c6 u6 hO6 hG6 => ?_)) | (refine r_arith rfl rfl rfl rfl rfl rfl rfl (by omega) ?_) | (with_reducible refine r_seq ?_) | (with_reducible refine x_then ?_) | (with_reducible refine r_region ?_) | (refine r_draw hM (by kernel_rfl) ?_) | (with_reducible refine r_skip ?_) | (with_reducible refine r_ret ?_) | (with_reducible refine x_then_ret ?_) | (with_reducible refine r_block ?_) | (with_reducible refine x_block ?_) | (with_reducible refine x_block_ret ?_) | (with_reducible refine r_exit ?_) | (with_reducible refine x_then_exit ?_) | (with_reducible refine x_block_here ?_) | (refine x_block_past rfl ?_) | (refine c_yes rfl (by omega) ?_) | (refine c_no rfl (by omega) ?_) | (refine c_no rfl (fun h => h rfl) ?_) | (refine r_cond_false rfl ?_) | (refine r_cond_true rfl ?_) | (refine r_cond_dec rfl (fun _ => ?_) (fun _ => ?_)) | (refine r_cond_true rfl ?_) | (refine r_cond_false rfl ?_) | (refine c_not rfl (fun _ => ?_) (fun _ => ?_)) | (refine r_off rfl rfl rfl ?_) | (refine q_guard rfl rfl (fun _ => ?_) (fun _ => ?_)) | (refine q_guardn rfl rfl (fun _ => ?_) (fun _ => ?_)))
        obtain ⟨f1, f2, f3⟩ := fin u6 A6 c6 b3 _ hb3 hG6 hO6
        exact x_round ((k3 + 1, u6), (A6, c6)) ⟨hltk, f1, f2, f3⟩ (by dsimp only; omega) (into rfl ⟨rfl, rfl, rfl, rfl, rfl, rfl, rfl, rfl, rfl, rfl, trivial⟩ ⟨rfl, rfl, rfl, trivial⟩ rfl rfl)
      · rw [shP_no h4] at fin
        repeat' (first | (refine r_pure hT rfl rfl rfl rfl ?_) | (refine r_new hT rfl rfl rfl rfl ?_) | (refine r_write hT rfl rfl rfl ?_) | (refine r_nil ?_) | (refine q_nil ?_) | (refine r_indexN hT rfl rfl rfl rfl rfl rfl rfl rfl rfl hltk ?_) | (refine r_load hT hatp rfl rfl rfl rfl rfl (Nat.add_zero _).symm rfl rfl rfl rfl rfl ?_) | (refine c_no rfl h4 ?_) | (refine r_bslice (t := 57) hT (ps := [(0, .tmp 54)]) rfl rfl rfl rfl rfl rfl rfl (by simp) rfl rfl (by decide) (fun b3 hb3 => ?_)) | (refine r_append (t := 57) hT (cs := ((t.take k3).map (shP a.length)).flatMap Pr.c) (news := [p].flatMap Pr.c) rfl rfl rfl rfl rfl rfl rfl rfl rfl rfl rfl (own_fr hO5 hb3) (sl_blk (upd_here ..) rfl) (Pr.one _) (by dsimp only; omega) (by omega) (fun A6 c6 u6 hO6 hG6 => ?_)) | (refine r_arith rfl rfl rfl rfl rfl rfl rfl (by omega) ?_) | (with_reducible refine r_seq ?_) | (with_reducible refine x_then ?_) | (with_reducible refine r_region ?_) | (refine r_draw hM (by kernel_rfl) ?_) | (with_reducible refine r_skip ?_) | (with_reducible refine r_ret ?_) | (with_reducible refine x_then_ret ?_) | (with_reducible refine r_block ?_) | (with_reducible refine x_block ?_) | (with_reducible refine x_block_ret ?_) | (with_reducible refine r_exit ?_) | (with_reducible refine x_then_exit ?_) | (with_reducible refine x_block_here ?_) | (refine x_block_past rfl ?_) | (refine c_yes rfl (by omega) ?_) | (refine c_no rfl (by omega) ?_) | (refine c_no rfl (fun h => h rfl) ?_) | (refine r_cond_false rfl ?_) | (refine r_cond_true rfl ?_) | (refine r_cond_dec rfl (fun _ => ?_) (fun _ => ?_)) | (refine r_cond_true rfl ?_) | (refine r_cond_false rfl ?_) | (refine c_not rfl (fun _ => ?_) (fun _ => ?_)) | (refine r_off rfl rfl rfl ?_) | (refine q_guard rfl rfl (fun _ => ?_) (fun _ => ?_)) | (refine q_guardn rfl rfl (fun _ => ?_) (fun _ => ?_)))
        obtain ⟨f1, f2, f3⟩ := fin u6 A6 c6 b3 _ hb3 hG6 hO6
        exact x_round ((k3 + 1, u6), (A6, c6)) ⟨hltk, f1, f2, f3⟩ (by dsimp only; omega) (into rfl ⟨rfl, rfl, rfl, rfl, rfl, rfl, rfl, rfl, rfl, rfl, trivial⟩ ⟨rfl, rfl, rfl, trivial⟩ rfl rfl)
    · obtain rfl : k3 = t.length := by omega
      rw [List.take_length] at hO5
      repeat' (first | (refine r_pure hT rfl rfl rfl rfl ?_) | (refine r_new hT rfl rfl rfl rfl ?_) | (refine r_write hT rfl rfl rfl ?_) | (refine r_nil ?_) | (refine q_nil ?_) | (refine r_bslice (t := 49) hT (ps := [(0, .tmp 60)]) rfl rfl rfl rfl rfl rfl rfl (by simp) rfl rfl (by decide) (fun b3 hb3 => ?_)) | (refine r_append (t := 49) hT (cs := hs2.flatMap Hd.v) (news := [(⟨A5, t.length, c5⟩ : Hd)].flatMap Hd.v) rfl rfl rfl rfl rfl rfl rfl rfl rfl rfl rfl (own_fr (hG2.own.le fun b o _ => hw5 b o) hb3) (sl_blk (upd_here ..) rfl) (heads_one _) (by dsimp only; omega) (by omega) (fun A6 c6 u6 hO6 hG6 => ?_)) | (refine r_arith rfl rfl rfl rfl rfl rfl rfl (by omega) ?_) | (with_reducible refine r_seq ?_) | (with_reducible refine x_then ?_) | (with_reducible refine r_region ?_) | (refine r_draw hM (by kernel_rfl) ?_) | (with_reducible refine r_skip ?_) | (with_reducible refine r_ret ?_) | (with_reducible refine x_then_ret ?_) | (with_reducible refine r_block ?_) | (with_reducible refine x_block ?_) | (with_reducible refine x_block_ret ?_) | (with_reducible refine r_exit ?_) | (with_reducible refine x_then_exit ?_) | (with_reducible refine x_block_here ?_) | (refine x_block_past rfl ?_) | (refine c_yes rfl (by omega) ?_) | (refine c_no rfl (by omega) ?_) | (refine c_no rfl (fun h => h rfl) ?_) | (refine r_cond_false rfl ?_) | (refine r_cond_true rfl ?_) | (refine r_cond_dec rfl (fun _ => ?_) (fun _ => ?_)) | (refine r_cond_true rfl ?_) | (refine r_cond_false rfl ?_) | (refine c_not rfl (fun _ => ?_) (fun _ => ?_)) | (refine r_off rfl rfl rfl ?_) | (refine q_guard rfl rfl (fun _ => ?_) (fun _ => ?_)) | (refine q_guardn rfl rfl (fun _ => ?_) (fun _ => ?_)))
      have hG7 := hG2.push (t := t.map (shP a.length)) hw5 (le_frsh (Le.refl u5) hb3) (y := ⟨A5, t.length, c5⟩) hO5 hof5 hO6 hG6
      have hL3 : L2 ++ [t.map (shP a.length)] = a ++ (b.take (j + 1)).map (fun t => t.map (shP a.length)) := by rw [hL2, take_snoc hix4]; simp
      exact x_round ((j + 1, u6), ((A6, c6), (L2 ++ [t.map (shP a.length)], (_, _)))) ⟨hlt2, hL3, hG7⟩ (by dsimp only; omega) (into rfl ⟨rfl, rfl, rfl, rfl, congrArg (fun z => some (SV.v (.slice A6 z c6))) (by simp), rfl, trivial⟩ ⟨rfl, rfl, trivial⟩ rfl rfl)
  · obtain rfl : j = b.length := by omega
    rw [List.take_length] at hL2
    have hbo : L2 = both a b := hL2
    rw [hbo] at hG2
    repeat' (first | (refine r_pure hT rfl rfl rfl rfl ?_) | (refine r_new hT rfl rfl rfl rfl ?_) | (refine r_write hT rfl rfl rfl ?_) | (refine r_nil ?_) | (refine q_nil ?_) | (refine r_arith rfl rfl rfl rfl rfl rfl rfl (by omega) ?_) | (with_reducible refine r_seq ?_) | (with_reducible refine x_then ?_) | (with_reducible refine r_region ?_) | (refine r_draw hM (by kernel_rfl) ?_) | (with_reducible refine r_skip ?_) | (with_reducible refine r_ret ?_) | (with_reducible refine x_then_ret ?_) | (with_reducible refine r_block ?_) | (with_reducible refine x_block ?_) | (with_reducible refine x_block_ret ?_) | (with_reducible refine r_exit ?_) | (with_reducible refine x_then_exit ?_) | (with_reducible refine x_block_here ?_) | (refine x_block_past rfl ?_) | (refine c_yes rfl (by omega) ?_) | (refine c_no rfl (by omega) ?_) | (refine c_no rfl (fun h => h rfl) ?_) | (refine r_cond_false rfl ?_) | (refine r_cond_true rfl ?_) | (refine r_cond_dec rfl (fun _ => ?_) (fun _ => ?_)) | (refine r_cond_true rfl ?_) | (refine r_cond_false rfl ?_) | (refine c_not rfl (fun _ => ?_) (fun _ => ?_)) | (refine r_off rfl rfl rfl ?_) | (refine q_guard rfl rfl (fun _ => ?_) (fun _ => ?_)) | (refine q_guardn rfl rfl (fun _ => ?_) (fun _ => ?_)))
    rw [hbo]
    exact r_fin hT rfl (A2, c2) rfl rfl rfl trivial rfl ⟨hG2.tabs, hG2.hq.trans hG2.qu⟩
end Go.Proofs.YtkamfnmbidnhdaaDoor
