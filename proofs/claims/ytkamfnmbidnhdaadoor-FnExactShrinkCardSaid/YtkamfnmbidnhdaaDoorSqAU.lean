/- spec.l3sorted: the pairs of a table, put in the order of their keys one by one. No condition. -/
import Derived.Test.YtkamfnmbidnhdaaDoorSqAT
import Derived.Shelf.SlSortCmp.NoneTotal
import Derived.Test.YtkamfnmbidnhdaaDoorProg
import Derived.Test.YtkamfnmbidnhdaaDoorSqAR
set_option linter.unusedVariables false
set_option linter.unusedSimpArgs false
set_option linter.unusedSectionVars false
namespace Go.Proofs.YtkamfnmbidnhdaaDoor
open Go.Sy
set_option maxRecDepth 100000
set_option maxHeartbeats 4000000
set_option linter.unusedVariables false
set_option linter.unusedSimpArgs false
theorem r_predN {F : Fr} {tm : Tm} {L : Lm} {u : Hp} {P : Program} {Q : Exit → Act → World → Prop} {qq : Md} {l : List Oper} {o : Oper} {r : List Oper} {d : Nat} {t t' : TypeId} {x y : Operand} {p : Nat} (hw : wantE l tm o = some true) (ho : o.dst = some d) (hn : Nat.blt d F.n.z = true)
    (hop : o.op = .binOp .sub t x y t') (hx : ev tm x = some (.v (.int .i64 ((p + 1 : Nat) : Int)))) (hy : ev tm y = some (.v (.int .i64 1))) (hr : p ≤ 1000000000)
    (next : Run P Q F ((d, .v (.int .i64 (p : Int))) :: tm) L u qq l r) : Run P Q F tm L u qq l (o :: r) :=
  r_arith (c := (p : Int)) hw ho hn hop hx hy (by show some (((p + 1 : Nat) : Int) - 1) = some (p : Int); congr 1; omega) (by omega) next
theorem Pr.one (ps : List Pr) : ∀ v ∈ ps.flatMap Pr.c, Go.Sy.one v = true := fun v hv => by
  obtain ⟨x, _, hx⟩ := List.mem_flatMap.1 hv
  simp only [Pr.c, List.mem_cons, List.not_mem_nil, or_false] at hx
  rcases hx with rfl | rfl | rfl | rfl | rfl | rfl | rfl | rfl <;> rfl
theorem own_shift {u : Hp} {A : Option Addr} {n c e sz : Nat} {pre l : List Value} {p : Pr} (h : Own u A n c e sz (pre ++ (p.c ++ l))) : Own u A n c e sz ((pre ++ p.c) ++ l) := by rw [List.append_assoc]; exact h
theorem own_eq {u : Hp} {A : Option Addr} {n c e sz : Nat} {cs ds : List Value} (h : Own u A n c e sz cs) (e1 : cs = ds) : Own u A n c e sz ds := e1 ▸ h
theorem own_pairs {u : Hp} {A : Option Addr} {n c e : Nat} {ps : List Pr} (h : Own u A n c e 8 (ps.flatMap Pr.c)) : Pairs u A n ps := ⟨by have := h.len; rw [flat_length Pr.c_len] at this; omega, h.sl⟩
theorem sorted90 (t : List Pr) (A : Option Addr) (n c : Nat) (h : Hp) (hP : Pairs h A n t) (hk : ∀ p ∈ t, Ky p.key ∧ p.key.s.size ≤ 1000000) (hl : t.length ≤ 1000000) :
    TriS Tryd.prog 90 [.ag [.v (.slice A n c)]] [] h (fun y : Option Addr × Nat => .ag [.v (.slice y.1 t.length y.2)]) (fun _ => []) (fun y h' => ∃ ys : List Pr, ys.Perm t ∧ Srt ys ∧ Own h' y.1 t.length y.2 61 8 (ys.flatMap Pr.c) ∧ Le h h' ∧ Off h y.1) := by
  obtain rfl := hP.1
  refine enterS Tryd.func90 rfl (n := 70) rfl rfl (fun k N => ?_)
  repeat' (first | (refine r_pure hT rfl rfl rfl rfl ?_) | (refine r_new hT rfl rfl rfl rfl ?_) | (refine r_write hT rfl rfl rfl ?_) | (refine r_nil ?_) | (refine q_nil ?_) | (refine r_arith rfl rfl rfl rfl rfl rfl rfl (by omega) ?_) | (with_reducible refine r_seq ?_) | (with_reducible refine x_then ?_) | (with_reducible refine r_region ?_) | (refine r_draw hM (by kernel_rfl) ?_) | (with_reducible refine r_skip ?_) | (with_reducible refine r_ret ?_) | (with_reducible refine x_then_ret ?_) | (with_reducible refine r_block ?_) | (with_reducible refine x_block ?_) | (with_reducible refine x_block_ret ?_) | (with_reducible refine r_exit ?_) | (with_reducible refine x_then_exit ?_) | (with_reducible refine x_block_here ?_) | (refine x_block_past rfl ?_) | (refine c_yes rfl (by omega) ?_) | (refine c_no rfl (by omega) ?_) | (refine c_no rfl (fun h => h rfl) ?_) | (refine r_cond_false rfl ?_) | (refine r_cond_true rfl ?_) | (refine r_cond_dec rfl (fun _ => ?_) (fun _ => ?_)) | (refine r_cond_true rfl ?_) | (refine r_cond_false rfl ?_) | (refine c_not rfl (fun _ => ?_) (fun _ => ?_)) | (refine r_off rfl rfl rfl ?_) | (refine q_guard rfl rfl (fun _ => ?_) (fun _ => ?_)) | (refine q_guardn rfl rfl (fun _ => ?_) (fun _ => ?_)))
  refine r_loop (γ := (Nat × Hp) × ((Option Addr × Nat) × List Pr)) (fun g => g.1.1 ≤ t.length ∧ g.2.2.Perm (t.take g.1.1) ∧ Srt g.2.2 ∧ Own g.1.2 g.2.1.1 g.1.1 g.2.1.2 61 8 (g.2.2.flatMap Pr.c) ∧ Le h g.1.2 ∧ Off h g.2.1.1)
    (fun g => [(2, .p 2 0), (3, .p 3 0), (10, .v (.slice A t.length c)), (11, .v (.int .i64 (t.length : Int))), (12, .v (.int .i64 (g.1.1 : Int)))])
    (fun g => [(3, ⟨none, [.v (.slice g.2.1.1 g.1.1 g.2.1.2)], 59⟩), (2, ⟨none, [.v (.slice none 0 0)], 59⟩)]) (fun g => g.1.2) (fun g => t.length - g.1.1)
    ((0, h), ((none, 0), [])) ⟨Nat.zero_le _, List.Perm.refl _, List.Pairwise.nil, own_nil, Le.refl h, off_nil⟩ (into rfl ⟨rfl, rfl, rfl, rfl, rfl, trivial⟩ ⟨rfl, rfl, trivial⟩ rfl rfl) ?_
  rintro ⟨⟨i, v⟩, ⟨⟨Ay, cy⟩, ys⟩⟩ ⟨hi, hpm, hsr, hO, hle, hoff⟩
  dsimp only at *
  by_cases hlt : i < t.length
  · obtain ⟨b, off, p, rfl, hd, hix, hm, hat⟩ := (hP.le hle).elem Pr.c_len hlt
    have hys : ys.length = i := by rw [hpm.length_eq]; simp; omega
    have hpk := hk p hm
    have hyk : ∀ q ∈ ys, Ky q.key ∧ q.key.s.size ≤ 1000000 := fun q hq => hk q (List.mem_of_mem_take (hpm.mem_iff.1 hq))
    repeat' (first | (refine r_pure hT rfl rfl rfl rfl ?_) | (refine r_new hT rfl rfl rfl rfl ?_) | (refine r_write hT rfl rfl rfl ?_) | (refine r_nil ?_) | (refine q_nil ?_) | (refine r_indexN hT rfl rfl rfl rfl rfl rfl rfl rfl rfl (by omega) ?_) | (refine r_load hT hat rfl rfl rfl rfl rfl (Nat.add_zero _).symm rfl rfl rfl rfl rfl ?_) | (refine r_bslice hT (ps := [(0, .tmp 18)]) rfl rfl rfl rfl rfl rfl rfl (by simp) rfl rfl (by decide) (fun b3 hb3 => ?_)) | ((refine r_append hT (cs := ys.flatMap Pr.c) (news := [p].flatMap Pr.c) rfl rfl rfl rfl rfl rfl rfl rfl rfl rfl rfl (own_fr hO hb3) (sl_blk (upd_here ..) rfl) (Pr.one _) (by dsimp only; omega) (by omega) (fun A' c' u3 hO3 hG3 => ?_))) | (refine r_predN rfl rfl rfl rfl rfl rfl (by omega) ?_) | (refine r_arith rfl rfl rfl rfl rfl rfl rfl (by omega) ?_) | (with_reducible refine r_seq ?_) | (with_reducible refine x_then ?_) | (with_reducible refine r_region ?_) | (refine r_draw hM (by kernel_rfl) ?_) | (with_reducible refine r_skip ?_) | (with_reducible refine r_ret ?_) | (with_reducible refine x_then_ret ?_) | (with_reducible refine r_block ?_) | (with_reducible refine x_block ?_) | (with_reducible refine x_block_ret ?_) | (with_reducible refine r_exit ?_) | (with_reducible refine x_then_exit ?_) | (with_reducible refine x_block_here ?_) | (refine x_block_past rfl ?_) | (refine c_yes rfl (by omega) ?_) | (refine c_no rfl (by omega) ?_) | (refine c_no rfl (fun h => h rfl) ?_) | (refine r_cond_false rfl ?_) | (refine r_cond_true rfl ?_) | (refine r_cond_dec rfl (fun _ => ?_) (fun _ => ?_)) | (refine r_cond_true rfl ?_) | (refine r_cond_false rfl ?_) | (refine c_not rfl (fun _ => ?_) (fun _ => ?_)) | (refine r_off rfl rfl rfl ?_) | (refine q_guard rfl rfl (fun _ => ?_) (fun _ => ?_)) | (refine q_guardn rfl rfl (fun _ => ?_) (fun _ => ?_)))
    have hu3 := hG3 h (le_frsh hle hb3) hoff
    refine r_loop (γ := (List Pr × List Pr) × (Nat × Hp)) (fun g => g.1.1 ++ g.1.2 = ys ∧ g.1.1.length = g.2.1 ∧ (∀ q ∈ g.1.2, kl p.key q.key = true) ∧ Own g.2.2 A' (i + 1) c' 61 8 ((g.1.1 ++ p :: g.1.2).flatMap Pr.c) ∧ ∀ x, blk A' ≠ some x → g.2.2 x = u3 x)
      (fun g => [(2, .p 2 0), (3, .p 3 0), (6, .v (.int .i64 (g.2.1 : Int))), (10, .v (.slice (some ⟨b, off, none⟩) t.length c)), (11, .v (.int .i64 (t.length : Int))), (12, .v (.int .i64 (i : Int)))])
      (fun g => [(3, ⟨none, [.v (.slice A' (i + 1) c')], 59⟩), (2, ⟨none, [.v (.slice none 0 0)], 59⟩)]) (fun g => g.2.2) (fun g => g.2.1)
      ((ys, []), (i, u3)) ⟨by simp, hys, fun q hq => (by cases hq), own_eq hO3 (by simp), fun _ _ => rfl⟩ (into rfl ⟨rfl, rfl, rfl, rfl, rfl, rfl, trivial⟩ ⟨rfl, rfl, trivial⟩ rfl rfl) ?_
    rintro ⟨⟨Y, B⟩, ⟨kk, w⟩⟩ ⟨hYB, hYk, hB, hOw, hKw⟩
    dsimp only at *
    have fin : (Y = [] ∨ ∃ z, Y.getLast? = some z ∧ kl p.key z.key = false) → (Y ++ p :: B).Perm (t.take (i + 1)) ∧ Srt (Y ++ p :: B) := fun hz => by
      refine ⟨?_, ?_⟩
      · rw [take_snoc hix]
        refine List.perm_middle.trans ?_
        rw [hYB]
        exact ((List.perm_cons p).2 hpm).trans (List.perm_append_singleton p _).symm
      · refine srt_ins (by rw [hYB]; exact hsr) hB (fun q hq => ?_)
        rcases hz with rfl | ⟨z, hz1, hz2⟩
        · cases hq
        · rw [hz1] at hq; rw [← Option.some.inj hq]; exact hz2
    have hlw : Le h w := fun x o hx => by
      rw [hKw x (fun e => by rw [hu3.2 x e] at hx; cases hx)]
      exact hu3.1 x o hx
    rcases List.eq_nil_or_concat Y with rfl | ⟨Y0, z, rfl⟩
    · have hz : ¬ ((kk : Int) > 0) := by rw [List.length_nil] at hYk; omega
      repeat' (first | (refine r_pure hT rfl rfl rfl rfl ?_) | (refine r_new hT rfl rfl rfl rfl ?_) | (refine r_write hT rfl rfl rfl ?_) | (refine r_nil ?_) | (refine q_nil ?_) | (refine r_offu rfl rfl rfl rfl rfl rfl ?_) | (refine q_guard rfl rfl (fun hx => absurd hx hz) (fun _ => ?_)) | (refine r_arith rfl rfl rfl rfl rfl rfl rfl (by omega) ?_) | (with_reducible refine r_seq ?_) | (with_reducible refine x_then ?_) | (with_reducible refine r_region ?_) | (refine r_draw hM (by kernel_rfl) ?_) | (with_reducible refine r_skip ?_) | (with_reducible refine r_ret ?_) | (with_reducible refine x_then_ret ?_) | (with_reducible refine r_block ?_) | (with_reducible refine x_block ?_) | (with_reducible refine x_block_ret ?_) | (with_reducible refine r_exit ?_) | (with_reducible refine x_then_exit ?_) | (with_reducible refine x_block_here ?_) | (refine x_block_past rfl ?_) | (refine c_yes rfl (by omega) ?_) | (refine c_no rfl (by omega) ?_) | (refine c_no rfl (fun h => h rfl) ?_) | (refine r_cond_false rfl ?_) | (refine r_cond_true rfl ?_) | (refine r_cond_dec rfl (fun _ => ?_) (fun _ => ?_)) | (refine r_cond_true rfl ?_) | (refine r_cond_false rfl ?_) | (refine c_not rfl (fun _ => ?_) (fun _ => ?_)) | (refine r_off rfl rfl rfl ?_))
      obtain ⟨f1, f2⟩ := fin (.inl rfl)
      exact x_round ((i + 1, w), ((A', c'), p :: B)) ⟨hlt, f1, f2, hOw, hlw, hu3.2⟩ (by dsimp only; omega) (into rfl ⟨rfl, rfl, rfl, rfl, rfl, trivial⟩ ⟨rfl, rfl, trivial⟩ rfl rfl)
    · rw [List.concat_eq_append] at *
      obtain ⟨k', hk'⟩ : ∃ k', kk = k' + 1 := ⟨Y0.length, by rw [← hYk]; simp⟩
      subst hk'
      have hY0 : Y0.length = k' := by simpa using hYk
      have hz : (((k' + 1 : Nat) : Int) > 0) := by omega
      have hmz : z ∈ ys := by rw [← hYB]; simp
      have hki : k' + 1 < i + 1 := by
        have e1 := congrArg List.length hYB
        rw [hys] at e1
        simp only [List.length_append, List.length_cons, List.length_nil] at e1
        omega
      have hrl : ((Y0 ++ [z]) ++ p :: B).length = i + 1 := by
        have e1 := congrArg List.length hYB
        rw [hys] at e1
        simp only [List.length_append, List.length_cons, List.length_nil] at e1 ⊢
        omega
      obtain ⟨b2, off2, p', rfl, _, hixp, _, hatp⟩ := (own_pairs hOw).elem Pr.c_len (i := k' + 1) (by rw [hrl]; omega)
      obtain ⟨b4, off4, z', e4, _, hixz, _, hatz⟩ := (own_pairs hOw).elem Pr.c_len (i := k') (by rw [hrl]; omega)
      have e5 := Option.some.inj e4
      simp only [Addr.mk.injEq] at e5
      obtain ⟨rfl, rfl, _⟩ := e5
      have ep : p' = p := by
        rw [List.getElem?_append_right (by simp; omega)] at hixp
        simp [hY0] at hixp
        exact hixp.symm
      have ez : z' = z := by
        rw [List.append_assoc, List.getElem?_append_right (by omega)] at hixz
        simp [hY0] at hixz
        exact hixz.symm
      rw [ep] at hatp
      rw [ez] at hatz
      have hL := less129 p.key z.key w hpk.2 (hyk z hmz).2
      rw [sl_kl hpk.1 (hyk z hmz).1] at hL
      cases hkl : kl p.key z.key with
      | false =>
        rw [hkl] at hL
        repeat' (first | (refine r_pure hT rfl rfl rfl rfl ?_) | (refine r_new hT rfl rfl rfl rfl ?_) | (refine r_write hT rfl rfl rfl ?_) | (refine r_nil ?_) | (refine q_nil ?_) | (refine q_guard rfl rfl (fun _ => ?_) (fun hx => absurd hz hx)) | (refine r_predN rfl rfl rfl rfl rfl rfl (by omega) ?_) | (refine r_indexN hT rfl rfl rfl rfl rfl rfl rfl rfl rfl (by omega) ?_) | (refine r_load hT hatp rfl rfl rfl rfl rfl rfl rfl rfl rfl rfl rfl ?_) | (refine r_load hT hatz rfl rfl rfl rfl rfl rfl rfl rfl rfl rfl rfl ?_) | (refine r_load hT hatp rfl rfl rfl rfl rfl (Nat.add_zero _).symm rfl rfl rfl rfl rfl ?_) | (refine r_load hT hatz rfl rfl rfl rfl rfl (Nat.add_zero _).symm rfl rfl rfl rfl rfl ?_) | (refine p_call hL rfl rfl rfl rfl rfl (hC _ rfl) rfl rfl rfl ?_) | (refine r_arith rfl rfl rfl rfl rfl rfl rfl (by omega) ?_) | (with_reducible refine r_seq ?_) | (with_reducible refine x_then ?_) | (with_reducible refine r_region ?_) | (refine r_draw hM (by kernel_rfl) ?_) | (with_reducible refine r_skip ?_) | (with_reducible refine r_ret ?_) | (with_reducible refine x_then_ret ?_) | (with_reducible refine r_block ?_) | (with_reducible refine x_block ?_) | (with_reducible refine x_block_ret ?_) | (with_reducible refine r_exit ?_) | (with_reducible refine x_then_exit ?_) | (with_reducible refine x_block_here ?_) | (refine x_block_past rfl ?_) | (refine c_yes rfl (by omega) ?_) | (refine c_no rfl (by omega) ?_) | (refine c_no rfl (fun h => h rfl) ?_) | (refine r_cond_false rfl ?_) | (refine r_cond_true rfl ?_) | (refine r_cond_dec rfl (fun _ => ?_) (fun _ => ?_)) | (refine r_cond_true rfl ?_) | (refine r_cond_false rfl ?_) | (refine c_not rfl (fun _ => ?_) (fun _ => ?_)) | (refine r_off rfl rfl rfl ?_))
        obtain ⟨f1, f2⟩ := fin (.inr ⟨z, by simp, hkl⟩)
        exact x_round ((i + 1, w), ((_, c'), (Y0 ++ [z]) ++ p :: B)) ⟨hlt, f1, f2, hOw, hlw, hu3.2⟩ (by dsimp only; omega) (into rfl ⟨rfl, rfl, rfl, rfl, rfl, trivial⟩ ⟨rfl, rfl, trivial⟩ rfl rfl)
      | true =>
        rw [hkl] at hL
        have hO1 : Own w (some ⟨b2, off2, none⟩) (i + 1) c' 61 8 (Y0.flatMap Pr.c ++ (z.c ++ (p.c ++ B.flatMap Pr.c))) := own_eq hOw (by simp)
        have hK1 : ∀ x, x ≠ b2 → w x = u3 x := fun x hx => hKw x (fun e => hx (Option.some.inj e).symm)
        have hq1 : off2 + k' * 8 = off2 + (Y0.flatMap Pr.c).length := by rw [flat_length Pr.c_len, hY0]
        have hq2 : off2 + (k' + 1) * 8 = off2 + (Y0.flatMap Pr.c ++ p.c).length := by rw [List.length_append, flat_length Pr.c_len, hY0, Pr.c_len]; omega
        repeat' (first | (refine r_pure hT rfl rfl rfl rfl ?_) | (refine r_new hT rfl rfl rfl rfl ?_) | (refine r_write hT rfl rfl rfl ?_) | (refine r_nil ?_) | (refine q_nil ?_) | (refine q_guard rfl rfl (fun _ => ?_) (fun hx => absurd hz hx)) | (refine r_predN rfl rfl rfl rfl rfl rfl (by omega) ?_) | (refine r_indexN hT rfl rfl rfl rfl rfl rfl rfl rfl rfl (by omega) ?_) | (refine r_load hT hatp rfl rfl rfl rfl rfl rfl rfl rfl rfl rfl rfl ?_) | (refine r_load hT hatz rfl rfl rfl rfl rfl rfl rfl rfl rfl rfl rfl ?_) | (refine r_load hT hatp rfl rfl rfl rfl rfl (Nat.add_zero _).symm rfl rfl rfl rfl rfl ?_) | (refine r_load hT hatz rfl rfl rfl rfl rfl (Nat.add_zero _).symm rfl rfl rfl rfl rfl ?_) | (refine p_call hL rfl rfl rfl rfl rfl (hC _ rfl) rfl rfl rfl ?_) | ((refine r_store_row0 hT hO1 hK1 rfl rfl rfl rfl hq1 rfl rfl rfl rfl rfl rfl rfl (fun u4 hO4 hK4 => ?_) ; replace hO4 := own_shift (p := p) (l := p.c ++ B.flatMap Pr.c) hO4)) | (refine r_store_row0 hT hO4 hK4 rfl rfl rfl rfl hq2 rfl rfl rfl rfl rfl rfl rfl (fun u5 hO5 hK5 => ?_)) | (refine r_arith rfl rfl rfl rfl rfl rfl rfl (by omega) ?_) | (with_reducible refine r_seq ?_) | (with_reducible refine x_then ?_) | (with_reducible refine r_region ?_) | (refine r_draw hM (by kernel_rfl) ?_) | (with_reducible refine r_skip ?_) | (with_reducible refine r_ret ?_) | (with_reducible refine x_then_ret ?_) | (with_reducible refine r_block ?_) | (with_reducible refine x_block ?_) | (with_reducible refine x_block_ret ?_) | (with_reducible refine r_exit ?_) | (with_reducible refine x_then_exit ?_) | (with_reducible refine x_block_here ?_) | (refine x_block_past rfl ?_) | (refine c_yes rfl (by omega) ?_) | (refine c_no rfl (by omega) ?_) | (refine c_no rfl (fun h => h rfl) ?_) | (refine r_cond_false rfl ?_) | (refine r_cond_true rfl ?_) | (refine r_cond_dec rfl (fun _ => ?_) (fun _ => ?_)) | (refine r_cond_true rfl ?_) | (refine r_cond_false rfl ?_) | (refine c_not rfl (fun _ => ?_) (fun _ => ?_)) | (refine r_off rfl rfl rfl ?_))
        refine x_round ((Y0, z :: B), (k', u5)) ⟨by rw [← hYB]; simp, hY0, fun q hq => ?_, own_eq (ds := (Y0 ++ p :: z :: B).flatMap Pr.c) hO5 (by simp [Pr.c]), fun x hx => hK5 x (fun e => hx (by rw [e]; rfl))⟩ (by dsimp only; omega)
          (into rfl ⟨rfl, rfl, rfl, rfl, rfl, rfl, trivial⟩ ⟨rfl, rfl, trivial⟩ rfl rfl)
        rcases List.mem_cons.1 hq with rfl | hq
        · exact hkl
        · exact hB q hq
  · obtain rfl : i = t.length := by omega
    rw [List.take_length] at hpm
    repeat' (first | (refine r_pure hT rfl rfl rfl rfl ?_) | (refine r_new hT rfl rfl rfl rfl ?_) | (refine r_write hT rfl rfl rfl ?_) | (refine r_nil ?_) | (refine q_nil ?_) | (refine r_arith rfl rfl rfl rfl rfl rfl rfl (by omega) ?_) | (with_reducible refine r_seq ?_) | (with_reducible refine x_then ?_) | (with_reducible refine r_region ?_) | (refine r_draw hM (by kernel_rfl) ?_) | (with_reducible refine r_skip ?_) | (with_reducible refine r_ret ?_) | (with_reducible refine x_then_ret ?_) | (with_reducible refine r_block ?_) | (with_reducible refine x_block ?_) | (with_reducible refine x_block_ret ?_) | (with_reducible refine r_exit ?_) | (with_reducible refine x_then_exit ?_) | (with_reducible refine x_block_here ?_) | (refine x_block_past rfl ?_) | (refine c_yes rfl (by omega) ?_) | (refine c_no rfl (by omega) ?_) | (refine c_no rfl (fun h => h rfl) ?_) | (refine r_cond_false rfl ?_) | (refine r_cond_true rfl ?_) | (refine r_cond_dec rfl (fun _ => ?_) (fun _ => ?_)) | (refine r_cond_true rfl ?_) | (refine r_cond_false rfl ?_) | (refine c_not rfl (fun _ => ?_) (fun _ => ?_)) | (refine r_off rfl rfl rfl ?_) | (refine q_guard rfl rfl (fun _ => ?_) (fun _ => ?_)) | (refine q_guardn rfl rfl (fun _ => ?_) (fun _ => ?_)))
    exact r_fin hT rfl (Ay, cy) rfl rfl rfl trivial rfl ⟨ys, hpm, hsr, hO, hle, hoff⟩
end Go.Proofs.YtkamfnmbidnhdaaDoor
/- slices.SortFunc at pairs and at values by the shelf's own theorem: written by the kit's lay-plain. No condition. -/
namespace Go.Proofs
open Go.Shelf
def Tryd.sortPr_ren : Go.Shelf.Ren := ⟨fun | 6 => 117 | 15 => 121 | 14 => 145 | 28 => 154 | 29 => 155 | 20 => 170 | 21 => 171 | 22 => 172 | 23 => 173 | 24 => 174 | 25 => 175 | 26 => 176 | 27 => 177 | 46 => 188 | 47 => 179 | 48 => 180 | 49 => 189 | 50 => 190 | 57 => 194 | n => n, fun | 22 => 57 | 24 => 61 | 25 => 158 | 3 => 3 | 39 => 162 | 0 => 0 | 53 => 190 | 55 => 120 | 4 => 4 | 46 => 184 | 45 => 183 | 50 => 144 | 5 => 5 | 9 => 9 | 66 => 210 | 70 => 214 | 76 => 222 | 77 => 223 | n => n, fun | n => n⟩
theorem Tryd.sortPr : Go.Proofs.SlLaysF0.n6 Tryd.prog Tryd.sortPr_ren := {
  mixed := by kernel_rfl
  f6 := ⟨Tryd.f117.name, by decide, Tryd.func117.trans (congrArg some (by kernel_rfl))⟩
  f14 := ⟨Tryd.f145.name, by decide, Tryd.func145.trans (congrArg some (by kernel_rfl))⟩
  f15 := Tryd.func121.trans (congrArg some (by kernel_rfl))
  f20 := ⟨Tryd.f170.name, by decide, Tryd.func170.trans (congrArg some (by kernel_rfl))⟩
  f21 := ⟨Tryd.f171.name, by decide, Tryd.func171.trans (congrArg some (by kernel_rfl))⟩
  f22 := ⟨Tryd.f172.name, by decide, Tryd.func172.trans (congrArg some (by kernel_rfl))⟩
  f23 := ⟨Tryd.f173.name, by decide, Tryd.func173.trans (congrArg some (by kernel_rfl))⟩
  f24 := ⟨Tryd.f174.name, by decide, Tryd.func174.trans (congrArg some (by kernel_rfl))⟩
  f25 := ⟨Tryd.f175.name, by decide, Tryd.func175.trans (congrArg some (by kernel_rfl))⟩
  f26 := ⟨Tryd.f176.name, by decide, Tryd.func176.trans (congrArg some (by kernel_rfl))⟩
  f27 := ⟨Tryd.f177.name, by decide, Tryd.func177.trans (congrArg some (by kernel_rfl))⟩
  f28 := Tryd.func154.trans (congrArg some (by kernel_rfl))
  f29 := Tryd.func155.trans (congrArg some (by kernel_rfl))
  f46 := ⟨Tryd.f188.name, by decide, Tryd.func188.trans (congrArg some (by kernel_rfl))⟩
  f47 := Tryd.func179.trans (congrArg some (by kernel_rfl))
  f48 := Tryd.func180.trans (congrArg some (by kernel_rfl))
  f49 := ⟨Tryd.f189.name, by decide, Tryd.func189.trans (congrArg some (by kernel_rfl))⟩
  f50 := ⟨Tryd.f190.name, by decide, Tryd.func190.trans (congrArg some (by kernel_rfl))⟩
  f57 := ⟨Tryd.f194.name, by decide, Tryd.func194.trans (congrArg some (by kernel_rfl))⟩
  t0 := Tryd.underlying0
  a0 := Tryd.isAgg0
  z0 := Tryd.sizeOf0
  v0 := Tryd.zeroValue0
  t3 := Tryd.underlying3
  a3 := Tryd.isAgg3
  z3 := Tryd.sizeOf3
  v3 := Tryd.zeroValue3
  t4 := Tryd.underlying4
  a4 := Tryd.isAgg4
  z4 := Tryd.sizeOf4
  v4 := Tryd.zeroValue4
  t5 := Tryd.underlying5
  a5 := Tryd.isAgg5
  z5 := Tryd.sizeOf5
  v5 := Tryd.zeroValue5
  t9 := Tryd.underlying9
  a9 := Tryd.isAgg9
  z9 := Tryd.sizeOf9
  v9 := Tryd.zeroValue9
  t22 := Tryd.underlying57
  a22 := Tryd.isAgg57
  z22 := Tryd.sizeOf57
  v22 := Tryd.zeroValue57
  t25 := Tryd.underlying158
  a25 := Tryd.isAgg158
  z25 := Tryd.sizeOf158
  v25 := Tryd.zeroValue158
  t39 := Tryd.underlying162
  a39 := Tryd.isAgg162
  z39 := Tryd.sizeOf162
  v39 := Tryd.zeroValue162
  t45 := Tryd.underlying183
  a45 := Tryd.isAgg183
  z45 := Tryd.sizeOf183
  v45 := Tryd.zeroValue183
  t46 := Tryd.underlying184
  a46 := Tryd.isAgg184
  z46 := Tryd.sizeOf184
  v46 := Tryd.zeroValue184
  t50 := Tryd.underlying144
  a50 := Tryd.isAgg144
  z50 := Tryd.sizeOf144
  v50 := Tryd.zeroValue144
  t53 := Tryd.underlying190
  a53 := Tryd.isAgg190
  z53 := Tryd.sizeOf190
  v53 := Tryd.zeroValue190
  t55 := Tryd.underlying120
  a55 := Tryd.isAgg120
  z55 := Tryd.sizeOf120
  v55 := Tryd.zeroValue120
  t66 := Tryd.underlying210
  a66 := Tryd.isAgg210
  z66 := Tryd.sizeOf210
  v66 := Tryd.zeroValue210
  t70 := Tryd.underlying214
  a70 := Tryd.isAgg214
  z70 := Tryd.sizeOf214
  v70 := Tryd.zeroValue214
  t76 := Tryd.underlying222
  a76 := Tryd.isAgg222
  z76 := Tryd.sizeOf222
  v76 := Tryd.zeroValue222
  t77 := Tryd.underlying223
  a77 := Tryd.isAgg223
  z77 := Tryd.sizeOf223
  v77 := Tryd.zeroValue223 }
def Tryd.sortV_ren : Go.Shelf.Ren := ⟨fun | 6 => 80 | 15 => 121 | 14 => 120 | 28 => 154 | 29 => 155 | 20 => 146 | 21 => 147 | 22 => 148 | 23 => 149 | 24 => 150 | 25 => 151 | 26 => 152 | 27 => 153 | 46 => 178 | 47 => 179 | 48 => 180 | 49 => 181 | 50 => 182 | 57 => 191 | n => n, fun | 22 => 62 | 24 => 48 | 25 => 113 | 3 => 3 | 39 => 162 | 0 => 0 | 53 => 190 | 55 => 120 | 4 => 4 | 46 => 184 | 45 => 183 | 50 => 144 | 5 => 5 | 9 => 9 | 66 => 210 | 70 => 214 | 76 => 222 | 77 => 223 | n => n, fun | n => n⟩
theorem Tryd.sortV : Go.Proofs.SlLaysF0.n6 Tryd.prog Tryd.sortV_ren := {
  mixed := by kernel_rfl
  f6 := ⟨Tryd.f80.name, by decide, Tryd.func80.trans (congrArg some (by kernel_rfl))⟩
  f14 := ⟨Tryd.f120.name, by decide, Tryd.func120.trans (congrArg some (by kernel_rfl))⟩
  f15 := Tryd.func121.trans (congrArg some (by kernel_rfl))
  f20 := ⟨Tryd.f146.name, by decide, Tryd.func146.trans (congrArg some (by kernel_rfl))⟩
  f21 := ⟨Tryd.f147.name, by decide, Tryd.func147.trans (congrArg some (by kernel_rfl))⟩
  f22 := ⟨Tryd.f148.name, by decide, Tryd.func148.trans (congrArg some (by kernel_rfl))⟩
  f23 := ⟨Tryd.f149.name, by decide, Tryd.func149.trans (congrArg some (by kernel_rfl))⟩
  f24 := ⟨Tryd.f150.name, by decide, Tryd.func150.trans (congrArg some (by kernel_rfl))⟩
  f25 := ⟨Tryd.f151.name, by decide, Tryd.func151.trans (congrArg some (by kernel_rfl))⟩
  f26 := ⟨Tryd.f152.name, by decide, Tryd.func152.trans (congrArg some (by kernel_rfl))⟩
  f27 := ⟨Tryd.f153.name, by decide, Tryd.func153.trans (congrArg some (by kernel_rfl))⟩
  f28 := Tryd.func154.trans (congrArg some (by kernel_rfl))
  f29 := Tryd.func155.trans (congrArg some (by kernel_rfl))
  f46 := ⟨Tryd.f178.name, by decide, Tryd.func178.trans (congrArg some (by kernel_rfl))⟩
  f47 := Tryd.func179.trans (congrArg some (by kernel_rfl))
  f48 := Tryd.func180.trans (congrArg some (by kernel_rfl))
  f49 := ⟨Tryd.f181.name, by decide, Tryd.func181.trans (congrArg some (by kernel_rfl))⟩
  f50 := ⟨Tryd.f182.name, by decide, Tryd.func182.trans (congrArg some (by kernel_rfl))⟩
  f57 := ⟨Tryd.f191.name, by decide, Tryd.func191.trans (congrArg some (by kernel_rfl))⟩
  t0 := Tryd.underlying0
  a0 := Tryd.isAgg0
  z0 := Tryd.sizeOf0
  v0 := Tryd.zeroValue0
  t3 := Tryd.underlying3
  a3 := Tryd.isAgg3
  z3 := Tryd.sizeOf3
  v3 := Tryd.zeroValue3
  t4 := Tryd.underlying4
  a4 := Tryd.isAgg4
  z4 := Tryd.sizeOf4
  v4 := Tryd.zeroValue4
  t5 := Tryd.underlying5
  a5 := Tryd.isAgg5
  z5 := Tryd.sizeOf5
  v5 := Tryd.zeroValue5
  t9 := Tryd.underlying9
  a9 := Tryd.isAgg9
  z9 := Tryd.sizeOf9
  v9 := Tryd.zeroValue9
  t22 := Tryd.underlying62
  a22 := Tryd.isAgg62
  z22 := Tryd.sizeOf62
  v22 := Tryd.zeroValue62
  t25 := Tryd.underlying113
  a25 := Tryd.isAgg113
  z25 := Tryd.sizeOf113
  v25 := Tryd.zeroValue113
  t39 := Tryd.underlying162
  a39 := Tryd.isAgg162
  z39 := Tryd.sizeOf162
  v39 := Tryd.zeroValue162
  t45 := Tryd.underlying183
  a45 := Tryd.isAgg183
  z45 := Tryd.sizeOf183
  v45 := Tryd.zeroValue183
  t46 := Tryd.underlying184
  a46 := Tryd.isAgg184
  z46 := Tryd.sizeOf184
  v46 := Tryd.zeroValue184
  t50 := Tryd.underlying144
  a50 := Tryd.isAgg144
  z50 := Tryd.sizeOf144
  v50 := Tryd.zeroValue144
  t53 := Tryd.underlying190
  a53 := Tryd.isAgg190
  z53 := Tryd.sizeOf190
  v53 := Tryd.zeroValue190
  t55 := Tryd.underlying120
  a55 := Tryd.isAgg120
  z55 := Tryd.sizeOf120
  v55 := Tryd.zeroValue120
  t66 := Tryd.underlying210
  a66 := Tryd.isAgg210
  z66 := Tryd.sizeOf210
  v66 := Tryd.zeroValue210
  t70 := Tryd.underlying214
  a70 := Tryd.isAgg214
  z70 := Tryd.sizeOf214
  v70 := Tryd.zeroValue214
  t76 := Tryd.underlying222
  a76 := Tryd.isAgg222
  z76 := Tryd.sizeOf222
  v76 := Tryd.zeroValue222
  t77 := Tryd.underlying223
  a77 := Tryd.isAgg223
  z77 := Tryd.sizeOf223
  v77 := Tryd.zeroValue223 }
end Go.Proofs
/- slices.SortFunc at elements of k cells, for the walk by a symbolic frame: the row is put in order in place, all else stays. -/
namespace Go.Sy
open Go.Sort Go.Proofs Go.Shelf
set_option linter.unusedVariables false
set_option linter.unusedSectionVars false
variable {α : Type} [Inhabited α]
theorem flatK_get {enc : α → List Value} {k : Nat} (hk : ∀ x, (enc x).length = k) (xs : List α) (j : Nat) : (flatK enc k xs.toArray)[j]? = (xs.flatMap enc)[j]? := by
  have hl := flat_length hk xs
  by_cases hj : j < xs.length * k
  · have k0 : 0 < k := by rcases Nat.eq_zero_or_pos k with h | h; · subst h; simp at hj
                          · exact h
    have hi : j / k < xs.length := Nat.div_lt_of_lt_mul (by rwa [Nat.mul_comm] at hj)
    have hr : j % k < k := Nat.mod_lt _ k0
    have hz : j < (flatK enc k xs.toArray).size := by rw [size_flatK]; simpa using hj
    have h1 := get_flatK enc k xs.toArray j (by simpa using hj)
    have h2 := flat_get hk xs (j / k) xs[j / k] (List.getElem?_eq_getElem hi) (j % k) ((enc xs[j / k])[j % k]'(by rw [hk]; exact hr)) (List.getElem?_eq_getElem (by rw [hk]; exact hr))
    rw [Nat.mul_comm, Nat.div_add_mod] at h2
    rw [h2, Array.getElem?_eq_getElem hz]
    rw [getElem!_pos _ j hz] at h1
    rw [h1, getElem!_pos xs.toArray (j / k) (by simpa using hi), getElem!_pos _ (j % k) (by rw [hk]; exact hr)]
    simp
  · rw [Array.getElem?_eq_none (by simp; omega), List.getElem?_eq_none (by omega)]
theorem putCells_size (off : Nat) (F arr : Array Value) : (putCells id off F arr).size = arr.size := by simp [putCells]
theorem putCells_in (off : Nat) (F arr : Array Value) (j : Nat) (v : Value) (hv : F[j]? = some v) (ha : off + F.size ≤ arr.size) : (putCells id off F arr)[off + j]? = some v := by
  have hj := (Array.getElem?_eq_some_iff.1 hv).1
  have hx : off + j < arr.size := by omega
  simp only [putCells, Array.getElem?_mapIdx, Array.getElem?_eq_getElem hx, Option.map_some]
  rw [if_pos ⟨by omega, by omega⟩]
  have : off + j - off = j := by omega
  rw [this, getElem!_pos F j hj]
  obtain ⟨_, h⟩ := Array.getElem?_eq_some_iff.1 hv
  simp [h]
variable {P : Program} {ρ : Ren}
/-- slices.SortFunc. -/
theorem sort_tri (L : SlLaysF0.n6 P ρ) (k : Nat) (aE : ∀ w, (isAgg (ρ.t 24)).run P w = .ok true w) (zE : ∀ w, (Go.sizeOf (ρ.t 24)).run P w = .ok k w) (enc : α → List Value) (hk : ∀ x, (enc x).length = k) (h1 : ∀ x, ∀ v ∈ enc x, v.oneCell' = true)
    (cf : α → α → Int) (hO : SWO (ltOf cf)) (g : Nat) (cb : Array Value) (eg : ∀ args w, (callFunc g args).run P w = .ok (.enter g args) w)
    (hcmp : ∀ (W : World) (x y : α), Calls P g (#[.agg (enc x).toArray, .agg (enc y).toArray] ++ cb) W fun e w' => e = .returned (.int .i64 (cf x y)) ∧ ∃ q os, w' = grow (W.drewN q) os)
    {h : Hp} {A : Option Addr} {n c : Nat} {e : TypeId} (xs : List α) (hA : Own h A n c e k (xs.flatMap enc)) (hn : n = xs.length) (hsz : n < 4611686018427387904) :
    Tri P (ρ.f 6) #[.slice A n c, .func (.func g) #[] cb] h fun v h' => v = .tuple #[] ∧ ∃ ys : List α, ys.Perm xs ∧ ys.Pairwise (fun x y => ltOf cf y x = false) ∧ Own h' A n c e k (ys.flatMap enc) ∧ ∀ b, blk A ≠ some b → h' b = h b := by
  intro K N w d
  subst hn
  by_cases h0 : xs.length = 0
  · have : xs = [] := List.length_eq_zero_iff.1 h0
    subst this
    refine (AnyF.slices_SortFunc_none L A c (.func (.func g) #[] cb) w).mono ?_
    rintro e w' ⟨rfl, rfl⟩
    exact ⟨_, h, rfl, ⟨rfl, [], List.Perm.refl _, List.Pairwise.nil, hA, fun _ _ => rfl⟩, d⟩
  · cases A with
    | none => have := hA.nil rfl; have := hA.cap; omega
    | some a =>
      obtain ⟨hsp, arr, harr, hsize, hget⟩ := hA.row a rfl
      obtain ⟨b, off, sp⟩ := a
      simp only at hsp harr hsize hget
      subst hsp
      have hw := d.ext b _ harr
      have hblk : b < w.heap.size := (Array.getElem?_eq_some_iff.1 hw).1
      have hcap : xs.length * k ≤ c * k := Nat.mul_le_mul_right k hA.cap
      have hH : HoldsK enc k w b off xs.toArray := fun j hj => by
        have hj' : j < xs.length * k := by simpa using hj
        have hlt : j < (xs.flatMap enc).length := by rw [flat_length hk]; exact hj'
        have e1 := hget j _ (List.getElem?_eq_getElem hlt)
        refine ⟨?_, not_frozen hw⟩
        rw [cell_of hw, e1]
        have e2 := flatK_get hk xs j
        rw [List.getElem?_eq_getElem hlt, Array.getElem?_eq_getElem hj] at e2
        rw [getElem!_pos _ j hj]
        exact e2.symm
      have key := AnyQ.slices_SortFunc L k aE zE enc hk h1 cf hO g cb b off c xs.toArray w eg (fun m os dk _ x y => hcmp _ x y) hH hblk (by simpa using hsz)
      rw [List.size_toArray] at key
      refine key.mono ?_
      rintro e w' ⟨rfl, d', m, os, hp, hs, rfl⟩
      have hds : d'.size = xs.length := by simpa using hp.1
      have hF : off + (flatK enc k d').size ≤ arr.size := by rw [size_flatK, hds]; omega
      have hin : ∀ x, x < w.heap.size → (sortWorldK enc k w b off m d' os).heap[x]? = if b = x then some (.cells (putCells id off (flatK enc k d') arr) e (0, 0)) else w.heap[x]? := fun x hx => by
        show ((w.heap.modify b (onCells (putCells id off (flatK enc k d')))) ++ os)[x]? = _
        rw [Array.getElem?_append_left (by simpa using hx), Array.getElem?_modify]
        by_cases hb : b = x
        · subst hb
          rw [if_pos rfl, if_pos rfl, hw]; rfl
        · rw [if_neg hb, if_neg hb]
      refine ⟨_, upd h b (.cells (putCells id off (flatK enc k d') arr) e (0, 0)), rfl, ⟨rfl, d'.toList, ?_, ?_, ?_, fun x hx => upd_ne (fun e => hx (by rw [e]; rfl))⟩, ⟨fun x o hx => ?_, fun x o hx => ?_, ?_⟩⟩
      · have h3 := hp.2.2
        have e1 : d'.extract 0 xs.length = d' := by rw [← hds]; simp
        have e2 : xs.toArray.extract 0 xs.length = xs.toArray := by simp
        rw [e1, e2] at h3
        simpa using h3
      · rw [List.pairwise_iff_getElem]
        intro i j hi hj hij
        have := hs i j (Nat.zero_le _) hij (by rw [← hds]; simpa using hj)
        rw [getElem!_pos d' i (by simpa using hi), getElem!_pos d' j (by simpa using hj)] at this
        simpa using this
      · refine ⟨by rw [flat_length hk]; simp [hds], hA.cap, fun h => (by cases h), fun a ha => ?_⟩
        have e1 := Option.some.inj ha; subst e1
        refine ⟨rfl, _, upd_here .., by rw [putCells_size]; exact hsize, fun j v hj => ?_⟩
        refine putCells_in off _ _ j v ?_ hF
        have := flatK_get hk d'.toList j
        rw [this]; exact hj
      · by_cases hb : x = b
        · subst hb
          rw [upd_here] at hx
          rw [hin _ hblk, if_pos rfl]; exact hx
        · rw [upd_ne hb] at hx
          have := d.ext x o hx
          rw [hin _ (Array.getElem?_eq_some_iff.1 this).1, if_neg (Ne.symm hb)]; exact this
      · have h2 := d.hid x o hx
        have hb : x ≠ b := fun e => by rw [e, harr] at h2; cases h2.2
        exact ⟨by rw [hin _ (Array.getElem?_eq_some_iff.1 h2.1).1, if_neg (Ne.symm hb)]; exact h2.1, by rw [upd_ne hb]; exact h2.2⟩
      · refine d.size.trans ⟨?_, rfl, rfl, rfl, ?_⟩
        · show w.heap.size ≤ ((w.heap.modify b _) ++ os).size
          simp
        · show w.drawn ≤ w.drawn + m
          omega
theorem sort_tris (L : SlLaysF0.n6 P ρ) (k : Nat) (aE : ∀ w, (isAgg (ρ.t 24)).run P w = .ok true w) (zE : ∀ w, (Go.sizeOf (ρ.t 24)).run P w = .ok k w) (enc : α → List Value) (hk : ∀ x, (enc x).length = k) (h1 : ∀ x, ∀ v ∈ enc x, v.oneCell' = true)
    (cf : α → α → Int) (hO : SWO (ltOf cf)) (g : Nat) (eg : ∀ args w, (callFunc g args).run P w = .ok (.enter g args) w)
    (hcmp : ∀ (W : World) (x y : α), Calls P g #[.agg (enc x).toArray, .agg (enc y).toArray] W fun e w' => e = .returned (.int .i64 (cf x y)) ∧ ∃ q os, w' = grow (W.drewN q) os)
    {h : Hp} {A : Option Addr} {n c : Nat} {e : TypeId} (xs : List α) (hA : Own h A n c e k (xs.flatMap enc)) (hn : n = xs.length) (hsz : n < 4611686018427387904) {f : FuncId} (hf : f = ρ.f 6) (s : SV) (hs : valE [] s = some (.func (.func g) #[] #[])) :
    TriS P f [.v (.slice A n c), s] [] h (fun _ : Unit => .v (.tuple #[])) (fun _ => []) (fun _ h' => ∃ ys : List α, ys.Perm xs ∧ ys.Pairwise (fun x y => ltOf cf y x = false) ∧ Own h' A n c e k (ys.flatMap enc) ∧ ∀ b, blk A ≠ some b → h' b = h b) := by
  intro _ _ vs h0 e1 e2
  simp only [valsE, valE, hs, Option.some.injEq] at e1
  subst e1
  have e : h = h0 := by simpa [addsE] using e2
  subst e
  subst hf
  refine (sort_tri L k aE zE enc hk h1 cf hO g #[] eg (fun W x y => by simpa using hcmp W x y) xs hA hn hsz).mono ?_
  rintro v h' ⟨rfl, hy⟩
  exact ⟨(), h', rfl, rfl, fun b hb => (by simp [names] at hb), hy⟩
end Go.Sy
/- slices.SortFunc over pairs, slices.Clone of pairs, impl.sortedPairs. No condition. -/
namespace Go.Proofs.YtkamfnmbidnhdaaDoor
open Go.Sy
set_option maxRecDepth 100000
set_option maxHeartbeats 4000000
set_option linter.unusedVariables false
set_option linter.unusedSimpArgs false
structure KP where
  val : Pr
  ok : Kd val.key
instance : Inhabited KP := ⟨⟨⟨⟨0, 0, ⟨#[]⟩, 0⟩, ⟨0, 0, ⟨#[]⟩, 0⟩⟩, ⟨Int.le_refl _, by decide⟩⟩⟩
def KP.c (x : KP) : List Value := x.val.c
theorem KP.c_len (x : KP) : x.c.length = 8 := rfl
theorem KP.one (x : KP) : ∀ v ∈ x.c, v.oneCell' = true := fun v hv => by
  simp only [KP.c, Pr.c, List.mem_cons, List.not_mem_nil, or_false] at hv
  rcases hv with rfl | rfl | rfl | rfl | rfl | rfl | rfl | rfl <;> rfl
theorem kp_flat (l : List KP) : l.flatMap KP.c = (l.map KP.val).flatMap Pr.c := by
  induction l with
  | nil => rfl
  | cons x r ih => simp only [List.flatMap_cons, List.map_cons, ih]; rfl
theorem kp_of : ∀ (xs : List Pr), (∀ p ∈ xs, Kd p.key) → ∃ l : List KP, l.map KP.val = xs
  | [], _ => ⟨[], rfl⟩
  | p :: r, h => by
    obtain ⟨l, hl⟩ := kp_of r (fun x hx => h x (.tail _ hx))
    exact ⟨⟨p, h p (.head _)⟩ :: l, by rw [List.map_cons, hl]⟩
theorem sort117 (xs : List Pr) (A : Option Addr) (n c : Nat) (h : Hp) (hO : Own h A n c 61 8 (xs.flatMap Pr.c)) (hk : ∀ p ∈ xs, Kd p.key) (hl : xs.length ≤ 1000000) :
    TriS Tryd.prog 117 [.v (.slice A n c), .v (.func (.func 118) #[] #[])] [] h (fun _ : Unit => .v (.tuple #[])) (fun _ => []) (fun _ h' => ∃ ys : List Pr, ys.Perm xs ∧ Srt ys ∧ Own h' A n c 61 8 (ys.flatMap Pr.c) ∧ ∀ b, blk A ≠ some b → h' b = h b) := by
  obtain ⟨l, rfl⟩ := kp_of xs hk
  rw [← kp_flat] at hO
  have hn : n = l.length := by have := hO.len; rw [flat_length KP.c_len] at this; omega
  have key := sort_tris (Tryd.sortPr) 8 Tryd.isAgg61 Tryd.sizeOf61 KP.c KP.c_len KP.one (fun x y : KP => kc x.1.key y.1.key) (kc_swo fun x : KP => x.1.key) 118 (enters_of Tryd.func118 (by kernel_rfl) rfl)
    (fun W x y => le_lays (val := fun z : Int => .v (.int .i64 z)) (r := kc x.1.key y.1.key) W rfl rfl (cmp118 x.1 y.1 (hpOf W) x.2 y.2)) l hO hn (by rw [List.length_map] at hl; omega) (f := 117) rfl (.v (.func (.func 118) #[] #[])) rfl
  intro e1 e2 vs h0 e3 e4
  refine (key e1 e2 vs h0 e3 e4).mono ?_
  rintro v h'' ⟨y, h', a, b, c, ys, hp, hs, hO', hK⟩
  refine ⟨y, h', a, b, c, ys.map KP.val, hp.map _, ?_, by rw [← kp_flat]; exact hO', hK⟩
  unfold Srt
  rw [List.pairwise_map]
  exact hs
theorem clone116 (xs : List Pr) (A : Option Addr) (n c : Nat) (h : Hp) (hP : Pairs h A n xs) (hl : xs.length ≤ 1000000) :
    TriS Tryd.prog 116 [.v (.slice A n c)] [] h (fun y : Option Addr × Nat => .v (.slice y.1 xs.length y.2)) (fun _ => []) (fun y h' => Own h' y.1 xs.length y.2 61 8 (xs.flatMap Pr.c) ∧ Le h h' ∧ Off h y.1) := by
  obtain rfl := hP.1
  refine enterS Tryd.func116 rfl (n := 8) rfl rfl (fun k N => ?_)
  cases A with
  | none =>
    have h0 := hP.2.nil rfl
    have : xs = [] := List.length_eq_zero_iff.1 h0
    subst this
    repeat' (first | (refine r_pure hT rfl rfl rfl rfl ?_) | (refine r_new hT rfl rfl rfl rfl ?_) | (refine r_write hT rfl rfl rfl ?_) | (refine r_nil ?_) | (refine q_nil ?_) | (refine r_slnil hT rfl rfl rfl rfl rfl rfl rfl ?_) | (refine r_arith rfl rfl rfl rfl rfl rfl rfl (by omega) ?_) | (with_reducible refine r_seq ?_) | (with_reducible refine x_then ?_) | (with_reducible refine r_region ?_) | (refine r_draw hM (by kernel_rfl) ?_) | (with_reducible refine r_skip ?_) | (with_reducible refine r_ret ?_) | (with_reducible refine x_then_ret ?_) | (with_reducible refine r_block ?_) | (with_reducible refine x_block ?_) | (with_reducible refine x_block_ret ?_) | (with_reducible refine r_exit ?_) | (with_reducible refine x_then_exit ?_) | (with_reducible refine x_block_here ?_) | (refine x_block_past rfl ?_) | (refine c_yes rfl (by omega) ?_) | (refine c_no rfl (by omega) ?_) | (refine c_no rfl (fun h => h rfl) ?_) | (refine r_cond_false rfl ?_) | (refine r_cond_true rfl ?_) | (refine r_cond_dec rfl (fun _ => ?_) (fun _ => ?_)) | (refine r_cond_true rfl ?_) | (refine r_cond_false rfl ?_) | (refine c_not rfl (fun _ => ?_) (fun _ => ?_)) | (refine r_off rfl rfl rfl ?_) | (refine q_guard rfl rfl (fun _ => ?_) (fun _ => ?_)) | (refine q_guardn rfl rfl (fun _ => ?_) (fun _ => ?_)))
    exact r_fin hT rfl ((none, 0) : Option Addr × Nat) rfl rfl rfl trivial rfl ⟨own_nil, Le.refl _, off_nil⟩
  | some ad =>
    repeat' (first | (refine r_pure hT rfl rfl rfl rfl ?_) | (refine r_new hT rfl rfl rfl rfl ?_) | (refine r_write hT rfl rfl rfl ?_) | (refine r_nil ?_) | (refine q_nil ?_) | (refine r_slnil hT rfl rfl rfl rfl rfl rfl rfl ?_) | (refine r_bslice hT (ps := []) rfl rfl rfl rfl rfl rfl rfl (by simp) rfl rfl (by decide) (fun b3 hb3 => ?_)) | ((refine r_append hT (cs := []) (news := xs.flatMap Pr.c) rfl rfl rfl rfl rfl rfl rfl rfl rfl rfl rfl ⟨rfl, Nat.le_refl _, fun h => (by cases h), fun a ha => (by have e := Option.some.inj ha; subst e; exact ⟨rfl, _, upd_here .., Nat.le_refl _, fun j v hj => (by simp at hj)⟩)⟩ (hP.2.le ((Le.refl h).upd hb3)) (Pr.one _) (by dsimp only; omega) (by omega) (fun A' c' u3 hO3 hG3 => ?_))) | (refine r_arith rfl rfl rfl rfl rfl rfl rfl (by omega) ?_) | (with_reducible refine r_seq ?_) | (with_reducible refine x_then ?_) | (with_reducible refine r_region ?_) | (refine r_draw hM (by kernel_rfl) ?_) | (with_reducible refine r_skip ?_) | (with_reducible refine r_ret ?_) | (with_reducible refine x_then_ret ?_) | (with_reducible refine r_block ?_) | (with_reducible refine x_block ?_) | (with_reducible refine x_block_ret ?_) | (with_reducible refine r_exit ?_) | (with_reducible refine x_then_exit ?_) | (with_reducible refine x_block_here ?_) | (refine x_block_past rfl ?_) | (refine c_yes rfl (by omega) ?_) | (refine c_no rfl (by omega) ?_) | (refine c_no rfl (fun h => h rfl) ?_) | (refine r_cond_false rfl ?_) | (refine r_cond_true rfl ?_) | (refine r_cond_dec rfl (fun _ => ?_) (fun _ => ?_)) | (refine r_cond_true rfl ?_) | (refine r_cond_false rfl ?_) | (refine c_not rfl (fun _ => ?_) (fun _ => ?_)) | (refine r_off rfl rfl rfl ?_) | (refine q_guard rfl rfl (fun _ => ?_) (fun _ => ?_)) | (refine q_guardn rfl rfl (fun _ => ?_) (fun _ => ?_)))
    have hk := hG3 h ((Le.refl h).upd hb3) (fun b hb => by have e := Option.some.inj hb; subst e; exact hb3)
    have e0 : 0 + xs.length = xs.length := by omega
    rw [e0] at hO3 ⊢
    exact r_fin hT rfl (A', c') rfl rfl rfl trivial rfl ⟨by simpa using hO3, hk.1, hk.2⟩
theorem sorted78 (t : List Pr) (A : Option Addr) (n c : Nat) (h : Hp) (hP : Pairs h A n t) (hk : ∀ p ∈ t, Kd p.key) (hl : t.length ≤ 1000000) :
    TriS Tryd.prog 78 [.ag [.v (.slice A n c)]] [] h (fun y : Option Addr × Nat => .v (.slice y.1 t.length y.2)) (fun _ => []) (fun y h' => ∃ ys : List Pr, ys.Perm t ∧ Srt ys ∧ Own h' y.1 t.length y.2 61 8 (ys.flatMap Pr.c) ∧ Le h h' ∧ Off h y.1) := by
  refine enterS Tryd.func78 rfl (n := 10) rfl rfl (fun k N => ?_)
  repeat' (first | (refine r_pure hT rfl rfl rfl rfl ?_) | (refine r_new hT rfl rfl rfl rfl ?_) | (refine r_write hT rfl rfl rfl ?_) | (refine r_nil ?_) | (refine q_nil ?_) | (refine r_call (clone116 t A n c h hP hl) rfl rfl rfl rfl rfl (hC _ rfl) rfl rfl (fun y h1 hy => ?_)) | (refine r_call (sort117 t y.1 t.length y.2 h1 hy.1 hk hl) rfl rfl rfl rfl rfl (hC _ rfl) rfl rfl (fun z h2 hz => ?_)) | (refine r_arith rfl rfl rfl rfl rfl rfl rfl (by omega) ?_) | (with_reducible refine r_seq ?_) | (with_reducible refine x_then ?_) | (with_reducible refine r_region ?_) | (refine r_draw hM (by kernel_rfl) ?_) | (with_reducible refine r_skip ?_) | (with_reducible refine r_ret ?_) | (with_reducible refine x_then_ret ?_) | (with_reducible refine r_block ?_) | (with_reducible refine x_block ?_) | (with_reducible refine x_block_ret ?_) | (with_reducible refine r_exit ?_) | (with_reducible refine x_then_exit ?_) | (with_reducible refine x_block_here ?_) | (refine x_block_past rfl ?_) | (refine c_yes rfl (by omega) ?_) | (refine c_no rfl (by omega) ?_) | (refine c_no rfl (fun h => h rfl) ?_) | (refine r_cond_false rfl ?_) | (refine r_cond_true rfl ?_) | (refine r_cond_dec rfl (fun _ => ?_) (fun _ => ?_)) | (refine r_cond_true rfl ?_) | (refine r_cond_false rfl ?_) | (refine c_not rfl (fun _ => ?_) (fun _ => ?_)) | (refine r_off rfl rfl rfl ?_) | (refine q_guard rfl rfl (fun _ => ?_) (fun _ => ?_)) | (refine q_guardn rfl rfl (fun _ => ?_) (fun _ => ?_)))
  obtain ⟨h3, h4, h5⟩ := hy
  obtain ⟨ys, g1, g2, g3, g4⟩ := hz
  refine r_fin hT rfl y rfl rfl rfl trivial rfl ⟨ys, g1, g2, g3, fun b o hb => ?_, h5⟩
  rw [g4 b (fun e => by rw [h5 b e] at hb; cases hb)]
  exact h4 b o hb
end Go.Proofs.YtkamfnmbidnhdaaDoor
