/- The closure that asks (impl.Sort$1), the deferred one, slices.Clone at int. -/
import Derived.Test.YtkamfnmbidnhdaaDoorSyDC
import Derived.Test.YtkamfnmbidnhdaaDoorSySort
set_option linter.unusedVariables false
set_option linter.unusedSimpArgs false
set_option linter.unusedSectionVars false
namespace Go.Proofs.YtkamfnmbidnhdaaDoor
open Go.Sy
set_option maxRecDepth 100000
set_option maxHeartbeats 4000000
set_option linter.unusedVariables false
set_option linter.unusedSimpArgs false
def ptr (b : Nat) : Value := .pointer (some ⟨b, 0, none⟩)
def qCells (Aq : Option Addr) (m cq : Nat) : List Value := [.int .i64 0, .slice none 0 0, .slice Aq m cq]
theorem at_of {u : Hp} {b : Nat} {cs : List Value} {t : TypeId} {fr : Nat × Nat} (h : u b = some (.cells cs.toArray t fr)) : At u b 0 cs := ⟨_, _, _, h, fun j v hj => by simpa using hj⟩
theorem sl_all {u : Hp} {b m sz : Nat} {vs : List Value} {t : TypeId} (h : u b = some (.cells vs.toArray t (0, 0))) (hl : vs.length = m * sz) : Sl u (some ⟨b, 0, none⟩) m sz vs :=
  ⟨hl, fun h => (by cases h), fun a ha _ => by have e := Option.some.inj ha; subst e; exact ⟨rfl, _, _, _, h, fun j x hj => by simpa using hj⟩⟩
/-- What the closure holds: the record with what was asked; the answers; the error. -/
structure QSt (h0 u : Hp) (pb pa : Nat) (E : Value) (A : Option Addr) (c : Nat) (ts : List (List Int)) (Aq : Option Addr) (cq : Nat) (q : List (Int × Int)) : Prop where
  cell : u pb = some (.cells (qCells Aq q.length cq).toArray 28 (0, 0))
  own : Own u Aq q.length cq 76 2 (q.flatMap Ac)
  base : Le h0 u
  hp : h0 pb = none
  ho : Off h0 Aq
  ap : blk Aq ≠ some pb
  ahead : h0 pa = some (.cells [Value.slice A ts.length c].toArray 24 (0, 0))
  mat : Mat h0 A ts.length ts
  err : At h0 0 0 [E]
def QS (pb : Nat) (Aq : Option Addr) : Nat → Prop := fun b => b = pb ∨ blk Aq = some b
theorem QSt.at_ {h0 u : Hp} {pb pa : Nat} {E : Value} {A : Option Addr} {c : Nat} {ts : List (List Int)} {Aq : Option Addr} {cq : Nat} {q : List (Int × Int)} (h : QSt h0 u pb pa E A c ts Aq cq q) : At u pb 0 (qCells Aq q.length cq) := at_of h.cell
theorem QSt.off {h0 u : Hp} {pb pa : Nat} {E : Value} {A : Option Addr} {c : Nat} {ts : List (List Int)} {Aq : Option Addr} {cq : Nat} {q : List (Int × Int)} (h : QSt h0 u pb pa E A c ts Aq cq q) : ∀ b, QS pb Aq b → h0 b = none := fun b hb => by
  rcases hb with rfl | hb
  · exact h.hp
  · exact h.ho b hb
theorem QSt.push {h0 u u3 : Hp} {pb pa : Nat} {E : Value} {A : Option Addr} {c : Nat} {ts : List (List Int)} {Aq A' : Option Addr} {cq c' : Nat} {q : List (Int × Int)} {a b : Int} {b2 : Nat} {o2 : Obj} (h : QSt h0 u pb pa E A c ts Aq cq q) (hb2 : u b2 = none)
    (hO : Own u3 A' (q.length + 1) c' 76 2 (q.flatMap Ac ++ Ac (a, b))) (hG : Grown (upd u b2 o2) u3 Aq A') :
    u3 pb = some (.cells (qCells Aq q.length cq).toArray 28 (0, 0)) ∧ QSt h0 (upd u3 pb (.cells (qCells A' (q.length + 1) c').toArray 28 (0, 0))) pb pa E A c ts A' c' (q ++ [(a, b)]) ∧
      Keep u (QS pb Aq) (upd u3 pb (.cells (qCells A' (q.length + 1) c').toArray 28 (0, 0))) (QS pb A') := by
  have k1 : ∀ x o, u x = some o → blk Aq ≠ some x → u3 x = some o ∧ blk A' ≠ some x := fun x o hx hb => hG.keep x o (by rw [upd_ne (fun e => by subst e; rw [hb2] at hx; cases hx)]; exact hx) hb
  obtain ⟨c3, c4⟩ := k1 pb _ h.cell h.ap
  have kk : Keep u (QS pb Aq) (upd u3 pb (.cells (qCells A' (q.length + 1) c').toArray 28 (0, 0))) (QS pb A') := fun x o hx hs => by
    simp only [QS, not_or] at hs ⊢
    obtain ⟨d1, d2⟩ := k1 x o hx hs.2
    exact ⟨by rw [upd_ne hs.1]; exact d1, hs.1, d2⟩
  obtain ⟨e1, e2⟩ := kk.le h.base h.off
  refine ⟨c3, ⟨by rw [upd_here]; simp, ?_, e1, h.hp, fun b hb => e2 b (.inr hb), c4, h.ahead, h.mat, h.err⟩, kk⟩
  have hl : (q ++ [(a, b)]).length = q.length + 1 := by simp
  rw [hl, List.flatMap_append]
  refine Own.le (by simpa using hO) fun x o hb ho => ?_
  rw [upd_ne (fun e => by subst e; exact c4 hb)]; exact ho
theorem ac_ones {p : Int × Int} : ∀ v ∈ Ac p, one v = true := fun v hv => by
  simp only [Ac, List.mem_cons, List.not_mem_nil, or_false] at hv
  rcases hv with rfl | rfl <;> rfl
theorem askQ (h0 : Hp) (pb pa : Nat) (E : Value) (A : Option Addr) (c : Nat) (ts : List (List Int)) (hsq : SqOk ts) (a b : Int) (ha : 0 ≤ a ∧ a < ts.length) (hb : 0 ≤ b ∧ b < ts.length) (u : Hp) (Aq : Option Addr) (cq : Nat) (q : List (Int × Int)) (hQ : QSt h0 u pb pa E A c ts Aq cq q) (hq : q.length ≤ 1000000000) :
    TriS Tryd.prog 52 [.v (.int .i64 a), .v (.int .i64 b), .v (ptr pb), .v (ptr pa)] [] u (fun _ : Option Addr × Nat => .tu [.v (.bool (decide (Mof ts a b = 1))), .v (if Mof ts a b = 2 then E else .nilIface)]) (fun _ => [])
      (fun y u' => QSt h0 u' pb pa E A c ts y.1 y.2 (q ++ [(a, b)]) ∧ Keep u (QS pb Aq) u' (QS pb y.1)) := by
  obtain ⟨br, offr, A1, n1, c1, t, rfl, hd, hix, hm, hat, hc1, hp1⟩ := hQ.mat.elem (i := a.toNat) (by omega)
  obtain rfl := hp1.1
  have htl := (hsq.2 t hm).1
  obtain ⟨b2, off2, p, rfl, hd2, hix2, hm2, hat2⟩ := hp1.elem Ic_len (i := b.toNat) (by omega)
  have hMp : Mof ts a b = p := by simp [Mof, List.getD_eq_getElem?_getD, hix, hix2]
  rw [hMp]
  refine enterS Tryd.func52 rfl (n := 33) rfl rfl (fun k N => ?_)
  have hatW := hQ.at_
  have hq1 := hQ.own
  repeat' (first | (refine r_pure hT rfl rfl rfl rfl ?_) | (refine r_new hT rfl rfl rfl rfl ?_) | (refine r_write hT rfl rfl rfl ?_) | (refine r_nil ?_) | (refine q_nil ?_) | (refine r_load hT hatW rfl rfl rfl rfl rfl rfl rfl rfl rfl rfl rfl ?_) | (refine r_build hT rfl rfl rfl (ps := [(0, .tmp 10), (1, .tmp 11)]) rfl rfl rfl rfl rfl rfl ?_) | (refine r_bslice hT (ps := [(0, .tmp 12)]) rfl rfl rfl rfl rfl rfl rfl (by simp) rfl rfl (by decide) (fun b3 hb3 => ?_)) | ((refine r_append hT (cs := q.flatMap Ac) (news := Ac (a, b)) rfl rfl rfl rfl rfl rfl rfl rfl rfl rfl rfl (hq1.le fun b o hb ho => by rw [upd_ne (fun e => by subst e; rw [hb3] at ho; cases ho)]; exact ho) (sl_all (upd_here ..) rfl) ac_ones (by dsimp only; omega) (by omega) (fun A' c' u3 hO3 hG3 => ?_) ; obtain ⟨hc3, hQ4, hK4⟩ := hQ.push hb3 hO3 hG3)) | (refine r_store hT rfl rfl rfl rfl rfl rfl rfl rfl rfl rfl hc3 (Nat.le_refl 3) ?_) | (refine r_arith rfl rfl rfl rfl rfl rfl rfl (by omega) ?_) | (with_reducible refine r_seq ?_) | (with_reducible refine x_then ?_) | (with_reducible refine r_region ?_) | (refine r_draw hM (by kernel_rfl) ?_) | (with_reducible refine r_skip ?_) | (with_reducible refine r_ret ?_) | (with_reducible refine x_then_ret ?_) | (with_reducible refine r_block ?_) | (with_reducible refine x_block ?_) | (with_reducible refine x_block_ret ?_) | (with_reducible refine r_exit ?_) | (with_reducible refine x_then_exit ?_) | (with_reducible refine x_block_here ?_) | (refine x_block_past rfl ?_) | (refine c_yes rfl (by omega) ?_) | (refine c_no rfl (by omega) ?_) | (refine c_no rfl (fun h => h rfl) ?_) | (refine r_cond_false rfl ?_) | (refine r_cond_true rfl ?_) | (refine r_cond_dec rfl (fun _ => ?_) (fun _ => ?_)) | (refine r_cond_true rfl ?_) | (refine r_cond_false rfl ?_) | (refine c_not rfl (fun _ => ?_) (fun _ => ?_)) | (refine r_off rfl rfl rfl ?_) | (refine q_guard rfl rfl (fun _ => ?_) (fun _ => ?_)) | (refine q_guardn rfl rfl (fun _ => ?_) (fun _ => ?_)))
  have hat1 := at_of (hQ4.base _ _ hQ4.ahead)
  have hatr := hat.le hQ4.base
  have hatp := hat2.le hQ4.base
  have hate := hQ4.err.le hQ4.base
  by_cases hp2 : p = 2
  · have e1 : decide (p = 1) = false := by simp [hp2]
    rw [e1, if_pos hp2]
    repeat' (first | (refine r_pure hT rfl rfl rfl rfl ?_) | (refine r_new hT rfl rfl rfl rfl ?_) | (refine r_write hT rfl rfl rfl ?_) | (refine r_nil ?_) | (refine q_nil ?_) | (refine r_load hT hat1 rfl rfl rfl rfl rfl (Nat.add_zero _).symm rfl rfl rfl rfl rfl ?_) | (refine r_index hT rfl rfl rfl rfl rfl rfl rfl rfl rfl (by omega) (by omega) ?_) | (refine r_load hT hatr rfl rfl rfl rfl rfl (Nat.add_zero _).symm rfl rfl rfl rfl rfl ?_) | (refine r_load hT hatp rfl rfl rfl rfl rfl (Nat.add_zero _).symm rfl rfl rfl rfl rfl ?_) | (refine r_load hT hate rfl rfl rfl rfl rfl (Nat.add_zero _).symm rfl rfl rfl rfl rfl ?_) | (refine r_arith rfl rfl rfl rfl rfl rfl rfl (by omega) ?_) | (with_reducible refine r_seq ?_) | (with_reducible refine x_then ?_) | (with_reducible refine r_region ?_) | (refine r_draw hM (by kernel_rfl) ?_) | (with_reducible refine r_skip ?_) | (with_reducible refine r_ret ?_) | (with_reducible refine x_then_ret ?_) | (with_reducible refine r_block ?_) | (with_reducible refine x_block ?_) | (with_reducible refine x_block_ret ?_) | (with_reducible refine r_exit ?_) | (with_reducible refine x_then_exit ?_) | (with_reducible refine x_block_here ?_) | (refine x_block_past rfl ?_) | (refine c_yes rfl (by omega) ?_) | (refine c_no rfl (by omega) ?_) | (refine c_no rfl (fun h => h rfl) ?_) | (refine r_cond_false rfl ?_) | (refine r_cond_true rfl ?_) | (refine r_cond_dec rfl (fun _ => ?_) (fun _ => ?_)) | (refine r_cond_true rfl ?_) | (refine r_cond_false rfl ?_) | (refine c_not rfl (fun _ => ?_) (fun _ => ?_)) | (refine r_off rfl rfl rfl ?_) | (refine q_guard rfl rfl (fun _ => ?_) (fun _ => ?_)) | (refine q_guardn rfl rfl (fun _ => ?_) (fun _ => ?_)))
    exact r_fin hT rfl (A', c') rfl rfl rfl trivial rfl ⟨hQ4, hK4⟩
  · rw [if_neg hp2]
    repeat' (first | (refine r_pure hT rfl rfl rfl rfl ?_) | (refine r_new hT rfl rfl rfl rfl ?_) | (refine r_write hT rfl rfl rfl ?_) | (refine r_nil ?_) | (refine q_nil ?_) | (refine r_load hT hat1 rfl rfl rfl rfl rfl (Nat.add_zero _).symm rfl rfl rfl rfl rfl ?_) | (refine r_index hT rfl rfl rfl rfl rfl rfl rfl rfl rfl (by omega) (by omega) ?_) | (refine r_load hT hatr rfl rfl rfl rfl rfl (Nat.add_zero _).symm rfl rfl rfl rfl rfl ?_) | (refine r_load hT hatp rfl rfl rfl rfl rfl (Nat.add_zero _).symm rfl rfl rfl rfl rfl ?_) | (refine r_arith rfl rfl rfl rfl rfl rfl rfl (by omega) ?_) | (with_reducible refine r_seq ?_) | (with_reducible refine x_then ?_) | (with_reducible refine r_region ?_) | (refine r_draw hM (by kernel_rfl) ?_) | (with_reducible refine r_skip ?_) | (with_reducible refine r_ret ?_) | (with_reducible refine x_then_ret ?_) | (with_reducible refine r_block ?_) | (with_reducible refine x_block ?_) | (with_reducible refine x_block_ret ?_) | (with_reducible refine r_exit ?_) | (with_reducible refine x_then_exit ?_) | (with_reducible refine x_block_here ?_) | (refine x_block_past rfl ?_) | (refine c_yes rfl (by omega) ?_) | (refine c_no rfl (by omega) ?_) | (refine c_no rfl (fun h => h rfl) ?_) | (refine r_cond_false rfl ?_) | (refine r_cond_true rfl ?_) | (refine r_cond_dec rfl (fun _ => ?_) (fun _ => ?_)) | (refine r_cond_true rfl ?_) | (refine r_cond_false rfl ?_) | (refine c_not rfl (fun _ => ?_) (fun _ => ?_)) | (refine r_off rfl rfl rfl ?_) | (refine q_guard rfl rfl (fun _ => ?_) (fun _ => ?_)) | (refine q_guardn rfl rfl (fun _ => ?_) (fun _ => ?_)))
    exact r_fin hT rfl (A', c') rfl rfl rfl trivial rfl ⟨hQ4, hK4⟩
/-- slices.Clone -/
theorem cloneI (xs : List Int) (A : Option Addr) (n c : Nat) (h : Hp) (hP : Ints h A n xs) (hl : xs.length ≤ 1048576) :
    TriS Tryd.prog 95 [.v (.slice A n c)] [] h (fun y : Option Addr × Nat => .v (.slice y.1 xs.length y.2)) (fun _ => []) (fun y h' => Own h' y.1 xs.length y.2 3 1 (xs.flatMap Ic) ∧ Le h h' ∧ Off h y.1) := by
  obtain rfl := hP.1
  refine enterS Tryd.func95 rfl (n := 8) rfl rfl (fun k N => ?_)
  cases A with
  | none =>
    have h0 := hP.2.nil rfl
    have : xs = [] := List.length_eq_zero_iff.1 h0
    subst this
    repeat' (first | (refine r_pure hT rfl rfl rfl rfl ?_) | (refine r_new hT rfl rfl rfl rfl ?_) | (refine r_write hT rfl rfl rfl ?_) | (refine r_nil ?_) | (refine q_nil ?_) | (refine r_slnil hT rfl rfl rfl rfl rfl rfl rfl ?_) | (refine r_arith rfl rfl rfl rfl rfl rfl rfl (by omega) ?_) | (with_reducible refine r_seq ?_) | (with_reducible refine x_then ?_) | (with_reducible refine r_region ?_) | (refine r_draw hM (by kernel_rfl) ?_) | (with_reducible refine r_skip ?_) | (with_reducible refine r_ret ?_) | (with_reducible refine x_then_ret ?_) | (with_reducible refine r_block ?_) | (with_reducible refine x_block ?_) | (with_reducible refine x_block_ret ?_) | (with_reducible refine r_exit ?_) | (with_reducible refine x_then_exit ?_) | (with_reducible refine x_block_here ?_) | (refine x_block_past rfl ?_) | (refine c_yes rfl (by omega) ?_) | (refine c_no rfl (by omega) ?_) | (refine c_no rfl (fun h => h rfl) ?_) | (refine r_cond_false rfl ?_) | (refine r_cond_true rfl ?_) | (refine r_cond_dec rfl (fun _ => ?_) (fun _ => ?_)) | (refine r_cond_true rfl ?_) | (refine r_cond_false rfl ?_) | (refine c_not rfl (fun _ => ?_) (fun _ => ?_)) | (refine r_off rfl rfl rfl ?_) | (refine q_guard rfl rfl (fun _ => ?_) (fun _ => ?_)) | (refine q_guardn rfl rfl (fun _ => ?_) (fun _ => ?_)))
    exact r_fin hT rfl ((none, 0) : Option Addr × Nat) rfl rfl rfl trivial rfl ⟨own_nil, Le.refl _, off_nil⟩
  | some ad =>
    have hones : ∀ v ∈ xs.flatMap Ic, one v = true := fun v hv => by
      obtain ⟨x, _, hx⟩ := List.mem_flatMap.1 hv
      simp only [Ic, List.mem_singleton] at hx; subst hx; rfl
    repeat' (first | (refine r_pure hT rfl rfl rfl rfl ?_) | (refine r_new hT rfl rfl rfl rfl ?_) | (refine r_write hT rfl rfl rfl ?_) | (refine r_nil ?_) | (refine q_nil ?_) | (refine r_slnil hT rfl rfl rfl rfl rfl rfl rfl ?_) | (refine r_bslice hT (ps := []) rfl rfl rfl rfl rfl rfl rfl (by simp) rfl rfl (by decide) (fun b3 hb3 => ?_)) | ((refine r_append hT (cs := []) (news := xs.flatMap Ic) rfl rfl rfl rfl rfl rfl rfl rfl rfl rfl rfl ⟨rfl, Nat.le_refl _, fun h => (by cases h), fun a ha => (by have e := Option.some.inj ha; subst e; exact ⟨rfl, _, upd_here .., Nat.le_refl _, fun j v hj => (by simp at hj)⟩)⟩ (hP.2.le ((Le.refl h).upd hb3)) hones (by dsimp only; omega) (by omega) (fun A' c' u3 hO3 hG3 => ?_))) | (refine r_arith rfl rfl rfl rfl rfl rfl rfl (by omega) ?_) | (with_reducible refine r_seq ?_) | (with_reducible refine x_then ?_) | (with_reducible refine r_region ?_) | (refine r_draw hM (by kernel_rfl) ?_) | (with_reducible refine r_skip ?_) | (with_reducible refine r_ret ?_) | (with_reducible refine x_then_ret ?_) | (with_reducible refine r_block ?_) | (with_reducible refine x_block ?_) | (with_reducible refine x_block_ret ?_) | (with_reducible refine r_exit ?_) | (with_reducible refine x_then_exit ?_) | (with_reducible refine x_block_here ?_) | (refine x_block_past rfl ?_) | (refine c_yes rfl (by omega) ?_) | (refine c_no rfl (by omega) ?_) | (refine c_no rfl (fun h => h rfl) ?_) | (refine r_cond_false rfl ?_) | (refine r_cond_true rfl ?_) | (refine r_cond_dec rfl (fun _ => ?_) (fun _ => ?_)) | (refine r_cond_true rfl ?_) | (refine r_cond_false rfl ?_) | (refine c_not rfl (fun _ => ?_) (fun _ => ?_)) | (refine r_off rfl rfl rfl ?_) | (refine q_guard rfl rfl (fun _ => ?_) (fun _ => ?_)) | (refine q_guardn rfl rfl (fun _ => ?_) (fun _ => ?_)))
    have hk := hG3 h ((Le.refl h).upd hb3) (fun b hb => by have e := Option.some.inj hb; subst e; exact hb3)
    have e0 : 0 + xs.length = xs.length := by omega
    rw [e0] at hO3 ⊢
    exact r_fin hT rfl (A', c') rfl rfl rfl trivial rfl ⟨by simpa using hO3, hk.1, hk.2⟩
end Go.Proofs.YtkamfnmbidnhdaaDoor
