/- spec's sort: what it asks, how it puts two rows together. -/
import Derived.Test.YtkamfnmbidnhdaaDoorSyDI
set_option linter.unusedVariables false
set_option linter.unusedSimpArgs false
set_option linter.unusedSectionVars false
namespace Go.Proofs.YtkamfnmbidnhdaaDoor
open Go.Sy
set_option maxRecDepth 100000
set_option maxHeartbeats 8000000
set_option linter.unusedVariables false
set_option linter.unusedSimpArgs false
def lCells (A : Option Addr) (n c : Nat) (Aq : Option Addr) (m cq : Nat) (fl : Bool) : List Value := [.slice A n c, .slice Aq m cq, .bool fl]
/-- What the asker of the specification holds. -/
structure LSt (h0 u : Hp) (pb : Nat) (A : Option Addr) (c : Nat) (ts : List (List Int)) (Aq : Option Addr) (cq : Nat) (q : List (Int × Int)) (fl : Bool) : Prop where
  cell : u pb = some (.cells (lCells A ts.length c Aq q.length cq fl).toArray 80 (0, 0))
  own : Own u Aq q.length cq 76 2 (q.flatMap Ac)
  base : Le h0 u
  hp : h0 pb = none
  ho : Off h0 Aq
  ap : blk Aq ≠ some pb
  mat : Mat h0 A ts.length ts
section
variable {h0 u u' : Hp} {pb : Nat} {A : Option Addr} {c : Nat} {ts : List (List Int)} {Aq A' Aq' : Option Addr} {cq c' cq' : Nat} {q q' : List (Int × Int)} {fl fl' : Bool}
theorem LSt.at_ (h : LSt h0 u pb A c ts Aq cq q fl) : At u pb 0 (lCells A ts.length c Aq q.length cq fl) := at_of h.cell
theorem LSt.off (h : LSt h0 u pb A c ts Aq cq q fl) : ∀ b, QS pb Aq b → h0 b = none := fun b hb => by
  rcases hb with rfl | hb
  · exact h.hp
  · exact h.ho b hb
theorem LSt.live (h : LSt h0 u pb A c ts Aq cq q fl) {b : Nat} (hb : QS pb Aq b) : ∃ o, u b = some o := by
  rcases hb with rfl | hb
  · exact ⟨_, h.cell⟩
  · exact Option.ne_none_iff_exists'.1 (h.own.live hb)
theorem LSt.keep (h : LSt h0 u pb A c ts Aq cq q fl) (hb : Le h0 u') (hk : ∀ b o, QS pb Aq b → u b = some o → u' b = some o) : LSt h0 u' pb A c ts Aq cq q fl :=
  ⟨hk _ _ (.inl rfl) h.cell, h.own.le fun b o hb ho => hk b o (.inr hb) ho, hb, h.hp, h.ho, h.ap, h.mat⟩
theorem LSt.up {hB : Hp} (h : LSt h0 u pb A c ts Aq cq q fl) (h1 : Le h0 hB) (h2 : Le hB u) (h3 : ∀ b, QS pb Aq b → hB b = none) : LSt hB u pb A c ts Aq cq q fl :=
  ⟨h.cell, h.own, h2, h3 _ (.inl rfl), fun b hb => h3 b (.inr hb), h.ap, h.mat.le h1⟩
theorem LSt.down {hB : Hp} (h : LSt hB u pb A c ts Aq cq q fl) (h1 : Le h0 hB) (g2 : Mat h0 A ts.length ts) : LSt h0 u pb A c ts Aq cq q fl :=
  ⟨h.cell, h.own, h1.trans h.base, none_le h1 h.hp, fun b hb => none_le h1 (h.ho b hb), h.ap, g2⟩
theorem LSt.push {u3 : Hp} {a b : Int} {b2 : Nat} {o2 : Obj} (h : LSt h0 u pb A c ts Aq cq q fl) (hb2 : u b2 = none) (hO : Own u3 A' (q.length + 1) c' 76 2 (q.flatMap Ac ++ Ac (a, b))) (hG : Grown (upd u b2 o2) u3 Aq A') :
    u3 pb = some (.cells (lCells A ts.length c Aq q.length cq fl).toArray 80 (0, 0)) ∧ LSt h0 (upd u3 pb (.cells (lCells A ts.length c A' (q.length + 1) c' fl).toArray 80 (0, 0))) pb A c ts A' c' (q ++ [(a, b)]) fl ∧
      Keep u (QS pb Aq) (upd u3 pb (.cells (lCells A ts.length c A' (q.length + 1) c' fl).toArray 80 (0, 0))) (QS pb A') := by
  have k1 : ∀ x o, u x = some o → blk Aq ≠ some x → u3 x = some o ∧ blk A' ≠ some x := fun x o hx hb => hG.keep x o (by rw [upd_ne (fun e => by subst e; rw [hb2] at hx; cases hx)]; exact hx) hb
  obtain ⟨c3, c4⟩ := k1 pb _ h.cell h.ap
  have kk : Keep u (QS pb Aq) (upd u3 pb (.cells (lCells A ts.length c A' (q.length + 1) c' fl).toArray 80 (0, 0))) (QS pb A') := fun x o hx hs => by
    simp only [QS, not_or] at hs ⊢
    obtain ⟨d1, d2⟩ := k1 x o hx hs.2
    exact ⟨by rw [upd_ne hs.1]; exact d1, hs.1, d2⟩
  obtain ⟨e1, e2⟩ := kk.le h.base h.off
  refine ⟨c3, ⟨by rw [upd_here]; simp, ?_, e1, h.hp, fun b hb => e2 b (.inr hb), c4, h.mat⟩, kk⟩
  have hl : (q ++ [(a, b)]).length = q.length + 1 := by simp
  rw [hl, List.flatMap_append]
  refine Own.le (by simpa using hO) fun x o hb ho => ?_
  rw [upd_ne (fun e => by subst e; exact c4 hb)]; exact ho
/-- The flag is set. -/
theorem LSt.flag (h : LSt h0 u pb A c ts Aq cq q fl) : LSt h0 (upd u pb (.cells (lCells A ts.length c Aq q.length cq true).toArray 80 (0, 0))) pb A c ts Aq cq q true ∧ Keep u (QS pb Aq) (upd u pb (.cells (lCells A ts.length c Aq q.length cq true).toArray 80 (0, 0))) (QS pb Aq) :=
  ⟨⟨upd_here .., h.own.le fun b o hb ho => by rw [upd_ne (fun e => h.ap (by rw [← e]; exact hb))]; exact ho, fun x o hx => by rw [upd_ne (fun e => by subst e; rw [h.hp] at hx; cases hx)]; exact h.base x o hx, h.hp, h.ho, h.ap, h.mat⟩,
    fun x o hx hs => ⟨by rw [upd_ne (fun e => hs (.inl e))]; exact hx, hs⟩⟩
/-- And a row that comes next. -/
structure NLt (hB u : Hp) (pb : Nat) (A : Option Addr) (c : Nat) (ts : List (List Int)) (Aq : Option Addr) (cq : Nat) (q : List (Int × Int)) (fl : Bool) (An : Option Addr) (cn : Nat) (nx : List Int) : Prop where
  qs : LSt hB u pb A c ts Aq cq q fl
  nl : Own u An nx.length cn 3 1 (nx.flatMap Ic)
  an : Off hB An
  ap : ∀ b, blk An = some b → ¬ QS pb Aq b
variable {An : Option Addr} {cn : Nat} {nx nx' : List Int}
theorem NLt.ask (h : NLt h0 u pb A c ts Aq cq q fl An cn nx) (hQ : LSt h0 u' pb A c ts Aq' cq' q' fl') (hK : Keep u (QS pb Aq) u' (QS pb Aq')) : NLt h0 u' pb A c ts Aq' cq' q' fl' An cn nx :=
  ⟨hQ, h.nl.le fun b o hb ho => (hK b o ho (h.ap b hb)).1, h.an, fun b hb => by
    obtain ⟨o, ho⟩ := Option.ne_none_iff_exists'.1 (h.nl.live hb)
    exact (hK b o ho (h.ap b hb)).2⟩
theorem NLt.app (h : NLt h0 u pb A c ts Aq cq q fl An cn nx) {u1 u3 : Hp} (h1 : Le u u1) (hG : Grown u1 u3 An A') {m : Nat} (hO : Own u3 A' m c' 3 1 (nx'.flatMap Ic)) (hm : m = nx'.length) : NLt h0 u3 pb A c ts Aq cq q fl A' c' nx' ∧ ∀ x o, u x = some o → blk An ≠ some x → u3 x = some o ∧ blk A' ≠ some x := by
  subst hm
  have k1 : ∀ x o, u x = some o → blk An ≠ some x → u3 x = some o ∧ blk A' ≠ some x := fun x o hx hb => hG.keep x o (h1 x o hx) hb
  have hq : ∀ b, QS pb Aq b → blk An ≠ some b := fun b hb e => h.ap b e hb
  obtain ⟨g1, g2⟩ := hG h0 (h.qs.base.trans h1) h.an
  exact ⟨⟨h.qs.keep g1 fun b o hb ho => (k1 b o ho (hq b hb)).1, hO, g2, fun b hb hc => by
    obtain ⟨o, ho⟩ := h.qs.live hc
    exact (k1 b o ho (hq b hc)).2 hb⟩, k1⟩
end
theorem askL (h0 : Hp) (pb : Nat) (A : Option Addr) (c : Nat) (ts : List (List Int)) (hsq : SqOk ts) (a b : Int) (ha : 0 ≤ a ∧ a < ts.length) (hb : 0 ≤ b ∧ b < ts.length) (u : Hp) (Aq : Option Addr) (cq : Nat) (q : List (Int × Int)) (hQ : LSt h0 u pb A c ts Aq cq q false) (hq : q.length ≤ 1000000000) :
    TriS Tryd.prog 98 [.v (ptr pb), .v (.int .i64 a), .v (.int .i64 b)] [] u (fun _ : Option Addr × Nat => .v (.bool (decide (Mof ts a b = 1)))) (fun _ => [])
      (fun y u' => LSt h0 u' pb A c ts y.1 y.2 (q ++ [(a, b)]) (decide (Mof ts a b = 2)) ∧ Keep u (QS pb Aq) u' (QS pb y.1)) := by
  obtain ⟨br, offr, A1, n1, c1, t, rfl, hd, hix, hm, hat, hc1, hp1⟩ := hQ.mat.elem (i := a.toNat) (by omega)
  obtain rfl := hp1.1
  have htl := (hsq.2 t hm).1
  obtain ⟨b2, off2, p, rfl, hd2, hix2, hm2, hat2⟩ := hp1.elem Ic_len (i := b.toNat) (by omega)
  have hMp : Mof ts a b = p := by simp [Mof, List.getD_eq_getElem?_getD, hix, hix2]
  rw [hMp]
  refine enterS Tryd.func98 rfl (n := 44) rfl rfl (fun k N => ?_)
  have hatW := hQ.at_
  have hq1 := hQ.own
  repeat' (first | (refine r_pure hT rfl rfl rfl rfl ?_) | (refine r_new hT rfl rfl rfl rfl ?_) | (refine r_write hT rfl rfl rfl ?_) | (refine r_nil ?_) | (refine q_nil ?_) | (refine r_load hT hatW rfl rfl rfl rfl rfl rfl rfl rfl rfl rfl rfl ?_) | (refine r_build hT rfl rfl rfl (ps := [(0, .tmp 12), (1, .tmp 13)]) rfl rfl rfl rfl rfl rfl ?_) | (refine r_bslice hT (ps := [(0, .tmp 14)]) rfl rfl rfl rfl rfl rfl rfl (by simp) rfl rfl (by decide) (fun b3 hb3 => ?_)) | ((refine r_append hT (cs := q.flatMap Ac) (news := Ac (a, b)) rfl rfl rfl rfl rfl rfl rfl rfl rfl rfl rfl (hq1.le fun b o hb ho => by rw [upd_ne (fun e => by subst e; rw [hb3] at ho; cases ho)]; exact ho) (sl_all (upd_here ..) rfl) ac_ones (by dsimp only; omega) (by omega) (fun A' c' u3 hO3 hG3 => ?_) ; obtain ⟨hc3, hQ4, hK4⟩ := hQ.push hb3 hO3 hG3)) | (refine r_store hT rfl rfl rfl rfl rfl rfl rfl rfl rfl rfl hc3 (Nat.le_succ 2) ?_) | (refine r_arith rfl rfl rfl rfl rfl rfl rfl (by omega) ?_) | (with_reducible refine r_seq ?_) | (with_reducible refine x_then ?_) | (with_reducible refine r_region ?_) | (refine r_draw hM (by kernel_rfl) ?_) | (with_reducible refine r_skip ?_) | (with_reducible refine r_ret ?_) | (with_reducible refine x_then_ret ?_) | (with_reducible refine r_block ?_) | (with_reducible refine x_block ?_) | (with_reducible refine x_block_ret ?_) | (with_reducible refine r_exit ?_) | (with_reducible refine x_then_exit ?_) | (with_reducible refine x_block_here ?_) | (refine x_block_past rfl ?_) | (refine c_yes rfl (by omega) ?_) | (refine c_no rfl (by omega) ?_) | (refine c_no rfl (fun h => h rfl) ?_) | (refine r_cond_false rfl ?_) | (refine r_cond_true rfl ?_) | (refine r_cond_dec rfl (fun _ => ?_) (fun _ => ?_)) | (refine r_cond_true rfl ?_) | (refine r_cond_false rfl ?_) | (refine c_not rfl (fun _ => ?_) (fun _ => ?_)) | (refine r_off rfl rfl rfl ?_) | (refine q_guard rfl rfl (fun _ => ?_) (fun _ => ?_)) | (refine q_guardn rfl rfl (fun _ => ?_) (fun _ => ?_)))
  have hat1 := hQ4.at_
  have hatr := hat.le hQ4.base
  have hatp := hat2.le hQ4.base
  by_cases hp2 : p = 2
  · have e1 : decide (p = 1) = false := by simp [hp2]
    have e2 : decide (p = 2) = true := by simp [hp2]
    rw [e1, e2]
    obtain ⟨hQ5, hK5⟩ := hQ4.flag
    have hat5 := hQ5.at_
    have hatr5 := hat.le hQ5.base
    have hatp5 := hat2.le hQ5.base
    repeat' (first | (refine r_pure hT rfl rfl rfl rfl ?_) | (refine r_new hT rfl rfl rfl rfl ?_) | (refine r_write hT rfl rfl rfl ?_) | (refine r_nil ?_) | (refine q_nil ?_) | (refine r_load hT hat1 rfl rfl rfl rfl rfl rfl rfl rfl rfl rfl rfl ?_) | (refine r_index hT rfl rfl rfl rfl rfl rfl rfl rfl rfl (by omega) (by omega) ?_) | (refine r_load hT hatr rfl rfl rfl rfl rfl (Nat.add_zero _).symm rfl rfl rfl rfl rfl ?_) | (refine r_load hT hatp rfl rfl rfl rfl rfl (Nat.add_zero _).symm rfl rfl rfl rfl rfl ?_) | (refine r_store hT rfl rfl rfl rfl rfl rfl rfl rfl rfl rfl hQ4.cell (Nat.le_refl 3) ?_) | (refine r_load hT hat5 rfl rfl rfl rfl rfl rfl rfl rfl rfl rfl rfl ?_) | (refine r_load hT hatr5 rfl rfl rfl rfl rfl (Nat.add_zero _).symm rfl rfl rfl rfl rfl ?_) | (refine r_load hT hatp5 rfl rfl rfl rfl rfl (Nat.add_zero _).symm rfl rfl rfl rfl rfl ?_) | (refine r_arith rfl rfl rfl rfl rfl rfl rfl (by omega) ?_) | (with_reducible refine r_seq ?_) | (with_reducible refine x_then ?_) | (with_reducible refine r_region ?_) | (refine r_draw hM (by kernel_rfl) ?_) | (with_reducible refine r_skip ?_) | (with_reducible refine r_ret ?_) | (with_reducible refine x_then_ret ?_) | (with_reducible refine r_block ?_) | (with_reducible refine x_block ?_) | (with_reducible refine x_block_ret ?_) | (with_reducible refine r_exit ?_) | (with_reducible refine x_then_exit ?_) | (with_reducible refine x_block_here ?_) | (refine x_block_past rfl ?_) | (refine c_yes rfl (by omega) ?_) | (refine c_no rfl (by omega) ?_) | (refine c_no rfl (fun h => h rfl) ?_) | (refine r_cond_false rfl ?_) | (refine r_cond_true rfl ?_) | (refine r_cond_dec rfl (fun _ => ?_) (fun _ => ?_)) | (refine r_cond_true rfl ?_) | (refine r_cond_false rfl ?_) | (refine c_not rfl (fun _ => ?_) (fun _ => ?_)) | (refine r_off rfl rfl rfl ?_) | (refine q_guard rfl rfl (fun _ => ?_) (fun _ => ?_)) | (refine q_guardn rfl rfl (fun _ => ?_) (fun _ => ?_)))
    refine r_fin hT rfl (A', c') rfl rfl ?_ trivial rfl ⟨hQ5, hK4.trans hK5⟩
    show some _ = some _
    rw [e1]
  · have e2 : decide (p = 2) = false := by simp [hp2]
    rw [e2]
    repeat' (first | (refine r_pure hT rfl rfl rfl rfl ?_) | (refine r_new hT rfl rfl rfl rfl ?_) | (refine r_write hT rfl rfl rfl ?_) | (refine r_nil ?_) | (refine q_nil ?_) | (refine r_load hT hat1 rfl rfl rfl rfl rfl rfl rfl rfl rfl rfl rfl ?_) | (refine r_index hT rfl rfl rfl rfl rfl rfl rfl rfl rfl (by omega) (by omega) ?_) | (refine r_load hT hatr rfl rfl rfl rfl rfl (Nat.add_zero _).symm rfl rfl rfl rfl rfl ?_) | (refine r_load hT hatp rfl rfl rfl rfl rfl (Nat.add_zero _).symm rfl rfl rfl rfl rfl ?_) | (refine r_arith rfl rfl rfl rfl rfl rfl rfl (by omega) ?_) | (with_reducible refine r_seq ?_) | (with_reducible refine x_then ?_) | (with_reducible refine r_region ?_) | (refine r_draw hM (by kernel_rfl) ?_) | (with_reducible refine r_skip ?_) | (with_reducible refine r_ret ?_) | (with_reducible refine x_then_ret ?_) | (with_reducible refine r_block ?_) | (with_reducible refine x_block ?_) | (with_reducible refine x_block_ret ?_) | (with_reducible refine r_exit ?_) | (with_reducible refine x_then_exit ?_) | (with_reducible refine x_block_here ?_) | (refine x_block_past rfl ?_) | (refine c_yes rfl (by omega) ?_) | (refine c_no rfl (by omega) ?_) | (refine c_no rfl (fun h => h rfl) ?_) | (refine r_cond_false rfl ?_) | (refine r_cond_true rfl ?_) | (refine r_cond_dec rfl (fun _ => ?_) (fun _ => ?_)) | (refine r_cond_true rfl ?_) | (refine r_cond_false rfl ?_) | (refine c_not rfl (fun _ => ?_) (fun _ => ?_)) | (refine r_off rfl rfl rfl ?_) | (refine q_guard rfl rfl (fun _ => ?_) (fun _ => ?_)) | (refine q_guardn rfl rfl (fun _ => ?_) (fun _ => ?_)))
    exact r_fin hT rfl (A', c') rfl rfl rfl trivial rfl ⟨hQ4, hK4⟩
end Go.Proofs.YtkamfnmbidnhdaaDoor
