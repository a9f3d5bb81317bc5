/- impl's freezer: its state; a value's text but for tables. No condition. -/
import Derived.Test.YtkamfnmbidnhdaaDoorSyDFj
import Derived.Test.YtkamfnmbidnhdaaDoorSyGc
import Derived.Test.YtkamfnmbidnhdaaDoorSyDFg
import Derived.Test.YtkamfnmbidnhdaaDoorSyDzCE
set_option linter.unusedVariables false
set_option linter.unusedSimpArgs false
set_option linter.unusedSectionVars false
namespace Go.Proofs.YtkamfnmbidnhdaaDoor
open Go.Sy
set_option maxRecDepth 100000
set_option maxHeartbeats 8000000
set_option linter.unusedVariables false
set_option linter.unusedSimpArgs false
structure ZA where
  pb : Nat
  g : V
  A : Option Addr
  c : Nat
  bl : Nat
  ol : Nat
  cl : Nat
  gm : Nat
def zPre (a : ZA) (n : Nat) : List Value := [.int .i64 a.g.k, .int .i64 a.g.n, .string a.g.s, .int .i64 a.g.a, .slice a.A n a.c, .slice (some ⟨a.bl, a.ol, none⟩) n a.cl, .map (some a.gm)]
theorem lies95 (a : ZA) (n : Nat) : LiesB 95 (zPre a n) [] := by
  unfold LiesB
  show liesAt Tryd.prog Tryd.prog.depth 95 ((7 + 2 + 0) / Tryd.prog.cellsOf 95) 7 93 1 = true
  kernel_rfl
structure ZSt (h0 u : Hp) (a : ZA) (ts : List (List Pr)) (ad : Value) (Ab : Option Addr) (cb : Nat) (rs L : List Nat) (o : List UInt8) : Prop where
  b : BSt h0 u a.pb 95 (zPre a ts.length) [] ad Ab cb o
  led : Own u (some ⟨a.bl, a.ol, none⟩) ts.length a.cl 3 1 (ledV ts.length rs)
  map : MAt Tryd.prog iKey u a.gm (labM L)
  hl : h0 a.bl = none
  hg : h0 a.gm = none
  ap : a.bl ≠ a.pb ∧ a.gm ≠ a.pb ∧ a.gm ≠ a.bl ∧ blk Ab ≠ some a.bl ∧ blk Ab ≠ some a.gm
  tabs : Tabs h0 a.A ts.length ts
  tab10 : Tab10 h0
abbrev zad (a : ZA) : Value := .pointer (some ⟨a.pb, 7, none⟩)
section
variable {h0 u u' : Hp} {a : ZA} {ts : List (List Pr)} {ad : Value} {Ab A' : Option Addr} {cb c' : Nat} {rs L : List Nat} {o o' : List UInt8}
theorem ZSt.at_ (h : ZSt h0 u a ts ad Ab cb rs L o) : At u a.pb 0 (bdC (zPre a ts.length) [] ad Ab o.length cb) := ⟨_, _, _, h.b.cell, fun j v hj => by simpa using hj⟩
theorem ZSt.wr (h : ZSt h0 u a ts ad Ab cb rs L o) (hB : BSt h0 u' a.pb 95 (zPre a ts.length) [] (zad a) A' c' o') (hK : KeepB u a.pb Ab u' A') : ZSt h0 u' a ts (zad a) A' c' rs L o' := by
  obtain ⟨p1, p2, p3, p4, p5⟩ := h.ap
  obtain ⟨ol, hol⟩ := Option.ne_none_iff_exists'.1 (h.led.live rfl)
  obtain ⟨om, hom, hm2⟩ := h.map
  have k1 := hK _ _ p1 p4 hol
  have k2 := hK _ _ p2 p5 hom
  exact ⟨hB, h.led.le fun b o hb ho => (by have e := Option.some.inj hb; subst e; exact (hK _ _ p1 p4 ho).1), ⟨om, k2.1, hm2⟩, h.hl, h.hg, ⟨p1, p2, p3, k1.2, k2.2⟩, h.tabs, h.tab10⟩
end
theorem saysI (h0 u : Hp) (a : ZA) (ts : List (List Pr)) (ad : Value) (Ab : Option Addr) (cb : Nat) (rs L : List Nat) (o : List UInt8) (s : ByteArray) (hZ : ZSt h0 u a ts ad Ab cb rs L o) (hs : o.length + s.size ≤ 1000000000) :
    TriS Tryd.prog 109 [.v (.pointer (some ⟨a.pb, 7, none⟩)), .v (.string s)] [] u (fun _ : Option Addr × Nat => .tu [.v (.int .i64 (s.size : Int)), .v .nilIface]) (fun _ => []) (fun y u' => ZSt h0 u' a ts (zad a) y.1 y.2 rs L (o ++ s.data.toList)) := by
  intro h1 h2 vs h3 e1 e2
  intro k N w hd
  refine (writeS h0 u a.pb 95 (zPre a ts.length) [] ad Ab cb o s hZ.b (lies95 a ts.length) hs h1 h2 vs h3 e1 e2 k N w hd).mono ?_
  rintro e w' ⟨v, h, he, ⟨y, h', g1, g2, g3, g4⟩, g5⟩
  exact ⟨v, h, he, ⟨y, h', g1, g2, g3, hZ.wr g4.1 g4.2⟩, g5⟩
theorem sayI1 (h0 u : Hp) (a : ZA) (ts : List (List Pr)) (ad : Value) (Ab : Option Addr) (cb : Nat) (rs L : List Nat) (o : List UInt8) (b : UInt8) (hZ : ZSt h0 u a ts ad Ab cb rs L o) (hs : o.length + 1 ≤ 1000000000) :
    TriS Tryd.prog 142 [.v (.pointer (some ⟨a.pb, 7, none⟩)), .v (.int .u8 (b.toNat : Int))] [] u (fun _ : Option Addr × Nat => .v .nilIface) (fun _ => []) (fun y u' => ZSt h0 u' a ts (zad a) y.1 y.2 rs L (o ++ [b])) := by
  intro h1 h2 vs h3 e1 e2
  intro k N w hd
  refine (writeB h0 u a.pb 95 (zPre a ts.length) [] ad Ab cb o b hZ.b (lies95 a ts.length) hs h1 h2 vs h3 e1 e2 k N w hd).mono ?_
  rintro e w' ⟨v, h, he, ⟨y, h', g1, g2, g3, g4⟩, g5⟩
  exact ⟨v, h, he, ⟨y, h', g1, g2, g3, hZ.wr g4.1 g4.2⟩, g5⟩
/-- A value's text, given a table's. -/
theorem valueI (h0 u : Hp) (a : ZA) (ts : List (List Pr)) (ad : Value) (Ab : Option Addr) (cb : Nat) (rs : List Nat) (s r : TS) (v : V) (hZ : ZSt h0 u a ts ad Ab cb rs s.L s.o) (hvf : v.fit) (hk : v.k = 0 ∨ v.k = 1 ∨ v.k = 2 ∨ v.k = 3 ∨ v.k = 4) (hro : r.o.length ≤ 900000000)
    (hleaf : v.k ≠ 4 → r = ⟨s.L, s.o ++ plT v⟩) (htab : v.k = 4 → TriS Tryd.prog 113 [.v (.pointer (some ⟨a.pb, 0, none⟩)), .v (.int .i64 v.a)] [] u (fun _ : Option Addr × Nat => .tu []) (fun _ => []) (fun y u' => ZSt h0 u' a ts (zad a) y.1 y.2 rs r.L r.o)) :
    TriS Tryd.prog 70 [.v (.pointer (some ⟨a.pb, 0, none⟩)), .ag v.sv] [] u (fun _ : Option Addr × Nat => .tu []) (fun _ => []) (fun y u' => ZSt h0 u' a ts (zad a) y.1 y.2 rs r.L r.o) := by
  refine enterS Tryd.func70 rfl (n := 44) rfl rfl (fun k N => ?_)
  have hcast : ∀ (b : ByteArray) (y : Option Addr × Nat) (u' : Hp), v.k ≠ 4 → b.data.toList = plT v → ZSt h0 u' a ts (zad a) y.1 y.2 rs s.L (s.o ++ b.data.toList) → ZSt h0 u' a ts (zad a) y.1 y.2 rs r.L r.o := fun b y u' h4 hb hh => by
    rw [hleaf h4, ← hb]; exact hh
  have hlen : v.k ≠ 4 → s.o.length + (plT v).length ≤ 900000000 := fun h4 => by
    rw [hleaf h4, List.length_append] at hro; exact hro
  have hsz : ∀ b : ByteArray, b.size = b.data.toList.length := fun b => rfl
  by_cases e4 : v.k = 4
  · repeat' (first | (refine r_pure hT rfl rfl rfl rfl ?_) | (refine r_new hT rfl rfl rfl rfl ?_) | (refine r_write hT rfl rfl rfl ?_) | (refine r_nil ?_) | (refine q_nil ?_) | (refine r_call (htab e4) rfl rfl rfl rfl rfl (hC _ rfl) rfl rfl (fun y u1 hy => ?_)) | (refine r_arith rfl rfl rfl rfl rfl rfl rfl (by omega) ?_) | (with_reducible refine r_seq ?_) | (with_reducible refine x_then ?_) | (with_reducible refine r_region ?_) | (refine r_draw hM (by kernel_rfl) ?_) | (with_reducible refine r_skip ?_) | (with_reducible refine r_ret ?_) | (with_reducible refine x_then_ret ?_) | (with_reducible refine r_block ?_) | (with_reducible refine x_block ?_) | (with_reducible refine x_block_ret ?_) | (with_reducible refine r_exit ?_) | (with_reducible refine x_then_exit ?_) | (with_reducible refine x_block_here ?_) | (refine x_block_past rfl ?_) | (refine c_yes rfl (by omega) ?_) | (refine c_no rfl (by omega) ?_) | (refine c_no rfl (fun h => h rfl) ?_) | (refine r_cond_false rfl ?_) | (refine r_cond_true rfl ?_) | (refine r_cond_dec rfl (fun _ => ?_) (fun _ => ?_)) | (refine r_cond_true rfl ?_) | (refine r_cond_false rfl ?_) | (refine c_not rfl (fun _ => ?_) (fun _ => ?_)) | (refine r_off rfl rfl rfl ?_) | (refine q_guard rfl rfl (fun _ => ?_) (fun _ => ?_)) | (refine q_guardn rfl rfl (fun _ => ?_) (fun _ => ?_)))
    exact r_fin hT rfl y rfl rfl rfl trivial rfl hy
  · have hl4 := hlen e4
    by_cases e0 : v.k = 0
    · have hp : plT v = [110, 105, 108] := by unfold plT; rw [if_neg (by omega), if_neg (by omega), if_neg (by omega)]
      repeat' (first | (refine r_pure hT rfl rfl rfl rfl ?_) | (refine r_new hT rfl rfl rfl rfl ?_) | (refine r_write hT rfl rfl rfl ?_) | (refine r_nil ?_) | (refine q_nil ?_) | (refine r_call (saysI h0 u a ts ad Ab cb rs s.L s.o ⟨#[110, 105, 108]⟩ hZ (by rw [hp] at hl4; simp at hl4; show _ + 3 ≤ _; omega)) rfl rfl rfl rfl rfl (hC _ rfl) rfl rfl (fun y u1 hy => ?_)) | (refine r_arith rfl rfl rfl rfl rfl rfl rfl (by omega) ?_) | (with_reducible refine r_seq ?_) | (with_reducible refine x_then ?_) | (with_reducible refine r_region ?_) | (refine r_draw hM (by kernel_rfl) ?_) | (with_reducible refine r_skip ?_) | (with_reducible refine r_ret ?_) | (with_reducible refine x_then_ret ?_) | (with_reducible refine r_block ?_) | (with_reducible refine x_block ?_) | (with_reducible refine x_block_ret ?_) | (with_reducible refine r_exit ?_) | (with_reducible refine x_then_exit ?_) | (with_reducible refine x_block_here ?_) | (refine x_block_past rfl ?_) | (refine c_yes rfl (by omega) ?_) | (refine c_no rfl (by omega) ?_) | (refine c_no rfl (fun h => h rfl) ?_) | (refine r_cond_false rfl ?_) | (refine r_cond_true rfl ?_) | (refine r_cond_dec rfl (fun _ => ?_) (fun _ => ?_)) | (refine r_cond_true rfl ?_) | (refine r_cond_false rfl ?_) | (refine c_not rfl (fun _ => ?_) (fun _ => ?_)) | (refine r_off rfl rfl rfl ?_) | (refine q_guard rfl rfl (fun _ => ?_) (fun _ => ?_)) | (refine q_guardn rfl rfl (fun _ => ?_) (fun _ => ?_)))
      exact r_fin hT rfl y rfl rfl rfl trivial rfl (hcast _ y u1 e4 hp.symm hy)
    · by_cases e1 : v.k = 1
      · have hp : plT v = (boolT (decide (v.n = 1))).data.toList := by
          unfold plT boolT
          rw [if_pos e1]
          by_cases hn : v.n = 1
          · rw [if_pos hn, decide_eq_true hn]; rfl
          · rw [if_neg hn, decide_eq_false hn]; rfl
        repeat' (first | (refine r_pure hT rfl rfl rfl rfl ?_) | (refine r_new hT rfl rfl rfl rfl ?_) | (refine r_write hT rfl rfl rfl ?_) | (refine r_nil ?_) | (refine q_nil ?_) | (refine r_manyD (id := 6) [0, 1, 2, 3, 4, 5] [7] u (Le.refl u) hM (by kernel_rfl) rfl (by kernel_rfl) rfl rfl rfl (fun β0 => ?_)) | (refine p_call (fmtB110 (decide (v.n = 1)) u) rfl rfl rfl rfl rfl (hC _ rfl) rfl rfl rfl ?_) | (refine m_keep (Le.refl u) ⟨rfl, trivial⟩ rfl rfl ?_) | (refine r_call (saysI h0 u a ts ad Ab cb rs s.L s.o (boolT (decide (v.n = 1))) hZ (by rw [hsz, ← hp]; omega)) rfl rfl rfl rfl rfl (hC _ rfl) rfl rfl (fun y u1 hy => ?_)) | (refine m_late rfl rfl ?_) | (refine r_arith rfl rfl rfl rfl rfl rfl rfl (by omega) ?_) | (with_reducible refine r_seq ?_) | (with_reducible refine x_then ?_) | (with_reducible refine r_region ?_) | (with_reducible refine r_skip ?_) | (with_reducible refine r_ret ?_) | (with_reducible refine x_then_ret ?_) | (with_reducible refine r_block ?_) | (with_reducible refine x_block ?_) | (with_reducible refine x_block_ret ?_) | (with_reducible refine r_exit ?_) | (with_reducible refine x_then_exit ?_) | (with_reducible refine x_block_here ?_) | (refine x_block_past rfl ?_) | (refine c_yes rfl (by omega) ?_) | (refine c_no rfl (by omega) ?_) | (refine c_no rfl (fun h => h rfl) ?_) | (refine r_cond_false rfl ?_) | (refine r_cond_true rfl ?_) | (refine r_cond_dec rfl (fun _ => ?_) (fun _ => ?_)) | (refine r_cond_true rfl ?_) | (refine r_cond_false rfl ?_) | (refine c_not rfl (fun _ => ?_) (fun _ => ?_)) | (refine r_off rfl rfl rfl ?_) | (refine q_guard rfl rfl (fun _ => ?_) (fun _ => ?_)) | (refine q_guardn rfl rfl (fun _ => ?_) (fun _ => ?_)) | (refine s_nil ?_) | (with_reducible refine a_full ?_) | (refine m_step rfl rfl (List.cons_ne_nil _ _) ?_) | (refine allR_cons rfl ?_ ?_) | (exact allR_nil) | (refine m_end rfl rfl rfl ?_))
        exact r_fin hT rfl y rfl rfl rfl trivial rfl (hcast _ y u1 e4 hp.symm hy)
      · by_cases e2 : v.k = 2
        · have hp : plT v = (dec v.n).data.toList := by unfold plT; rw [if_neg e1, if_pos e2]; rfl
          repeat' (first | (refine r_pure hT rfl rfl rfl rfl ?_) | (refine r_new hT rfl rfl rfl rfl ?_) | (refine r_write hT rfl rfl rfl ?_) | (refine r_nil ?_) | (refine q_nil ?_) | (refine r_manyD (id := 8) [0, 1, 2, 3, 4] [6] u (Le.refl u) hM (by kernel_rfl) rfl (by kernel_rfl) rfl rfl rfl (fun β0 => ?_)) | (refine p_call (fmt111 v.n hvf.1.1 hvf.1.2 u (hZ.tab10.le hZ.b.base)) rfl rfl rfl rfl rfl (hC _ rfl) rfl rfl rfl ?_) | (refine m_keep (Le.refl u) ⟨rfl, trivial⟩ rfl rfl ?_) | (refine r_call (saysI h0 u a ts ad Ab cb rs s.L s.o (dec v.n) hZ (by rw [hsz, ← hp]; omega)) rfl rfl rfl rfl rfl (hC _ rfl) rfl rfl (fun y u1 hy => ?_)) | (refine m_late rfl rfl ?_) | (refine r_arith rfl rfl rfl rfl rfl rfl rfl (by omega) ?_) | (with_reducible refine r_seq ?_) | (with_reducible refine x_then ?_) | (with_reducible refine r_region ?_) | (with_reducible refine r_skip ?_) | (with_reducible refine r_ret ?_) | (with_reducible refine x_then_ret ?_) | (with_reducible refine r_block ?_) | (with_reducible refine x_block ?_) | (with_reducible refine x_block_ret ?_) | (with_reducible refine r_exit ?_) | (with_reducible refine x_then_exit ?_) | (with_reducible refine x_block_here ?_) | (refine x_block_past rfl ?_) | (refine c_yes rfl (by omega) ?_) | (refine c_no rfl (by omega) ?_) | (refine c_no rfl (fun h => h rfl) ?_) | (refine r_cond_false rfl ?_) | (refine r_cond_true rfl ?_) | (refine r_cond_dec rfl (fun _ => ?_) (fun _ => ?_)) | (refine r_cond_true rfl ?_) | (refine r_cond_false rfl ?_) | (refine c_not rfl (fun _ => ?_) (fun _ => ?_)) | (refine r_off rfl rfl rfl ?_) | (refine q_guard rfl rfl (fun _ => ?_) (fun _ => ?_)) | (refine q_guardn rfl rfl (fun _ => ?_) (fun _ => ?_)) | (refine s_nil ?_) | (with_reducible refine a_full ?_) | (refine m_step rfl rfl (List.cons_ne_nil _ _) ?_) | (refine allR_cons rfl ?_ ?_) | (exact allR_nil) | (refine m_end rfl rfl rfl ?_))
          exact r_fin hT rfl y rfl rfl rfl trivial rfl (hcast _ y u1 e4 hp.symm hy)
        · have e3 : v.k = 3 := by omega
          have hp : plT v = qt v.s.data.toList := by unfold plT; rw [if_neg e1, if_neg e2, if_pos e3]
          repeat' (first | (refine r_pure hT rfl rfl rfl rfl ?_) | (refine r_new hT rfl rfl rfl rfl ?_) | (refine r_write hT rfl rfl rfl ?_) | (refine r_nil ?_) | (refine q_nil ?_) | (refine r_manyD (id := 10) [0, 1, 2, 3, 4] [6] u (Le.refl u) hM (by kernel_rfl) rfl (by kernel_rfl) rfl rfl rfl (fun β0 => ?_)) | (refine p_call (quoted112 v.s hvf.2 u) rfl rfl rfl rfl rfl (hC _ rfl) rfl rfl rfl ?_) | (refine m_keep (Le.refl u) ⟨rfl, trivial⟩ rfl rfl ?_) | (refine r_call (saysI h0 u a ts ad Ab cb rs s.L s.o ⟨(qt v.s.data.toList).toArray⟩ hZ (by rw [bytes_size, ← hp]; omega)) rfl rfl rfl rfl rfl (hC _ rfl) rfl rfl (fun y u1 hy => ?_)) | (refine m_late rfl rfl ?_) | (refine r_arith rfl rfl rfl rfl rfl rfl rfl (by omega) ?_) | (with_reducible refine r_seq ?_) | (with_reducible refine x_then ?_) | (with_reducible refine r_region ?_) | (with_reducible refine r_skip ?_) | (with_reducible refine r_ret ?_) | (with_reducible refine x_then_ret ?_) | (with_reducible refine r_block ?_) | (with_reducible refine x_block ?_) | (with_reducible refine x_block_ret ?_) | (with_reducible refine r_exit ?_) | (with_reducible refine x_then_exit ?_) | (with_reducible refine x_block_here ?_) | (refine x_block_past rfl ?_) | (refine c_yes rfl (by omega) ?_) | (refine c_no rfl (by omega) ?_) | (refine c_no rfl (fun h => h rfl) ?_) | (refine r_cond_false rfl ?_) | (refine r_cond_true rfl ?_) | (refine r_cond_dec rfl (fun _ => ?_) (fun _ => ?_)) | (refine r_cond_true rfl ?_) | (refine r_cond_false rfl ?_) | (refine c_not rfl (fun _ => ?_) (fun _ => ?_)) | (refine r_off rfl rfl rfl ?_) | (refine q_guard rfl rfl (fun _ => ?_) (fun _ => ?_)) | (refine q_guardn rfl rfl (fun _ => ?_) (fun _ => ?_)) | (refine s_nil ?_) | (with_reducible refine a_full ?_) | (refine m_step rfl rfl (List.cons_ne_nil _ _) ?_) | (refine allR_cons rfl ?_ ?_) | (exact allR_nil) | (refine m_end rfl rfl rfl ?_))
          exact r_fin hT rfl y rfl rfl rfl trivial rfl (hcast _ y u1 e4 hp.symm hy)
end Go.Proofs.YtkamfnmbidnhdaaDoor
