/- FnRings: the law's walk. No condition. -/
import Derived.Test.YtkamfnmbidnhdaaDoorSqAP
import Derived.Test.YtkamfnmbidnhdaaDoorSqAS
import Derived.Test.YtkamfnmbidnhdaaDoorSqAT
import Derived.Test.YtkamfnmbidnhdaaDoorSyDFn
import Derived.Test.YtkamfnmbidnhdaaDoorSyDNd
import Derived.Test.YtkamfnmbidnhdaaDoorSqAN
import Derived.Test.YtkamfnmbidnhdaaDoorSqAH
import Derived.Test.YtkamfnmbidnhdaaDoorSqAC
import Derived.Test.YtkamfnmbidnhdaaDoorChecked
import Derived.KernelRfl
import Derived.Test.YtkamfnmbidnhdaaDoorRows
import Derived.Test.YtkamfnmbidnhdaaDoorCards
import Derived.Test.YtkamfnmbidnhdaaDoorTie
import Derived.WalkKit
import Derived.ProofKit
import Derived.LaidMore
import Derived.OpenShut
import Derived.ShutString
import Derived.ChangeOld
import Derived.Below
import Derived.ChangeVars
import Derived.Stop.LaidErr
import Derived.SevenTiedAt
import Derived.Test.YtkamfnmbidnhdaaDoorSqAF
set_option linter.unusedVariables false
set_option linter.unusedSimpArgs false
set_option linter.unusedSectionVars false
namespace Go.Sy
theorem r_subN {P : Program} {F : Fr} {tm : Tm} {L : Lm} {u : Hp} {Q : Exit → Act → World → Prop} {qq : Md} {l : List Oper} {o : Oper} {r : List Oper} {d : Nat} {t t' : TypeId} {x y : Operand} {p q : Nat} (hw : wantE l tm o = some true) (ho : o.dst = some d) (hn : Nat.blt d F.n.z = true)
    (hop : o.op = .binOp .sub t x y t') (hx : ev tm x = some (.v (.int .i64 (p : Int)))) (hy : ev tm y = some (.v (.int .i64 (q : Int)))) (hq : q ≤ p ∧ p ≤ 9223372036854775807)
    (next : Run P Q F ((d, .v (.int .i64 ((p - q : Nat) : Int))) :: tm) L u qq l r) : Run P Q F tm L u qq l (o :: r) := by
  refine r_arith (c := ((p - q : Nat) : Int)) hw ho hn hop hx hy ?_ (by omega) next
  show some ((p : Int) - q) = _
  congr 1; omega
/-- A field of a struct's value, one cell wide. -/
theorem r_field {P : Program} {T : List (Nat × TI)} {F : Fr} {tm : Tm} {L : Lm} {u : Hp} {Q : Exit → Act → World → Prop} {qq : Md} {l : List Oper} {o : Oper} {r : List Oper} {d : Nat} {t : TypeId} {x : Operand} {f oo z : Nat} {cs : List SV} {s : SV} (hT : TOK P T) (hw : wantE l tm o = some true) (ho : o.dst = some d) (hn : Nat.blt d F.n.z = true)
    (hop : o.op = .field t x f) (hf : fieldE T t f = some (oo, z, false)) (hu : ∀ fields fd, P.underlying t = some (.struct fields) → fields[f]? = some fd → (P.underlying fd.type).isSome = true) (hx : ev tm x = some (.ag cs)) (hs : nth cs oo = some s)
    (next : Run P Q F ((d, s) :: tm) L u qq l r) : Run P Q F tm L u qq l (o :: r) := by
  refine op_pure hw ho hn (fun β a w ht' hd => ?_) next
  obtain ⟨fields, fd, h1, h2, h3, h4, h5⟩ := fieldE_ok hT hf
  rw [nth_eq] at hs
  have hk : SV.oks L cs = true := ev_oks ht' hx
  rw [oks_all] at hk
  refine ⟨?_, List.all_eq_true.1 hk _ (List.mem_of_getElem? hs)⟩
  have hd2 : (SV.dens β cs)[fd.offset]? = some (s.den β) := by
    rw [h3, dens_map, List.getElem?_map, hs]; rfl
  simp [execOp, hop, ev_ok ht' hx, SV.den, Instr.field, run_und h1, h2, asAgg, part, run_isAgg w _ h5 (hu _ _ h1 h2), hd2]
/-- A row grown, its header put anew. -/
theorem OT.put {u u' : Hp} {eT eP : TypeId} {A : Option Addr} {n c : Nat} {hs : List Hd} {ts : List (List Pr)} (h : OT u eT eP A n c hs ts) {i : Nat} {y : Hd} {t : List Pr} (hO : Own u' A n c eT 1 ((hs.set i y).flatMap Hd.v)) (hy : Own u' y.A y.n y.c eP 8 (t.flatMap Pr.c)) (hn : y.n = t.length)
    (hk : ∀ (j : Nat) (x : Hd), j ≠ i → hs[j]? = some x → ∀ b o, blk x.A = some b → u b = some o → u' b = some o) : Tabs u' A n (ts.set i t) := by
  refine ⟨hs.set i y, by simp [h.rows.len], ⟨by rw [List.length_set, h.num, h.rows.len], hO.sl⟩, fun j x s hx hs' => ?_⟩
  rw [List.getElem?_set] at hx hs'
  by_cases hj : i = j
  · subst hj
    rw [if_pos rfl] at hx hs'
    have e : i < hs.length := by
      by_cases e : i < hs.length
      · exact e
      · rw [if_neg e] at hx; cases hx
    have e2 : i < ts.length := by rw [← h.rows.len]; exact e
    rw [if_pos e] at hx
    rw [if_pos e2] at hs'
    obtain rfl := Option.some.inj hx
    obtain rfl := Option.some.inj hs'
    exact ⟨hy.cap, hn, hy.sl⟩
  · rw [if_neg hj] at hx hs'
    obtain ⟨g1, g2⟩ := h.rows.rows j x s hx hs'
    have g3 := g2.le fun b o hb ho => hk j x (Ne.symm hj) hx b o hb ho
    exact ⟨g3.cap, g1, g3.sl⟩
end Go.Sy
namespace Go.Proofs.YtkamfnmbidnhdaaDoor
open Go.Sy
set_option maxRecDepth 100000
set_option maxHeartbeats 8000000
set_option linter.unusedVariables false
set_option linter.unusedSimpArgs false
def wB (bs : List Int) (i : Nat) : Int := bs.getD (i % bs.length) 0
theorem wB_rng {bs : List Int} (hb : ∀ x ∈ bs, 0 ≤ x ∧ x ≤ 255) (i : Nat) : ∃ p : Nat, wB bs i = (p : Int) ∧ p ≤ 255 := by
  unfold wB
  rw [List.getD_eq_getElem?_getD]
  cases h : bs[i % bs.length]? with
  | none => exact ⟨0, rfl, by omega⟩
  | some x => have := hb x (List.mem_of_getElem? h); exact ⟨x.toNat, by simp; omega, by omega⟩
theorem wByte (bs : List Int) (A : Option Addr) (n c i : Nat) (h : Hp) (hP : Bys h A n bs) (hl : n ≤ 1048576) (hi : i ≤ 1000000000) (hb : ∀ x ∈ bs, 0 ≤ x ∧ x ≤ 255) :
    Pur Tryd.prog 12 [.v (.slice A n c), .v (.int .i64 (i : Int))] h (fun y : Int => .v (.int .i64 y)) (wB bs i) := by
  obtain rfl := hP.1
  refine enterS Tryd.func12 rfl (n := 16) rfl rfl (fun k N => ?_)
  by_cases h0 : bs.length = 0
  · have : bs = [] := List.length_eq_zero_iff.1 h0
    subst this
    repeat' (first | (refine r_pure hT rfl rfl rfl rfl ?_) | (refine r_new hT rfl rfl rfl rfl ?_) | (refine r_write hT rfl rfl rfl ?_) | (refine r_nil ?_) | (refine q_nil ?_) | (refine r_arith rfl rfl rfl rfl rfl rfl rfl (by omega) ?_) | (with_reducible refine r_seq ?_) | (with_reducible refine x_then ?_) | (with_reducible refine r_region ?_) | (refine r_draw hM (by kernel_rfl) ?_) | (with_reducible refine r_skip ?_) | (with_reducible refine r_ret ?_) | (with_reducible refine x_then_ret ?_) | (with_reducible refine r_block ?_) | (with_reducible refine x_block ?_) | (with_reducible refine x_block_ret ?_) | (with_reducible refine r_exit ?_) | (with_reducible refine x_then_exit ?_) | (with_reducible refine x_block_here ?_) | (refine x_block_past rfl ?_) | (refine c_yes rfl (by omega) ?_) | (refine c_no rfl (by omega) ?_) | (refine c_no rfl (fun h => h rfl) ?_) | (refine r_cond_false rfl ?_) | (refine r_cond_true rfl ?_) | (refine r_cond_dec rfl (fun _ => ?_) (fun _ => ?_)) | (refine r_cond_true rfl ?_) | (refine r_cond_false rfl ?_) | (refine c_not rfl (fun _ => ?_) (fun _ => ?_)) | (refine r_off rfl rfl rfl ?_) | (refine q_guard rfl rfl (fun _ => ?_) (fun _ => ?_)) | (refine q_guardn rfl rfl (fun _ => ?_) (fun _ => ?_)))
    exact r_fin hT rfl (0 : Int) rfl rfl rfl trivial rfl ⟨rfl, rfl⟩
  · obtain ⟨b, off, x, rfl, hd, hix, hm, hat⟩ := hP.elem Bc_len (i := i % bs.length) (Nat.mod_lt _ (by omega))
    have hx := hb x hm
    have hml := Nat.mod_lt i (show 0 < bs.length by omega)
    repeat' (first | (refine r_pure hT rfl rfl rfl rfl ?_) | (refine r_new hT rfl rfl rfl rfl ?_) | (refine r_write hT rfl rfl rfl ?_) | (refine r_nil ?_) | (refine q_nil ?_) | (refine r_remN rfl rfl rfl rfl rfl rfl (by omega) ?_) | (refine r_indexN hT rfl rfl rfl rfl rfl rfl rfl rfl rfl (by omega) ?_) | (refine r_load hT hat rfl rfl rfl rfl rfl (Nat.add_zero _).symm rfl rfl rfl rfl rfl ?_) | (refine r_conv hT rfl rfl rfl rfl rfl rfl rfl rfl (IntWalk.i64_in _ (by omega)) ?_) | (refine r_arith rfl rfl rfl rfl rfl rfl rfl (by omega) ?_) | (with_reducible refine r_seq ?_) | (with_reducible refine x_then ?_) | (with_reducible refine r_region ?_) | (refine r_draw hM (by kernel_rfl) ?_) | (with_reducible refine r_skip ?_) | (with_reducible refine r_ret ?_) | (with_reducible refine x_then_ret ?_) | (with_reducible refine r_block ?_) | (with_reducible refine x_block ?_) | (with_reducible refine x_block_ret ?_) | (with_reducible refine r_exit ?_) | (with_reducible refine x_then_exit ?_) | (with_reducible refine x_block_here ?_) | (refine x_block_past rfl ?_) | (refine c_yes rfl (by omega) ?_) | (refine c_no rfl (by omega) ?_) | (refine c_no rfl (fun h => h rfl) ?_) | (refine r_cond_false rfl ?_) | (refine r_cond_true rfl ?_) | (refine r_cond_dec rfl (fun _ => ?_) (fun _ => ?_)) | (refine r_cond_true rfl ?_) | (refine r_cond_false rfl ?_) | (refine c_not rfl (fun _ => ?_) (fun _ => ?_)) | (refine r_off rfl rfl rfl ?_) | (refine q_guard rfl rfl (fun _ => ?_) (fun _ => ?_)) | (refine q_guardn rfl rfl (fun _ => ?_) (fun _ => ?_)))
    exact r_fin hT rfl x rfl rfl rfl trivial rfl ⟨by simp [wB, List.getD_eq_getElem?_getD, hix], rfl⟩
theorem f51 : ∀ fields fd, Tryd.prog.underlying 51 = some (.struct fields) → fields[1]? = some fd → (Tryd.prog.underlying fd.type).isSome = true := fun fields fd h1 h2 => by
  rw [Tryd.underlying51] at h1
  have e := (TypeDesc.struct.inj (Option.some.inj h1)).symm
  subst e
  have e2 := Option.some.inj h2
  subst e2
  show (Tryd.prog.underlying 49).isSome = true
  rw [Tryd.underlying49]; rfl
theorem rgm_set {n : Nat} (h : 1 ≤ n) : (rg n).set (n - 1) mkT = rgm n := by
  obtain ⟨m, rfl⟩ : ∃ m, n = m + 1 := ⟨n - 1, by omega⟩
  unfold rg rgm
  rw [List.range_succ, List.map_append, List.set_append_right _ _ (by simp)]
  simp
theorem rgT_last {n : Nat} (h : 1 ≤ n) : rgT n (n - 1) ++ [⟨inV 2, inV 2⟩] = mkT := by
  unfold rgT mkT
  rw [show n - 1 + 1 = n by omega, Nat.mod_self]; rfl
theorem lawFnRings (bs : List Int) (A : Option Addr) (n c : Nat) (h : Hp) (hA : Bys h A n bs) (hbs : ∀ x ∈ bs, 0 ≤ x ∧ x ≤ 255) (ht10 : Tab10 h) :
    TriS Tryd.prog 7 [.v (.slice A n c)] [] h (fun y : Bool => .v (.bool y)) (fun _ => []) (fun y h' => y = true ∧ Le h h') := by
  refine enterS Tryd.func7 rfl (n := 94) rfl rfl (fun k N => ?_)
  by_cases hn : 1048576 < n
  · repeat' (first | (refine r_pure hT rfl rfl rfl rfl ?_) | (refine r_new hT rfl rfl rfl rfl ?_) | (refine r_write hT rfl rfl rfl ?_) | (refine r_nil ?_) | (refine q_nil ?_) | (refine q_guard rfl rfl (fun _ => ?_) (fun hx => absurd (by omega) hx)) | (refine r_arith rfl rfl rfl rfl rfl rfl rfl (by omega) ?_) | (with_reducible refine r_seq ?_) | (with_reducible refine x_then ?_) | (with_reducible refine r_region ?_) | (refine r_draw hM (by kernel_rfl) ?_) | (with_reducible refine r_skip ?_) | (with_reducible refine r_ret ?_) | (with_reducible refine x_then_ret ?_) | (with_reducible refine r_block ?_) | (with_reducible refine x_block ?_) | (with_reducible refine x_block_ret ?_) | (with_reducible refine r_exit ?_) | (with_reducible refine x_then_exit ?_) | (with_reducible refine x_block_here ?_) | (refine x_block_past rfl ?_) | (refine c_yes rfl (by omega) ?_) | (refine c_no rfl (by omega) ?_) | (refine c_no rfl (fun h => h rfl) ?_) | (refine r_cond_false rfl ?_) | (refine r_cond_true rfl ?_) | (refine r_cond_dec rfl (fun _ => ?_) (fun _ => ?_)) | (refine r_cond_true rfl ?_) | (refine r_cond_false rfl ?_) | (refine c_not rfl (fun _ => ?_) (fun _ => ?_)) | (refine r_off rfl rfl rfl ?_))
    exact r_fin hT rfl true rfl rfl rfl trivial rfl ⟨rfl, Le.refl _⟩
  obtain ⟨p0, hp0, hp0'⟩ := wB_rng hbs 0
  obtain ⟨p1, hp1, hp1'⟩ := wB_rng hbs 1
  have hw0 := wByte bs A n c 0 h hA (by omega) (by omega) hbs
  have hw1 := wByte bs A n c 1 h hA (by omega) (by omega) hbs
  rw [hp0] at hw0
  rw [hp1] at hw1
  have hm0 : 1 ≤ 1 + p0 % 60 ∧ 1 + p0 % 60 ≤ 60 := by omega
  have hm1 : 1 ≤ 1 + p1 % 60 ∧ 1 + p1 % 60 ≤ 60 := by omega
  repeat' (first | (refine r_pure hT rfl rfl rfl rfl ?_) | (refine r_new hT rfl rfl rfl rfl ?_) | (refine r_write hT rfl rfl rfl ?_) | (refine r_nil ?_) | (refine q_nil ?_) | (refine q_guard rfl rfl (fun hx => absurd hx (by omega)) (fun _ => ?_)) | (refine p_call hw0 rfl rfl rfl rfl rfl (hC _ rfl) rfl rfl rfl ?_) | (refine p_call hw1 rfl rfl rfl rfl rfl (hC _ rfl) rfl rfl rfl ?_) | (refine r_remN (p := p0) (q := 60) rfl rfl rfl rfl rfl rfl (by omega) ?_) | (refine r_remN (p := p1) (q := 60) rfl rfl rfl rfl rfl rfl (by omega) ?_) | (refine r_addM (p := 1) (q := p0 % 60) rfl rfl rfl rfl rfl rfl (by omega) ?_) | (refine r_addM (p := 1) (q := p1 % 60) rfl rfl rfl rfl rfl rfl (by omega) ?_) | (refine r_call (wRing34 (1 + p0 % 60) h hm0) rfl rfl rfl rfl rfl (hC _ rfl) rfl rfl (fun y1 u1 hy1 => ?_)) | (refine r_arith rfl rfl rfl rfl rfl rfl rfl (by omega) ?_) | (with_reducible refine r_seq ?_) | (with_reducible refine x_then ?_) | (with_reducible refine r_region ?_) | (with_reducible refine r_skip ?_) | (with_reducible refine r_ret ?_) | (with_reducible refine x_then_ret ?_) | (with_reducible refine r_block ?_) | (with_reducible refine x_block ?_) | (with_reducible refine x_block_ret ?_) | (with_reducible refine r_exit ?_) | (with_reducible refine x_then_exit ?_) | (with_reducible refine x_block_here ?_) | (refine x_block_past rfl ?_) | (refine c_yes rfl (by omega) ?_) | (refine c_no rfl (by omega) ?_) | (refine c_no rfl (fun h => h rfl) ?_) | (refine r_cond_false rfl ?_) | (refine r_cond_true rfl ?_) | (refine r_cond_dec rfl (fun _ => ?_) (fun _ => ?_)) | (refine r_cond_true rfl ?_) | (refine r_cond_false rfl ?_) | (refine c_not rfl (fun _ => ?_) (fun _ => ?_)) | (refine r_off rfl rfl rfl ?_))
  obtain ⟨hO1, l1, _⟩ := hy1
  generalize 1 + p0 % 60 = N0 at *
  generalize 1 + p1 % 60 = M0 at *
  obtain ⟨gR, rR⟩ := rg_ok hm0.1 hm0.2
  obtain ⟨gM, rM⟩ := rg_ok hm1.1 hm1.2
  have h101 := ht10.le l1
  repeat' (first | (refine r_pure hT rfl rfl rfl rfl ?_) | (refine r_new hT rfl rfl rfl rfl ?_) | (refine r_write hT rfl rfl rfl ?_) | (refine r_nil ?_) | (refine q_nil ?_) | (refine r_many (id := 6) [0, 1] [] u1 (Le.refl u1) hM (by kernel_rfl) rfl (by kernel_rfl) rfl rfl rfl (fun β0 => ?_)) | (refine r_call (wRing34 M0 u1 hm1) rfl rfl rfl rfl rfl (hC _ rfl) rfl rfl (fun y2 u2 hy2 => ?_)) | (refine r_arith rfl rfl rfl rfl rfl rfl rfl (by omega) ?_) | (with_reducible refine r_seq ?_) | (with_reducible refine x_then ?_) | (with_reducible refine r_region ?_) | (with_reducible refine r_skip ?_) | (with_reducible refine r_ret ?_) | (with_reducible refine x_then_ret ?_) | (with_reducible refine r_block ?_) | (with_reducible refine x_block ?_) | (with_reducible refine x_block_ret ?_) | (with_reducible refine r_exit ?_) | (with_reducible refine x_then_exit ?_) | (with_reducible refine x_block_here ?_) | (refine x_block_past rfl ?_) | (refine c_yes rfl (by omega) ?_) | (refine c_no rfl (by omega) ?_) | (refine c_no rfl (fun h => h rfl) ?_) | (refine r_cond_false rfl ?_) | (refine r_cond_true rfl ?_) | (refine r_cond_dec rfl (fun _ => ?_) (fun _ => ?_)) | (refine r_cond_true rfl ?_) | (refine r_cond_false rfl ?_) | (refine c_not rfl (fun _ => ?_) (fun _ => ?_)) | (refine r_off rfl rfl rfl ?_) | (refine q_guard rfl rfl (fun _ => ?_) (fun _ => ?_)) | (refine q_guardn rfl rfl (fun _ => ?_) (fun _ => ?_)) | (refine s_nil ?_) | (with_reducible refine a_full ?_) | (refine m_step rfl rfl (List.cons_ne_nil _ _) ?_) | (refine allR_cons rfl ?_ ?_) | (exact allR_nil) | (refine m_end rfl rfl rfl ?_))
  obtain ⟨hO2, l2, _⟩ := hy2
  have hT12 := hO1.tabs.le l2
  have h102 := h101.le l2
  have hsm := implSame (taV 0) (taV 0) (rg N0) (rg M0) y1.1.1 y2.1.1 _ y1.1.2 _ y2.1.2 u2 hT12 hO2.tabs rR rM h102
  rw [rg_same hm0 hm1] at hsm
  repeat' (first | (refine r_pure hT rfl rfl rfl rfl ?_) | (refine r_new hT rfl rfl rfl rfl ?_) | (refine r_write hT rfl rfl rfl ?_) | (refine r_nil ?_) | (refine q_nil ?_) | (refine m_keep l2 ⟨rfl, trivial⟩ rfl rfl ?_) | (refine r_call hsm rfl rfl rfl rfl rfl (hC _ rfl) rfl rfl (fun y3 u3 hy3 => ?_)) | (refine r_arith rfl rfl rfl rfl rfl rfl rfl (by omega) ?_) | (with_reducible refine r_seq ?_) | (with_reducible refine x_then ?_) | (with_reducible refine r_region ?_) | (with_reducible refine r_skip ?_) | (with_reducible refine r_ret ?_) | (with_reducible refine x_then_ret ?_) | (with_reducible refine r_block ?_) | (with_reducible refine x_block ?_) | (with_reducible refine x_block_ret ?_) | (with_reducible refine r_exit ?_) | (with_reducible refine x_then_exit ?_) | (with_reducible refine x_block_here ?_) | (refine x_block_past rfl ?_) | (refine c_yes rfl (by omega) ?_) | (refine c_no rfl (by omega) ?_) | (refine c_no rfl (fun h => h rfl) ?_) | (refine r_cond_false rfl ?_) | (refine r_cond_true rfl ?_) | (refine r_cond_dec rfl (fun _ => ?_) (fun _ => ?_)) | (refine r_cond_true rfl ?_) | (refine r_cond_false rfl ?_) | (refine c_not rfl (fun _ => ?_) (fun _ => ?_)) | (refine r_off rfl rfl rfl ?_) | (refine s_nil ?_) | (with_reducible refine a_full ?_) | (refine m_step rfl rfl (List.cons_ne_nil _ _) ?_) | (refine allR_cons rfl ?_ ?_) | (exact allR_nil) | (refine m_end rfl rfl rfl ?_))
  obtain ⟨hy3, l3⟩ := hy3
  subst hy3
  have l23 := l2.trans l3
  have hT13 := hT12.le l3
  have h103 := h102.le l3
  have hsh := implShrink (taV 0) (rg N0) y1.1.1 _ y1.1.2 u3 hT13 rR h103
  rw [(k_rg hm0).1, (k_rg hm0).2] at hsh
  repeat' (first | (refine r_pure hT rfl rfl rfl rfl ?_) | (refine r_new hT rfl rfl rfl rfl ?_) | (refine r_write hT rfl rfl rfl ?_) | (refine r_nil ?_) | (refine q_nil ?_) | (refine m_keep l23 ⟨rfl, trivial⟩ rfl rfl ?_) | (refine r_call hsh rfl rfl rfl rfl rfl (hC _ rfl) rfl rfl (fun y4 u4 hy4 => ?_)) | (refine r_arith rfl rfl rfl rfl rfl rfl rfl (by omega) ?_) | (with_reducible refine r_seq ?_) | (with_reducible refine x_then ?_) | (with_reducible refine r_region ?_) | (with_reducible refine r_skip ?_) | (with_reducible refine r_ret ?_) | (with_reducible refine x_then_ret ?_) | (with_reducible refine r_block ?_) | (with_reducible refine x_block ?_) | (with_reducible refine x_block_ret ?_) | (with_reducible refine r_exit ?_) | (with_reducible refine x_then_exit ?_) | (with_reducible refine x_block_here ?_) | (refine x_block_past rfl ?_) | (refine c_yes rfl (by omega) ?_) | (refine c_no rfl (by omega) ?_) | (refine c_no rfl (fun h => h rfl) ?_) | (refine r_cond_false rfl ?_) | (refine r_cond_true rfl ?_) | (refine r_cond_dec rfl (fun _ => ?_) (fun _ => ?_)) | (refine r_cond_true rfl ?_) | (refine r_cond_false rfl ?_) | (refine c_not rfl (fun _ => ?_) (fun _ => ?_)) | (refine r_off rfl rfl rfl ?_) | (refine s_nil ?_) | (with_reducible refine a_full ?_) | (refine m_step rfl rfl (List.cons_ne_nil _ _) ?_) | (refine allR_cons rfl ?_ ?_) | (exact allR_nil) | (refine m_end rfl rfl rfl ?_))
  obtain ⟨hO4, l4, _⟩ := hy4
  have l24 := l23.trans l4
  have hT14 := hT13.le l4
  have h104 := h103.le l4
  have hfz := implFreeze (taV 0) [[⟨inV 1, taV 0⟩]] y4.1.1 _ y4.1.2 u4 hO4.tabs (rg_ok (n := 1) (by omega) (by omega)).2 h104
  rw [frz_ring] at hfz
  repeat' (first | (refine r_pure hT rfl rfl rfl rfl ?_) | (refine r_new hT rfl rfl rfl rfl ?_) | (refine r_write hT rfl rfl rfl ?_) | (refine r_nil ?_) | (refine q_nil ?_) | (refine m_keep l24 ⟨rfl, trivial⟩ rfl rfl ?_) | (refine p_call hfz rfl rfl rfl rfl rfl (hC _ rfl) rfl rfl rfl ?_) | (refine r_build hT rfl rfl rfl (t := 48) (ps := [(0, .const (.int .i64 2)), (1, .const (.int .i64 2))]) rfl rfl rfl rfl rfl rfl ?_) | (refine r_call (wRing34 N0 u4 hm0) rfl rfl rfl rfl rfl (hC _ rfl) rfl rfl (fun y5 u5 hy5 => ?_)) | (refine r_arith rfl rfl rfl rfl rfl rfl rfl (by omega) ?_) | (with_reducible refine r_seq ?_) | (with_reducible refine x_then ?_) | (with_reducible refine r_region ?_) | (with_reducible refine r_skip ?_) | (with_reducible refine r_ret ?_) | (with_reducible refine x_then_ret ?_) | (with_reducible refine r_block ?_) | (with_reducible refine x_block ?_) | (with_reducible refine x_block_ret ?_) | (with_reducible refine r_exit ?_) | (with_reducible refine x_then_exit ?_) | (with_reducible refine x_block_here ?_) | (refine x_block_past rfl ?_) | (refine c_yes rfl (by omega) ?_) | (refine c_no rfl (by omega) ?_) | (refine c_no rfl (fun h => h rfl) ?_) | (refine r_cond_false rfl ?_) | (refine r_cond_true rfl ?_) | (refine r_cond_dec rfl (fun _ => ?_) (fun _ => ?_)) | (refine r_cond_true rfl ?_) | (refine r_cond_false rfl ?_) | (refine c_not rfl (fun _ => ?_) (fun _ => ?_)) | (refine r_off rfl rfl rfl ?_) | (refine s_nil ?_) | (with_reducible refine a_full ?_) | (refine m_step rfl rfl (List.cons_ne_nil _ _) ?_) | (refine allR_cons rfl ?_ ?_) | (exact allR_nil) | (refine m_end rfl rfl rfl ?_))
  obtain ⟨hO5, l5, hof5⟩ := hy5
  obtain ⟨⟨A5, c5⟩, hs5⟩ := y5
  have hlR : (rg N0).length = N0 := rg_len N0
  obtain ⟨b, off, y, t, hAe, _, hix, hit, _, hat, hyn, hOy⟩ := hO5.elem (i := N0 - 1) (by rw [hlR]; omega)
  dsimp only at *
  subst hAe
  have ht : t = rgT N0 (N0 - 1) := by
    have e := rg_at (n := N0) (i := N0 - 1) (by omega)
    rw [tabA_get (by rw [hlR]; omega)] at e
    exact (Option.some.inj ((List.getElem?_eq_getElem _).symm.trans hit)).symm.trans e
  subst ht
  obtain ⟨yA, yn, yc⟩ := y
  dsimp only at *
  obtain rfl : yn = 1 := hyn
  have hap := hO5.rows.apart
  have hbn : blk yA ≠ some b := fun e => (hap _ _ b hix e).1 rfl
  have hpw : ∀ x o, blk yA ≠ some x → u5 x = some o → ptw u5 yA x = some o := fun x o hx ho => by unfold ptw; rw [if_neg hx]; exact ho
  have hatp : At (ptw u5 yA) b (off + (N0 - 1) * 1) [.slice yA 1 yc] := by obtain ⟨arr, ta, fr, q1, q2⟩ := hat; exact ⟨arr, ta, fr, hpw _ _ hbn q1, q2⟩
  have hOp : Own (ptw u5 yA) (some ⟨b, off, none⟩) (rg N0).length c5 59 1 (hs5.flatMap Hd.v) := hO5.own.le fun x o hx ho => hpw x o (fun e => by have e2 := Option.some.inj hx; dsimp only at e2; rw [← e2] at e; exact hbn e) ho
  have hkp : ∀ {b14 : Nat} {o : Obj} {u6 : Hp} {A6 : Option Addr}, u5 b14 = none → Grown (upd u5 b14 o) u6 yA A6 → Le (ptw u5 yA) u6 ∧ Off (ptw u5 yA) A6 := fun hb hG => hG _ ((ptw_le u5 yA).trans (le_frsh (Le.refl u5) hb)) (ptw_off u5 yA)
  repeat' (first | (refine r_pure hT rfl rfl rfl rfl ?_) | (refine r_new hT rfl rfl rfl rfl ?_) | (refine r_write hT rfl rfl rfl ?_) | (refine r_nil ?_) | (refine q_nil ?_) | (refine r_manyD (id := 10) [0, 1, 2, 3, 4, 5, 6, 7, 8, 9, 10, 11, 12, 13] [18] (ptw u5 yA) (ptw_le u5 yA) hM (by kernel_rfl) rfl (by kernel_rfl) rfl rfl rfl (fun β0 => ?_)) | (refine r_subN (p := N0) (q := 1) rfl rfl rfl rfl rfl rfl (by omega) ?_) | (refine r_indexN hT rfl rfl rfl rfl rfl rfl rfl rfl rfl (by omega) ?_) | (refine r_load hT hatp rfl rfl rfl rfl rfl (Nat.add_zero _).symm rfl rfl rfl rfl rfl ?_) | (refine r_build hT rfl rfl rfl (t := 61) (ps := [(0, .tmp 50), (1, .tmp 51)]) rfl rfl rfl rfl rfl rfl ?_) | (refine r_bslice (t := 57) hT (ps := [(0, .tmp 52)]) rfl rfl rfl rfl rfl rfl rfl (by simp) rfl rfl (by decide) (fun b14 hb14 => ?_)) | (refine m_keep ((ptw_le u5 yA).trans (le_frsh (Le.refl u5) hb14)) ⟨rfl, rfl, rfl, trivial⟩ rfl rfl ?_) | (refine r_append (t := 57) hT (cs := (rgT N0 (N0 - 1)).flatMap Pr.c) (news := [(⟨inV 2, inV 2⟩ : Pr)].flatMap Pr.c) rfl rfl rfl rfl rfl rfl rfl rfl rfl rfl rfl (own_fr hOy hb14) (sl_blk (upd_here ..) rfl) (fun v hv => pr_ones (p := ⟨inV 2, inV 2⟩) v (by simpa using hv)) (by dsimp only; omega) (by omega) (fun A6 c6 u6 hO6 hG6 => ?_)) | (refine m_keep (hkp hb14 hG6).1 ⟨rfl, rfl, rfl, trivial⟩ rfl rfl ?_) | (refine m_late rfl rfl ?_) | (refine r_store_own hT (o := (N0 - 1) * 1) (hOp.le fun x o _ ho => (hkp hb14 hG6).1 x o ho) rfl rfl rfl rfl rfl rfl rfl rfl rfl rfl rfl (by rw [flat_length Hd.v_len]; show (N0 - 1) * 1 + 1 ≤ _; rw [hO5.rows.len, hlR]; omega) (fun u7 hO7 hu7 => ?_)) | (refine r_arith rfl rfl rfl rfl rfl rfl rfl (by omega) ?_) | (with_reducible refine r_seq ?_) | (with_reducible refine x_then ?_) | (with_reducible refine r_region ?_) | (with_reducible refine r_skip ?_) | (with_reducible refine r_ret ?_) | (with_reducible refine x_then_ret ?_) | (with_reducible refine r_block ?_) | (with_reducible refine x_block ?_) | (with_reducible refine x_block_ret ?_) | (with_reducible refine r_exit ?_) | (with_reducible refine x_then_exit ?_) | (with_reducible refine x_block_here ?_) | (refine x_block_past rfl ?_) | (refine c_yes rfl (by omega) ?_) | (refine c_no rfl (by omega) ?_) | (refine c_no rfl (fun h => h rfl) ?_) | (refine r_cond_false rfl ?_) | (refine r_cond_true rfl ?_) | (refine r_cond_dec rfl (fun _ => ?_) (fun _ => ?_)) | (refine r_cond_true rfl ?_) | (refine r_cond_false rfl ?_) | (refine c_not rfl (fun _ => ?_) (fun _ => ?_)) | (refine r_off rfl rfl rfl ?_) | (refine q_guard rfl rfl (fun _ => ?_) (fun _ => ?_)) | (refine q_guardn rfl rfl (fun _ => ?_) (fun _ => ?_)) | (refine s_nil ?_) | (with_reducible refine a_full ?_) | (refine m_step rfl rfl (List.cons_ne_nil _ _) ?_) | (refine allR_cons rfl ?_ ?_) | (exact allR_nil) | (refine m_end rfl rfl rfl ?_))
  obtain ⟨k1, k2⟩ := hG6 u4 (l5.trans (le_frsh (Le.refl u5) hb14)) (hof5.2 _ (List.mem_of_getElem? hix))
  obtain ⟨k3, k4⟩ := hkp hb14 hG6
  have l47 : Le u4 u7 := fun x o hx => by
    rw [hu7 x (fun e => by subst e; rw [hof5.1 _ rfl] at hx; cases hx)]; exact k1 x o hx
  have hab : blk A6 ≠ some b := fun e => by
    have h0 := k4 b e
    obtain ⟨arr, ta, fr, q1, q2⟩ := hatp
    rw [h0] at q1; cases q1
  have hl5 : hs5.length = N0 := by rw [hO5.rows.len, hlR]
  have hO7' : Own u7 (some ⟨b, off, none⟩) (rg N0).length c5 59 1 ((hs5.set (N0 - 1) ⟨A6, 2, c6⟩).flatMap Hd.v) := by
    rw [← set_flat Hd.v_len hs5 _ (by rw [hl5]; omega)]; exact hO7
  have hy7 : Own u7 A6 2 c6 61 8 (mkT.flatMap Pr.c) := by
    rw [← rgT_last hm0.1, List.flatMap_append]
    exact hO6.le fun x o hx ho => by rw [hu7 x (fun e => hab (by rw [hx, e]))]; exact ho
  have hT27 : Tabs u7 (some ⟨b, off, none⟩) (rg N0).length (rgm N0) := by
    rw [← rgm_set hm0.1]
    refine hO5.put (y := ⟨A6, 2, c6⟩) hO7' hy7 rfl fun j x hj hx b' o hb' ho => ?_
    have h1 := hap j x b' hx hb'
    have h2 := k3 b' o (hpw b' o (fun e => hj (h1.2 (N0 - 1) _ hix e)) ho)
    rw [hu7 b' (fun e => h1.1 (by rw [e]; rfl))]; exact h2
  have hT17 := hT14.le l47
  have h107 := h104.le l47
  have hlM : (rgm N0).length = N0 := rgm_len hm0.1
  have hpa := implApart (taV 0) (taV 0) (rg N0) (rgm N0) _ _ _ y1.1.2 _ c5 u7 hT17 hT27
  rw [ring_apart hm0] at hpa
  have hapl : (List.replicate (N0 - 1) (inV 1) ++ [inV 2]).length = N0 := by simp; omega
  have hapg : ∀ i, i < N0 → (List.replicate (N0 - 1) (inV 1) ++ [inV 2])[i]? = some (if i = N0 - 1 then inV 2 else inV 1) := fun i hi => by
    by_cases e : i = N0 - 1
    · rw [if_pos e, List.getElem?_append_right (by simp; omega)]; subst e; simp
    · rw [if_neg e, List.getElem?_append_left (by simp; omega), List.getElem?_replicate, if_pos (by omega)]
  generalize List.replicate (N0 - 1) (inV 1) ++ [inV 2] = ap at *
  repeat' (first | (refine r_pure hT rfl rfl rfl rfl ?_) | (refine r_new hT rfl rfl rfl rfl ?_) | (refine r_write hT rfl rfl rfl ?_) | (refine r_nil ?_) | (refine q_nil ?_) | (refine r_call hpa rfl rfl rfl rfl rfl (hC _ rfl) rfl rfl (fun y8 u8 hy8 => ?_)) | (refine r_arith rfl rfl rfl rfl rfl rfl rfl (by omega) ?_) | (with_reducible refine r_seq ?_) | (with_reducible refine x_then ?_) | (with_reducible refine r_region ?_) | (with_reducible refine r_skip ?_) | (with_reducible refine r_ret ?_) | (with_reducible refine x_then_ret ?_) | (with_reducible refine r_block ?_) | (with_reducible refine x_block ?_) | (with_reducible refine x_block_ret ?_) | (with_reducible refine r_exit ?_) | (with_reducible refine x_then_exit ?_) | (with_reducible refine x_block_here ?_) | (refine x_block_past rfl ?_) | (refine c_yes rfl (by omega) ?_) | (refine c_no rfl (by omega) ?_) | (refine c_no rfl (fun h => h rfl) ?_) | (refine r_cond_false rfl ?_) | (refine r_cond_true rfl ?_) | (refine r_cond_dec rfl (fun _ => ?_) (fun _ => ?_)) | (refine r_cond_true rfl ?_) | (refine r_cond_false rfl ?_) | (refine c_not rfl (fun _ => ?_) (fun _ => ?_)) | (refine r_off rfl rfl rfl ?_) | (refine q_guard rfl rfl (fun _ => ?_) (fun _ => ?_)) | (refine q_guardn rfl rfl (fun _ => ?_) (fun _ => ?_)))
  obtain ⟨hO8, l8, _⟩ := hy8
  have hT18 := hT17.le l8
  have hT28 := hT27.le l8
  have h108 := h107.le l8
  have hsn := implSame (taV 0) (taV 0) (rg N0) (rgm N0) _ _ _ y1.1.2 _ c5 u8 hT18 hT28 rR (rgm_ok hm0.1 hm0.2).2 h108
  rw [ring_other hm0] at hsn
  repeat' (first | (refine r_pure hT rfl rfl rfl rfl ?_) | (refine r_new hT rfl rfl rfl rfl ?_) | (refine r_write hT rfl rfl rfl ?_) | (refine r_nil ?_) | (refine q_nil ?_) | (refine r_call hsn rfl rfl rfl rfl rfl (hC _ rfl) rfl rfl (fun y9 u9 hy9 => ?_)) | (refine r_arith rfl rfl rfl rfl rfl rfl rfl (by omega) ?_) | (with_reducible refine r_seq ?_) | (with_reducible refine x_then ?_) | (with_reducible refine r_region ?_) | (with_reducible refine r_skip ?_) | (with_reducible refine r_ret ?_) | (with_reducible refine x_then_ret ?_) | (with_reducible refine r_block ?_) | (with_reducible refine x_block ?_) | (with_reducible refine x_block_ret ?_) | (with_reducible refine r_exit ?_) | (with_reducible refine x_then_exit ?_) | (with_reducible refine x_block_here ?_) | (refine x_block_past rfl ?_) | (refine c_yes rfl (by omega) ?_) | (refine c_no rfl (by omega) ?_) | (refine c_no rfl (fun h => h rfl) ?_) | (refine r_cond_false rfl ?_) | (refine r_cond_true rfl ?_) | (refine r_cond_dec rfl (fun _ => ?_) (fun _ => ?_)) | (refine r_cond_true rfl ?_) | (refine r_cond_false rfl ?_) | (refine c_not rfl (fun _ => ?_) (fun _ => ?_)) | (refine r_off rfl rfl rfl ?_))
  obtain ⟨hy9, l9⟩ := hy9
  subst hy9
  have hT29 := hT28.le l9
  have h109 := h108.le l9
  have hs9 := implShrink (taV 0) (rgm N0) _ _ c5 u9 hT29 (rgm_ok hm0.1 hm0.2).2 h109
  rw [k_rgm hm0] at hs9
  repeat' (first | (refine r_pure hT rfl rfl rfl rfl ?_) | (refine r_new hT rfl rfl rfl rfl ?_) | (refine r_write hT rfl rfl rfl ?_) | (refine r_nil ?_) | (refine q_nil ?_) | (refine q_guard rfl rfl (fun hx => absurd (by omega) hx) (fun _ => ?_)) | (refine q_guardn rfl rfl (fun hx => absurd (by omega) hx) (fun _ => ?_)) | (refine r_field hT rfl rfl rfl rfl rfl f51 rfl rfl ?_) | (refine r_call hs9 rfl rfl rfl rfl rfl (hC _ rfl) rfl rfl (fun y10 u10 hy10 => ?_)) | (refine r_arith rfl rfl rfl rfl rfl rfl rfl (by omega) ?_) | (with_reducible refine r_seq ?_) | (with_reducible refine x_then ?_) | (with_reducible refine r_region ?_) | (with_reducible refine r_skip ?_) | (with_reducible refine r_ret ?_) | (with_reducible refine x_then_ret ?_) | (with_reducible refine r_block ?_) | (with_reducible refine x_block ?_) | (with_reducible refine x_block_ret ?_) | (with_reducible refine r_exit ?_) | (with_reducible refine x_then_exit ?_) | (with_reducible refine x_block_here ?_) | (refine x_block_past rfl ?_) | (refine c_yes rfl (by omega) ?_) | (refine c_no rfl (by omega) ?_) | (refine c_no rfl (fun h => h rfl) ?_) | (refine r_cond_false rfl ?_) | (refine r_cond_true rfl ?_) | (refine r_cond_dec rfl (fun _ => ?_) (fun _ => ?_)) | (refine r_cond_true rfl ?_) | (refine r_cond_false rfl ?_) | (refine c_not rfl (fun _ => ?_) (fun _ => ?_)) | (refine r_off rfl rfl rfl ?_))
  obtain ⟨hO10, l10, _⟩ := hy10
  have hR10 : Rd V.c 4 u10 y8.1 ap.length ap := ⟨rfl, (hO8.le fun x o _ ho => l10 x o (l9 x o ho)).sl⟩
  have lall : Le h u10 := (((((l1.trans l24).trans l47).trans l8).trans l9).trans l10)
  have heq : ∀ (v : V) (w : World), (Op.equalIn Op.maxDepth 48 (.agg v.c.toArray) (.agg v.c.toArray)).run Tryd.prog w = .ok true w := fun v w => by
    have := eq48 9998 w v v
    rw [decide_eq_true rfl] at this; exact this
  have he1 : ∀ w : World, (Op.equalIn Op.maxDepth 48 (.agg [.int .i64 2, .int .i64 1, .string ⟨⟨[]⟩⟩, .int .i64 0].toArray) (.agg [.int .i64 2, .int .i64 1, .string ⟨⟨[]⟩⟩, .int .i64 0].toArray)).run Tryd.prog w = .ok true w := heq (inV 1)
  have he2 : ∀ w : World, (Op.equalIn Op.maxDepth 48 (.agg [.int .i64 2, .int .i64 2, .string ⟨⟨[]⟩⟩, .int .i64 0].toArray) (.agg [.int .i64 2, .int .i64 2, .string ⟨⟨[]⟩⟩, .int .i64 0].toArray)).run Tryd.prog w = .ok true w := heq (inV 2)
  obtain ⟨y8A, y8c⟩ := y8
  dsimp only at *
  repeat' (first | (refine r_pure hT rfl rfl rfl rfl ?_) | (refine r_new hT rfl rfl rfl rfl ?_) | (refine r_write hT rfl rfl rfl ?_) | (refine r_nil ?_) | (refine q_nil ?_) | (refine r_field hT rfl rfl rfl rfl rfl f51 rfl rfl ?_) | (refine c_no rfl (fun hx => absurd (by omega) hx) ?_) | (refine r_arith rfl rfl rfl rfl rfl rfl rfl (by omega) ?_) | (with_reducible refine r_seq ?_) | (with_reducible refine x_then ?_) | (with_reducible refine r_region ?_) | (with_reducible refine r_skip ?_) | (with_reducible refine r_ret ?_) | (with_reducible refine x_then_ret ?_) | (with_reducible refine r_block ?_) | (with_reducible refine x_block ?_) | (with_reducible refine x_block_ret ?_) | (with_reducible refine r_exit ?_) | (with_reducible refine x_then_exit ?_) | (with_reducible refine x_block_here ?_) | (refine x_block_past rfl ?_) | (refine c_yes rfl (by omega) ?_) | (refine c_no rfl (by omega) ?_) | (refine c_no rfl (fun h => h rfl) ?_) | (refine r_cond_false rfl ?_) | (refine r_cond_true rfl ?_) | (refine r_cond_true rfl ?_) | (refine r_cond_false rfl ?_) | (refine r_off rfl rfl rfl ?_))
  refine r_loop (γ := Nat) (fun i => i ≤ ap.length) (fun i => [(3, .v (.int .i64 (N0 : Int))), (7, .p 7 0), (77, .v (.slice y8A ap.length y8c)), (78, .v (.int .i64 (ap.length : Int))), (79, .v (.int .i64 (i : Int)))]) (fun _ => [(7, ⟨none, [.v (.int .i64 2), .v (.int .i64 2), .v (.string ⟨⟨[]⟩⟩), .v (.int .i64 0)], 48⟩)]) (fun _ => u10) (fun i => ap.length - i)
    0 (Nat.zero_le _) (into rfl ⟨rfl, rfl, rfl, rfl, rfl, trivial⟩ ⟨rfl, trivial⟩ rfl rfl) ?_
  intro i hi
  by_cases hlt : i < ap.length
  · obtain ⟨b8, off8, v, e8, _, hix8, _, hat8⟩ := hR10.elem V.c_len (i := i) hlt
    have hv := hapg i (by omega)
    rw [hix8] at hv
    have hv := Option.some.inj hv
    subst e8
    by_cases he : i = N0 - 1
    · rw [if_pos he] at hv
      subst hv
      repeat' (first | (refine r_pure hT rfl rfl rfl rfl ?_) | (refine r_new hT rfl rfl rfl rfl ?_) | (refine r_write hT rfl rfl rfl ?_) | (refine r_nil ?_) | (refine q_nil ?_) | (refine r_indexN hT rfl rfl rfl rfl rfl rfl rfl rfl rfl hlt ?_) | (refine r_load hT hat8 rfl rfl rfl rfl rfl (Nat.add_zero _).symm rfl rfl rfl rfl rfl ?_) | (refine r_subN (p := N0) (q := 1) rfl rfl rfl rfl rfl rfl (by omega) ?_) | (refine r_build hT rfl rfl rfl (t := 48) (ps := [(0, .const (.int .i64 2)), (1, .const (.int .i64 1))]) rfl rfl rfl rfl rfl rfl ?_) | (refine r_eqs he2 (by kernel_rfl) (.inr rfl) rfl rfl rfl rfl rfl rfl rfl rfl ?_) | (refine r_arith rfl rfl rfl rfl rfl rfl rfl (by omega) ?_) | (with_reducible refine r_seq ?_) | (with_reducible refine x_then ?_) | (with_reducible refine r_region ?_) | (refine r_draw hM (by kernel_rfl) ?_) | (with_reducible refine r_skip ?_) | (with_reducible refine r_ret ?_) | (with_reducible refine x_then_ret ?_) | (with_reducible refine r_block ?_) | (with_reducible refine x_block ?_) | (with_reducible refine x_block_ret ?_) | (with_reducible refine r_exit ?_) | (with_reducible refine x_then_exit ?_) | (with_reducible refine x_block_here ?_) | (refine x_block_past rfl ?_) | (refine c_yes rfl (by omega) ?_) | (refine c_no rfl (by omega) ?_) | (refine c_no rfl (fun h => h rfl) ?_) | (refine r_cond_false rfl ?_) | (refine r_cond_true rfl ?_) | (refine r_cond_true rfl ?_) | (refine r_cond_false rfl ?_) | (refine r_off rfl rfl rfl ?_) | (refine q_guard rfl rfl (fun _ => ?_) (fun _ => ?_)) | (refine q_guardn rfl rfl (fun _ => ?_) (fun _ => ?_)))
      exact x_round (i + 1) hlt (by omega) (into rfl ⟨rfl, rfl, rfl, rfl, rfl, trivial⟩ ⟨rfl, trivial⟩ rfl rfl)
    · rw [if_neg he] at hv
      subst hv
      repeat' (first | (refine r_pure hT rfl rfl rfl rfl ?_) | (refine r_new hT rfl rfl rfl rfl ?_) | (refine r_write hT rfl rfl rfl ?_) | (refine r_nil ?_) | (refine q_nil ?_) | (refine r_indexN hT rfl rfl rfl rfl rfl rfl rfl rfl rfl hlt ?_) | (refine r_load hT hat8 rfl rfl rfl rfl rfl (Nat.add_zero _).symm rfl rfl rfl rfl rfl ?_) | (refine r_subN (p := N0) (q := 1) rfl rfl rfl rfl rfl rfl (by omega) ?_) | (refine r_build hT rfl rfl rfl (t := 48) (ps := [(0, .const (.int .i64 2)), (1, .const (.int .i64 1))]) rfl rfl rfl rfl rfl rfl ?_) | (refine r_eqs he1 (by kernel_rfl) (.inr rfl) rfl rfl rfl rfl rfl rfl rfl rfl ?_) | (refine r_arith rfl rfl rfl rfl rfl rfl rfl (by omega) ?_) | (with_reducible refine r_seq ?_) | (with_reducible refine x_then ?_) | (with_reducible refine r_region ?_) | (refine r_draw hM (by kernel_rfl) ?_) | (with_reducible refine r_skip ?_) | (with_reducible refine r_ret ?_) | (with_reducible refine x_then_ret ?_) | (with_reducible refine r_block ?_) | (with_reducible refine x_block ?_) | (with_reducible refine x_block_ret ?_) | (with_reducible refine r_exit ?_) | (with_reducible refine x_then_exit ?_) | (with_reducible refine x_block_here ?_) | (refine x_block_past rfl ?_) | (refine c_yes rfl (by omega) ?_) | (refine c_no rfl (by omega) ?_) | (refine c_no rfl (fun h => h rfl) ?_) | (refine r_cond_false rfl ?_) | (refine r_cond_true rfl ?_) | (refine r_cond_true rfl ?_) | (refine r_cond_false rfl ?_) | (refine r_off rfl rfl rfl ?_) | (refine q_guard rfl rfl (fun _ => ?_) (fun _ => ?_)) | (refine q_guardn rfl rfl (fun _ => ?_) (fun _ => ?_)))
      exact x_round (i + 1) hlt (by omega) (into rfl ⟨rfl, rfl, rfl, rfl, rfl, trivial⟩ ⟨rfl, trivial⟩ rfl rfl)
  · obtain rfl : i = ap.length := by omega
    repeat' (first | (refine r_pure hT rfl rfl rfl rfl ?_) | (refine r_new hT rfl rfl rfl rfl ?_) | (refine r_write hT rfl rfl rfl ?_) | (refine r_nil ?_) | (refine q_nil ?_) | (refine r_arith rfl rfl rfl rfl rfl rfl rfl (by omega) ?_) | (with_reducible refine r_seq ?_) | (with_reducible refine x_then ?_) | (with_reducible refine r_region ?_) | (with_reducible refine r_skip ?_) | (with_reducible refine r_ret ?_) | (with_reducible refine x_then_ret ?_) | (with_reducible refine r_block ?_) | (with_reducible refine x_block ?_) | (with_reducible refine x_block_ret ?_) | (with_reducible refine r_exit ?_) | (with_reducible refine x_then_exit ?_) | (with_reducible refine x_block_here ?_) | (refine x_block_past rfl ?_) | (refine c_yes rfl (by omega) ?_) | (refine c_no rfl (by omega) ?_) | (refine c_no rfl (fun h => h rfl) ?_) | (refine r_cond_false rfl ?_) | (refine r_cond_true rfl ?_) | (refine r_cond_true rfl ?_) | (refine r_cond_false rfl ?_) | (refine r_off rfl rfl rfl ?_) | (refine q_guard rfl rfl (fun _ => ?_) (fun _ => ?_)) | (refine q_guardn rfl rfl (fun _ => ?_) (fun _ => ?_)))
    exact r_fin hT rfl true rfl rfl rfl trivial rfl ⟨rfl, lall⟩
end Go.Proofs.YtkamfnmbidnhdaaDoor
/- A graph that is an argument. Over any program; no condition. -/
namespace Go.Sy
def V.okW (v : V) : Prop := (Lit.int .i64 v.k).wf = true ∧ (Lit.int .i64 v.n).wf = true ∧ v.s.size ≤ maxLen ∧ (Lit.int .i64 v.a).wf = true
def Pr.okW (p : Pr) : Prop := p.key.okW ∧ p.val.okW
theorem V.okW.s {v : V} (h : v.okW) : v.okS := by have := h.2.2.1; simp only [maxLen] at this; exact this
theorem Pr.okW.s {p : Pr} (h : p.okW) : p.okS := ⟨h.1.s, h.2.s⟩
def kV : Hp → V → List Value → Prop := fun _ v cs => cs = v.c ∧ v.okW
section
variable {P : Program} {t e : TypeId}
theorem flat_of {α : Type} {c : α → List Value} : ∀ {ds : List (List Value)} {l : List α}, ds.length = l.length → (∀ (i : Nat) d y, ds[i]? = some d → l[i]? = some y → d = c y) → ds.flatten = l.flatMap c
  | [], [], _, _ => rfl
  | d :: r, y :: l, hl, h => by
    rw [List.flatten_cons, List.flatMap_cons, h 0 d y rfl rfl, flat_of (by simpa using hl) (fun i d' y' hd hy => h (i + 1) d' y' (by simpa using hd) (by simpa using hy))]
  | [], _ :: _, h, _ => by simp at h
  | _ :: _, [], h, _ => by simp at h
theorem all_of {α : Type} {p : α → Prop} {ds : List (List Value)} {l : List α} (hl : ds.length = l.length) (h : ∀ (i : Nat) d y, ds[i]? = some d → l[i]? = some y → p y) : ∀ y ∈ l, p y := fun y hy => by
  obtain ⟨i, hi, e⟩ := List.getElem_of_mem hy
  have h2 : i < ds.length := by omega
  exact h i ds[i] y (List.getElem?_eq_getElem h2) (by rw [List.getElem?_eq_getElem hi, e])
end
end Go.Sy
/- What the arguments of the laws of this seat are. No condition. -/
namespace Go.Sy
end Go.Sy
namespace Go.Proofs.YtkamfnmbidnhdaaDoor
open Go.Sy
set_option maxRecDepth 100000
end Go.Proofs.YtkamfnmbidnhdaaDoor
/- Rows of bytes as arguments of the laws of this seat. No condition. -/
namespace Go.Sy
def kBs : Hp → List Int → List Value → Prop := fun u l cs => ∃ A c, cs = [.slice A l.length c] ∧ l.length ≤ c ∧ l.length ≤ maxLen ∧ Bys u A l.length l ∧ ∀ x ∈ l, 0 ≤ x ∧ x ≤ 255
theorem kBs_of {u : Hp} {l : List Int} {cs : List Value} (h : kSl 1 (kInt .u8) u l cs) : kBs u l cs := by
  obtain ⟨A, c, ds, rfl, h1, h2, h3, _, h5, h6⟩ := h
  refine ⟨A, c, rfl, h1, h2, ⟨rfl, ?_⟩, all_of h3 (fun i d y hd hy => by
    have := (h5 i d y hd hy).2
    simp [Lit.wf, IntKind.min, IntKind.max, IntKind.bits, IntKind.signed] at this
    omega)⟩
  rw [← flat_of (c := Bc) h3 (fun i d y hd hy => (h5 i d y hd hy).1)]; exact h6
end Go.Sy
namespace Go.Proofs.YtkamfnmbidnhdaaDoor
open Go.Sy
set_option maxRecDepth 100000
theorem ob5 : Opn Tryd.prog 5 1 (kInt .u8) := opn_int Tryd.underlying5 (by kernel_rfl)
theorem ob22 : Opn Tryd.prog 22 1 kBs := Opn.imp id (opn_slice Tryd.underlying22 (by kernel_rfl) (by decide) ob5) (fun _ _ _ h => kBs_of h)
end Go.Proofs.YtkamfnmbidnhdaaDoor
/- The listed variable of the Sort laws; a start that meets the condition. -/
namespace Go.Proofs.YtkamfnmbidnhdaaDoor
open Go.Sy Go.ChangeShapes Go.WideShapes Go.ChangeAt Go.RowKit Go.Stop
theorem own : ownKnob Tryd.prog.godebug = none := by kernel_rfl
theorem laidOut : laidOutB Tryd.prog = true := by kernel_rfl
end Go.Proofs.YtkamfnmbidnhdaaDoor
/- The listed tables of the laws that print numbers; a start that meets the condition. -/
namespace Go.Proofs.YtkamfnmbidnhdaaDoor
open Go.Sy Go.ChangeShapes Go.WideShapes Go.ChangeAt Go.RowKit Go.Stop
theorem laidVars_third {P : Program} {W : World} {x0 x1 : String × DataW Unit} {name : String} {k : IntKind} {zs : List Int} {rest : List (String × DataW Unit)} {g : Nat} {t e : TypeId} {n : Nat}
    (hg : P.globalNamed name = some g) (hty : (P.globals[g]?).map (·.type) = some t) (ht : P.underlying t = some (.array n e)) (he : P.underlying e = some (.int k)) (hce : P.cellsOf e = 1) (hct : P.cellsOf t = n)
    (h : laidMet P (x0 :: x1 :: (name, Lib.tabData k zs) :: rest) W) : Lib.TabIs P W name k zs := by
  obtain ⟨ps, ⟨_, _, _, _, _, _, _, _, _, _, ⟨_, _, _, _, _, _, _, _, _, _, ⟨g', t', cs, fuel, p, q, hg', ht', hvar, hd, _, _⟩, _⟩, _⟩, _⟩ := h
  obtain rfl := Option.some.inj (hg.symm.trans hg')
  obtain rfl := Option.some.inj (hty.symm.trans ht')
  unfold Lib.TabIs
  rw [hvar, ← Lib.cells_of_tab ht he hce hct hd]
abbrev laid3 : List (String × DataW Unit) := [("math/bits.deBruijn32tab", Rows.laid_math_bits_deBruijn32tab), ("math/bits.deBruijn64tab", Rows.laid_math_bits_deBruijn64tab), ("internal/strconv.uint64pow10", Rows.laid_internal_strconv_uint64pow10)]
theorem laid_pow10 : (Rows.laid_internal_strconv_uint64pow10 : DataW Unit) = Lib.tabData .u64 Lib.pow10Tab := by kernel_rfl
theorem tab_hp {W : World} (h : Lib.TabIs Tryd.prog W "internal/strconv.uint64pow10" .u64 Lib.pow10Tab) : Tab10 (hpOf W) := by
  intro w hw
  unfold Lib.TabIs World.var? at h ⊢
  cases hg : Tryd.prog.globalNamed "internal/strconv.uint64pow10" with
  | none => rw [hg] at h; cases h
  | some g =>
    rw [hg] at h
    simp only [Option.bind_some] at h ⊢
    cases hh : W.heap[g]? with
    | none => rw [hh] at h; cases h
    | some o => rw [hh] at h; rw [hw g o hh]; exact h
set_option maxRecDepth 100000 in
theorem of_laid3 {W : World} (h : laidMetH Tryd.prog laid3 W) : Tab10 (hpOf W) := by
  rw [MakeChecks.laidMetH_plain _ _ _ (by kernel_rfl)] at h
  unfold laid3 at h
  rw [laid_pow10] at h
  exact tab_hp (laidVars_third (g := 2) (t := 217) (e := 120) (n := 20) (by kernel_rfl) (by kernel_rfl) Tryd.underlying217 Tryd.underlying120 (by kernel_rfl) (by kernel_rfl) h)
theorem door_met3 (os : Os) (args : Array Value) : laidMetH Tryd.prog laid3 ((World.doorLaid Tryd.prog 400 os).forCall (fun _ _ => 0) ⟨#[], args, []⟩).memory :=
  laidMetH_of_parts3 (fuel := 8) (laidMet_of_run' 8 (by kernel_rfl) (by kernel_rfl)) (by kernel_rfl) (by kernel_rfl)
end Go.Proofs.YtkamfnmbidnhdaaDoor
