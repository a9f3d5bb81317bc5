/- The walk by a symbolic frame (SqBA): contracts of functions; each with its own conditions as hypotheses. -/
import Derived.Test.YtkamfnmbidnhdaaDoorSqAZ
import Derived.Test.YtkamfnmbidnhdaaDoorSqAV
import Derived.Test.YtkamfnmbidnhdaaDoorSqAI
set_option linter.unusedVariables false
set_option linter.unusedSimpArgs false
set_option linter.unusedSectionVars false
namespace Go.Proofs.YtkamfnmbidnhdaaDoor
open Go.Sy
set_option maxRecDepth 100000
set_option maxHeartbeats 4000000
set_option linter.unusedVariables false
set_option linter.unusedSimpArgs false
abbrev OY := (Option Addr × Nat) × List Hd
theorem implCanon (v : V) (ts : List (List Pr)) (A : Option Addr) (n c : Nat) (h : Hp) (hP : Tabs h A n ts) :
    TriS Tryd.prog 68 [.ag (gsv v A n c)] [] h (fun y : OY => .ag (gsv (cV v ts) y.1.1 (cT v ts).length y.1.2)) (fun _ => []) (fun y h' => OT h' 59 61 y.1.1 (cT v ts).length y.1.2 y.2 (cT v ts) ∧ Le h h' ∧ OffAll h y.1.1 y.2) := by
  obtain rfl := hP.len
  refine enterS Tryd.func68 rfl (n := 18) rfl rfl (fun k N => ?_)
  by_cases hg : GOk v ts
  · obtain ⟨h1, h2, h3, h4⟩ := gok_in hg
    have e1 : cV v ts = ren (ordOf ts v) v := if_pos hg
    have e2 : cT v ts = cTs ts (ordOf ts v) := if_pos hg
    have e3 : (cTs ts (ordOf ts v)).length = (ordOf ts v).length := by simp [cTs]
    rw [e1, e2, e3]
    repeat' (first | (refine r_pure hT rfl rfl rfl rfl ?_) | (refine r_new hT rfl rfl rfl rfl ?_) | (refine r_write hT rfl rfl rfl ?_) | (refine r_nil ?_) | (refine q_nil ?_) | ((refine r_call (implOk v ts A ts.length c _ hP) rfl rfl rfl rfl rfl (hC _ rfl) rfl rfl (fun y u1 hy => ?_) ; obtain ⟨hy1, hle1⟩ := hy ; subst hy1)) | (refine c_not rfl (fun hx => absurd hg hx) (fun _ => ?_)) | (refine r_mkmap rfl rfl rfl rfl (fun g hg0 => ?_)) | (refine r_arith rfl rfl rfl rfl rfl rfl rfl (by omega) ?_) | (with_reducible refine r_seq ?_) | (with_reducible refine x_then ?_) | (with_reducible refine r_region ?_) | (refine r_draw hM (by kernel_rfl) ?_) | (with_reducible refine r_skip ?_) | (with_reducible refine r_ret ?_) | (with_reducible refine x_then_ret ?_) | (with_reducible refine r_block ?_) | (with_reducible refine x_block ?_) | (with_reducible refine x_block_ret ?_) | (with_reducible refine r_exit ?_) | (with_reducible refine x_then_exit ?_) | (with_reducible refine x_block_here ?_) | (refine x_block_past rfl ?_) | (refine c_yes rfl (by omega) ?_) | (refine c_no rfl (by omega) ?_) | (refine c_no rfl (fun h => h rfl) ?_) | (refine r_cond_false rfl ?_) | (refine r_cond_true rfl ?_) | (refine r_cond_dec rfl (fun _ => ?_) (fun _ => ?_)) | (refine r_cond_true rfl ?_) | (refine r_cond_false rfl ?_) | (refine c_not rfl (fun _ => ?_) (fun _ => ?_)) | (refine r_off rfl rfl rfl ?_) | (refine q_guard rfl rfl (fun _ => ?_) (fun _ => ?_)) | (refine q_guardn rfl rfl (fun _ => ?_) (fun _ => ?_)))
    refine r_pub 3 (fun _ => [Value.map (some g)]) rfl rfl (fun _ => rfl) (fun p3 hp3 => ?_)
    refine r_pub 4 (fun _ => gCells V0 none 0 0) rfl rfl (fun _ => rfl) (fun p4 hp4 => ?_)
    refine r_pub 1 (fun _ => gCells v A ts.length c) rfl rfl (fun _ => rfl) (fun p1 hp1 => ?_)
    refine r_pub 5 (fun p5 => [Value.func (.func 108) ⟨[]⟩ ⟨[ptr p3, ptr p4, ptr p1, ptr p5]⟩]) rfl rfl (fun _ => rfl) (fun p5 hp5 => ?_)
    change upd u1 g (.map #[] 0) p3 = none at hp3
    change upd (upd u1 g (.map #[] 0)) p3 (.cells [Value.map (some g)].toArray 90 (0, 0)) p4 = none at hp4
    change upd (upd (upd u1 g (.map #[] 0)) p3 (.cells [Value.map (some g)].toArray 90 (0, 0))) p4 (.cells (gCells V0 none 0 0).toArray 51 (0, 0)) p1 = none at hp1
    change upd (upd (upd (upd u1 g (.map #[] 0)) p3 (.cells [Value.map (some g)].toArray 90 (0, 0))) p4 (.cells (gCells V0 none 0 0).toArray 51 (0, 0))) p1 (.cells (gCells v A ts.length c).toArray 51 (0, 0)) p5 = none at hp5
    have n3 := up_none hp3
    have n4 := up_none hp4
    have n4b := up_none n4.2
    have n1 := up_none hp1
    have n1b := up_none n1.2
    have n1c := up_none n1b.2
    have n5 := up_none hp5
    have n5b := up_none n5.2
    have n5c := up_none n5b.2
    have n5d := up_none n5c.2
    have hle0 : Le u1 (upd (upd (upd u1 p3 (.cells [Value.map (some g)].toArray 90 (0, 0))) p1 (.cells (gCells v A ts.length c).toArray 51 (0, 0))) p5 (.cells [Value.func (.func 108) ⟨[]⟩ ⟨[ptr p3, ptr p4, ptr p1, ptr p5]⟩].toArray 103 (0, 0))) :=
      (((Le.refl u1).upd n3.2).upd n1c.2).upd n5d.2
    have hC0 : CSt (upd (upd (upd u1 p3 (.cells [Value.map (some g)].toArray 90 (0, 0))) p1 (.cells (gCells v A ts.length c).toArray 51 (0, 0))) p5 (.cells [Value.func (.func 108) ⟨[]⟩ ⟨[ptr p3, ptr p4, ptr p1, ptr p5]⟩].toArray 103 (0, 0)))
        (upd (upd (upd (upd (upd u1 g (.map #[] 0)) p3 (.cells [Value.map (some g)].toArray 90 (0, 0))) p4 (.cells (gCells V0 none 0 0).toArray 51 (0, 0))) p1 (.cells (gCells v A ts.length c).toArray 51 (0, 0))) p5 (.cells [Value.func (.func 108) ⟨[]⟩ ⟨[ptr p3, ptr p4, ptr p1, ptr p5]⟩].toArray 103 (0, 0)))
        p3 p4 p1 p5 g v A c ts [] none 0 [] [] [] := by
      refine ⟨(MAt.made Tryd.prog iKey u1 g).same ?_, fun a => ⟨by simp [mhas], fun hx => by cases hx⟩, ?_, ⟨rfl, own_nil, ORows.nil⟩, fun b o hb => ?_, fun b hb => ?_, ?_, ?_, upd_here .., ⟨Ne.symm n4b.1, fun hx => ?_, fun hx => ?_⟩, hP.le (hle1.trans hle0)⟩
      · rw [upd_ne (Ne.symm n5d.1), upd_ne (Ne.symm n1c.1), upd_ne (Ne.symm n4b.1), upd_ne (Ne.symm n3.1)]
      · rw [upd_ne (Ne.symm n5b.1), upd_ne (Ne.symm n1.1), upd_here]; rfl
      · by_cases b5 : b = p5
        · subst b5; rw [upd_here] at hb ⊢; exact hb
        rw [upd_ne b5] at hb ⊢
        by_cases b1 : b = p1
        · subst b1; rw [upd_here] at hb ⊢; exact hb
        rw [upd_ne b1] at hb ⊢
        by_cases b3 : b = p3
        · subst b3; rw [upd_here] at hb; rw [upd_ne (Ne.symm n4.1), upd_here]; exact hb
        rw [upd_ne b3] at hb
        rw [upd_ne (fun e => by subst e; rw [n4b.2] at hb; cases hb), upd_ne b3, upd_ne (fun e => by subst e; rw [hg0] at hb; cases hb)]; exact hb
      · rcases hb with rfl | rfl | hb
        · rw [upd_ne (Ne.symm n5d.1), upd_ne (Ne.symm n1c.1), upd_ne (Ne.symm n3.1)]; exact hg0
        · rw [upd_ne (Ne.symm n5b.1), upd_ne (Ne.symm n1.1), upd_ne n4.1]; exact n4b.2
        · rcases hb with hb | ⟨x, hx, _⟩
          · cases hb
          · cases hx
      · rw [upd_ne (Ne.symm n5c.1), upd_ne (Ne.symm n1b.1), upd_here]
      · rw [upd_ne (Ne.symm n5.1), upd_here]
      · rcases hx with hb | ⟨x, hx, _⟩
        · cases hb
        · cases hx
      · rcases hx with hb | ⟨x, hx, _⟩
        · cases hb
        · cases hx
    repeat' (first | (refine r_pure hT rfl rfl rfl rfl ?_) | (refine r_new hT rfl rfl rfl rfl ?_) | (refine r_write hT rfl rfl rfl ?_) | (refine r_nil ?_) | (refine q_nil ?_) | ((refine r_call (numC _ p3 p4 p1 p5 g v A c ts h1 (by omega) (fun t ht => by have := h4 t ht; omega) (ts.length + 1) [] v _ _ [] none 0 [] [] hC0 (nm_nil _) h2 (by simp) rfl) rfl rfl rfl rfl rfl (hC _ rfl) rfl rfl (fun y u6 hy => ?_) ; obtain ⟨hyC, hyK⟩ := hy)) | ((refine r_store hT rfl rfl rfl rfl rfl rfl rfl rfl rfl rfl hyC.out (Nat.le_succ 4) ?_ ; have hat9 : At (upd u6 p4 (.cells (gCells (ren (go ts (ts.length + 1) [] v) v) y.2.1.1 (go ts (ts.length + 1) [] v).length y.2.1.2).toArray 51 (0, 0))) p4 0 (gCells (ren (go ts (ts.length + 1) [] v) v) y.2.1.1 (go ts (ts.length + 1) [] v).length y.2.1.2) := at_of (upd_here ..))) | (refine r_load hT hat9 rfl rfl rfl rfl rfl (Nat.add_zero _).symm rfl rfl rfl rfl rfl ?_) | (refine r_arith rfl rfl rfl rfl rfl rfl rfl (by omega) ?_) | (with_reducible refine r_seq ?_) | (with_reducible refine x_then ?_) | (with_reducible refine r_region ?_) | (refine r_draw hM (by kernel_rfl) ?_) | (with_reducible refine r_skip ?_) | (with_reducible refine r_ret ?_) | (with_reducible refine x_then_ret ?_) | (with_reducible refine r_block ?_) | (with_reducible refine x_block ?_) | (with_reducible refine x_block_ret ?_) | (with_reducible refine r_exit ?_) | (with_reducible refine x_then_exit ?_) | (with_reducible refine x_block_here ?_) | (refine x_block_past rfl ?_) | (refine c_yes rfl (by omega) ?_) | (refine c_no rfl (by omega) ?_) | (refine c_no rfl (fun h => h rfl) ?_) | (refine r_cond_false rfl ?_) | (refine r_cond_true rfl ?_) | (refine r_cond_dec rfl (fun _ => ?_) (fun _ => ?_)) | (refine r_cond_true rfl ?_) | (refine r_cond_false rfl ?_) | (refine c_not rfl (fun _ => ?_) (fun _ => ?_)) | (refine r_off rfl rfl rfl ?_) | (refine q_guard rfl rfl (fun _ => ?_) (fun _ => ?_)) | (refine q_guardn rfl rfl (fun _ => ?_) (fun _ => ?_)))
    rw [List.nil_append, cNew_nil] at hyC
    refine r_fin hT rfl ((y.2.1, y.2.2) : OY) rfl rfl rfl trivial rfl ⟨hyC.ot.keep fun b o hb ho => ?_, fun x o hx => ?_, fun b hb => ?_, fun x hx b hb => ?_⟩
    · rw [upd_ne (fun e => by subst e; exact hyC.ap.2.2 hb)]; exact ho
    · rw [upd_ne (fun e => by subst e; rw [hle1 _ _ hx] at n4b; cases n4b.2)]
      exact hyC.base x o (hle0 x o (hle1 x o hx))
    · have h0n := hyC.off b (.inr (.inr (.inl hb)))
      cases hh : h b with
      | none => rfl
      | some o => rw [hle0 b o (hle1 b o hh)] at h0n; cases h0n
    · have h0n := hyC.off b (.inr (.inr (.inr ⟨x, hx, hb⟩)))
      cases hh : h b with
      | none => rfl
      | some o => rw [hle0 b o (hle1 b o hh)] at h0n; cases h0n
  · have e1 : cV v ts = V0 := if_neg hg
    have e2 : cT v ts = [] := if_neg hg
    rw [e1, e2]
    repeat' (first | (refine r_pure hT rfl rfl rfl rfl ?_) | (refine r_new hT rfl rfl rfl rfl ?_) | (refine r_write hT rfl rfl rfl ?_) | (refine r_nil ?_) | (refine q_nil ?_) | ((refine r_call (implOk v ts A ts.length c _ hP) rfl rfl rfl rfl rfl (hC _ rfl) rfl rfl (fun y u1 hy => ?_) ; obtain ⟨hy1, hle1⟩ := hy ; subst hy1)) | (refine c_not rfl (fun _ => ?_) (fun hx => absurd hx hg)) | (refine r_build hT rfl rfl rfl rfl rfl rfl rfl rfl rfl ?_) | (refine r_arith rfl rfl rfl rfl rfl rfl rfl (by omega) ?_) | (with_reducible refine r_seq ?_) | (with_reducible refine x_then ?_) | (with_reducible refine r_region ?_) | (refine r_draw hM (by kernel_rfl) ?_) | (with_reducible refine r_skip ?_) | (with_reducible refine r_ret ?_) | (with_reducible refine x_then_ret ?_) | (with_reducible refine r_block ?_) | (with_reducible refine x_block ?_) | (with_reducible refine x_block_ret ?_) | (with_reducible refine r_exit ?_) | (with_reducible refine x_then_exit ?_) | (with_reducible refine x_block_here ?_) | (refine x_block_past rfl ?_) | (refine c_yes rfl (by omega) ?_) | (refine c_no rfl (by omega) ?_) | (refine c_no rfl (fun h => h rfl) ?_) | (refine r_cond_false rfl ?_) | (refine r_cond_true rfl ?_) | (refine r_cond_dec rfl (fun _ => ?_) (fun _ => ?_)) | (refine r_cond_true rfl ?_) | (refine r_cond_false rfl ?_) | (refine c_not rfl (fun _ => ?_) (fun _ => ?_)) | (refine r_off rfl rfl rfl ?_) | (refine q_guard rfl rfl (fun _ => ?_) (fun _ => ?_)) | (refine q_guardn rfl rfl (fun _ => ?_) (fun _ => ?_)))
    exact r_fin hT rfl (((none, 0), []) : OY) rfl rfl rfl trivial rfl ⟨⟨rfl, own_nil, ORows.nil⟩, hle1, off_nil, fun x hx => by cases hx⟩
end Go.Proofs.YtkamfnmbidnhdaaDoor
namespace Go.Proofs.YtkamfnmbidnhdaaDoor
open Go.Sy
set_option maxRecDepth 100000
set_option linter.unusedVariables false
def szVf (s : ByteArray) (l : Int) : Int := if l - s.size < 0 then -1 else l - s.size
def szPf (p : Pr) (l : Int) : Int := if szVf p.key.s l < 0 then -1 else if szVf p.val.s (szVf p.key.s l) < 0 then -1 else szVf p.val.s (szVf p.key.s l)
def szPsf : List Pr → Int → Int
  | [], l => l
  | p :: r, l => if szPf p l < 0 then -1 else szPsf r (szPf p l)
theorem szVf_le (s : ByteArray) (l : Int) (h : 0 ≤ l) : -1 ≤ szVf s l ∧ szVf s l ≤ l := by unfold szVf; split <;> omega
theorem szPf_le (p : Pr) (l : Int) (h : 0 ≤ l) : -1 ≤ szPf p l ∧ szPf p l ≤ l := by
  have h1 := szVf_le p.key.s l h
  unfold szPf
  split
  · omega
  · rename_i h2
    have h3 := szVf_le p.val.s (szVf p.key.s l) (by omega)
    split <;> omega
theorem szVal (v : V) (l : Int) (h : Hp) (h0 : 0 ≤ l) (h1 : l ≤ 1048576) (hs : v.s.size ≤ 9223372036854775807) : Pur Tryd.prog 61 [.ag v.sv, .v (.int .i64 l)] h (fun y : Int => .v (.int .i64 y)) (szVf v.s l) := by
  refine enterS Tryd.func61 rfl (n := 13) rfl rfl (fun k N => ?_)
  repeat (any_goals (first | refine r_seq ?_ | refine r_region ?_ | refine r_nil ?_ | refine x_then ?_ | refine r_pure hT rfl rfl rfl rfl ?_ | refine r_new hT rfl rfl rfl rfl ?_ | refine r_write hT rfl rfl rfl ?_ | refine r_ret ?_ | refine x_then_ret ?_ | refine r_skip ?_ | refine r_cond_dec rfl (fun _ => ?_) (fun _ => ?_) | refine r_arith rfl rfl rfl rfl rfl rfl rfl (by omega) ?_ | refine r_fin hT rfl _ rfl rfl rfl trivial rfl ?_))
  · exact ⟨by unfold szVf; rw [if_pos (by assumption)], rfl⟩
  · exact ⟨by unfold szVf; rw [if_neg (by assumption)], rfl⟩
theorem szPair (p : Pr) (l : Int) (h : Hp) (h0 : 0 ≤ l) (h1 : l ≤ 1048576) (hk : p.key.s.size ≤ 9223372036854775807) (hv : p.val.s.size ≤ 9223372036854775807) : Pur Tryd.prog 161 [.ag p.sv, .v (.int .i64 l)] h (fun y : Int => .v (.int .i64 y)) (szPf p l) := by
  have g1 := szVf_le p.key.s l h0
  refine enterS Tryd.func161 rfl (n := 18) rfl rfl (fun k N => ?_)
  repeat (any_goals (first | refine r_seq ?_ | refine r_region ?_ | refine r_nil ?_ | refine x_then ?_ | refine r_pure hT rfl rfl rfl rfl ?_ | refine r_new hT rfl rfl rfl rfl ?_ | refine r_write hT rfl rfl rfl ?_ | refine r_ret ?_ | refine x_then_ret ?_ | refine r_skip ?_ | refine r_cond_dec rfl (fun _ => ?_) (fun _ => ?_) | refine r_arith rfl rfl rfl rfl rfl rfl rfl (by omega) ?_ | refine r_fin hT rfl _ rfl rfl rfl trivial rfl ?_ | (refine r_call (szVal p.key l _ h0 h1 hk) rfl rfl rfl rfl rfl (hC _ rfl) rfl rfl ?_; rintro y u' ⟨rfl, rfl⟩) | (refine r_call (szVal p.val (szVf p.key.s l) _ (by omega) (by omega) hv) rfl rfl rfl rfl rfl (hC _ rfl) rfl rfl ?_; rintro y u' ⟨rfl, rfl⟩)))
  all_goals (refine ⟨?_, rfl⟩; unfold szPf; simp [*])
end Go.Proofs.YtkamfnmbidnhdaaDoor
namespace Go.Proofs.YtkamfnmbidnhdaaDoor
open Go.Sy
set_option maxRecDepth 100000
set_option maxHeartbeats 4000000
set_option linter.unusedVariables false
def szPairsF (ps : List Pr) (l : Int) : Int := if l - ps.length < 0 then -1 else szPsf ps (l - ps.length)
theorem szPairS (ps : List Pr) (A : Option Addr) (n c : Nat) (l : Int) (h : Hp) (hP : Pairs h A n ps) (hok : okPs ps) (h0 : 0 ≤ l) (h1 : l ≤ 1048576) :
    Pur Tryd.prog 134 [.v (.slice A n c), .v (.int .i64 l)] h (fun y : Int => .v (.int .i64 y)) (szPairsF ps l) := by
  obtain ⟨hl, hel⟩ := hok
  have hn := hP.1
  refine enterS Tryd.func134 rfl (n := 27) rfl rfl (fun k N => ?_)
  repeat' (first | (refine r_pure hT rfl rfl rfl rfl ?_) | (refine r_new hT rfl rfl rfl rfl ?_) | (refine r_write hT rfl rfl rfl ?_) | (refine r_nil ?_) | (refine q_nil ?_) | (refine r_arith rfl rfl rfl rfl rfl rfl rfl (by omega) ?_) | (with_reducible refine r_seq ?_) | (with_reducible refine x_then ?_) | (with_reducible refine r_region ?_) | (refine r_draw hM (by kernel_rfl) ?_) | (with_reducible refine r_skip ?_) | (with_reducible refine r_ret ?_) | (with_reducible refine x_then_ret ?_) | (with_reducible refine r_block ?_) | (with_reducible refine x_block ?_) | (with_reducible refine x_block_ret ?_) | (with_reducible refine r_exit ?_) | (with_reducible refine x_then_exit ?_) | (with_reducible refine x_block_here ?_) | (refine x_block_past rfl ?_) | (refine c_yes rfl (by omega) ?_) | (refine c_no rfl (by omega) ?_) | (refine c_no rfl (fun h => h rfl) ?_) | (refine r_cond_false rfl ?_) | (refine r_cond_true rfl ?_) | (refine r_cond_dec rfl (fun _ => ?_) (fun _ => ?_)) | (refine r_cond_true rfl ?_) | (refine r_cond_false rfl ?_) | (refine c_not rfl (fun _ => ?_) (fun _ => ?_)) | (refine r_off rfl rfl rfl ?_) | (refine q_guard rfl rfl (fun _ => ?_) (fun _ => ?_)) | (refine q_guardn rfl rfl (fun _ => ?_) (fun _ => ?_)))
  · exact r_fin hT rfl _ rfl rfl rfl trivial rfl ⟨by unfold szPairsF; rw [if_pos (by omega)], rfl⟩
  refine r_loop (γ := Nat × Int) (fun g => g.1 ≤ ps.length ∧ 0 ≤ g.2 ∧ g.2 ≤ 1048576 ∧ szPsf (ps.drop g.1) g.2 = szPairsF ps l) (fun g => [(0, .v (.slice A n c)), (1, .v (.int .i64 g.2)), (5, .v (.int .i64 g.1))]) (fun _ => []) (fun _ => h) (fun g => ps.length - g.1)
    (0, l - n) ⟨by omega, by omega, by omega, by unfold szPairsF; rw [if_neg (by omega), hn]; rfl⟩ (into rfl ⟨rfl, rfl, rfl, trivial⟩ trivial rfl rfl) ?_
  rintro ⟨i, x⟩ ⟨hi, hx0, hx1, hf⟩
  dsimp only at *
  by_cases hlt : i < ps.length
  · obtain ⟨b, off, p, rfl, hd, hix, hm, hat⟩ := hP.elem Pr.c_len hlt
    have hpk := (hel p hm).1
    have hpv := (hel p hm).2
    have hle := szPf_le p x hx0
    rw [hd] at hf
    repeat' (first | (refine r_pure hT rfl rfl rfl rfl ?_) | (refine r_new hT rfl rfl rfl rfl ?_) | (refine r_write hT rfl rfl rfl ?_) | (refine r_nil ?_) | (refine q_nil ?_) | (refine r_indexN hT rfl rfl rfl rfl rfl rfl rfl rfl rfl (by omega) ?_) | (refine r_load hT hat rfl rfl rfl rfl rfl (Nat.add_zero _).symm rfl rfl rfl rfl rfl ?_) | ((refine r_call (szPair p x _ hx0 hx1 hpk hpv) rfl rfl rfl rfl rfl (hC _ rfl) rfl rfl ?_; rintro y u' ⟨rfl, rfl⟩)) | (refine r_arith rfl rfl rfl rfl rfl rfl rfl (by omega) ?_) | (with_reducible refine r_seq ?_) | (with_reducible refine x_then ?_) | (with_reducible refine r_region ?_) | (refine r_draw hM (by kernel_rfl) ?_) | (with_reducible refine r_skip ?_) | (with_reducible refine r_ret ?_) | (with_reducible refine x_then_ret ?_) | (with_reducible refine r_block ?_) | (with_reducible refine x_block ?_) | (with_reducible refine x_block_ret ?_) | (with_reducible refine r_exit ?_) | (with_reducible refine x_then_exit ?_) | (with_reducible refine x_block_here ?_) | (refine x_block_past rfl ?_) | (refine c_yes rfl (by omega) ?_) | (refine c_no rfl (by omega) ?_) | (refine c_no rfl (fun h => h rfl) ?_) | (refine r_cond_false rfl ?_) | (refine r_cond_true rfl ?_) | (refine r_cond_dec rfl (fun _ => ?_) (fun _ => ?_)) | (refine r_cond_true rfl ?_) | (refine r_cond_false rfl ?_) | (refine c_not rfl (fun _ => ?_) (fun _ => ?_)) | (refine r_off rfl rfl rfl ?_) | (refine q_guard rfl rfl (fun _ => ?_) (fun _ => ?_)) | (refine q_guardn rfl rfl (fun _ => ?_) (fun _ => ?_)))
    · rename_i hneg
      exact r_fin hT rfl _ rfl rfl rfl trivial rfl ⟨by rw [← hf, szPsf, if_pos hneg], rfl⟩
    · rename_i hneg
      exact x_round (i + 1, szPf p x) ⟨by omega, by omega, by omega, by rw [← hf, szPsf, if_neg hneg]⟩ (by simp; omega) (into rfl ⟨rfl, rfl, rfl, trivial⟩ trivial rfl rfl)
  · repeat' (first | (refine r_pure hT rfl rfl rfl rfl ?_) | (refine r_new hT rfl rfl rfl rfl ?_) | (refine r_write hT rfl rfl rfl ?_) | (refine r_nil ?_) | (refine q_nil ?_) | (refine r_arith rfl rfl rfl rfl rfl rfl rfl (by omega) ?_) | (with_reducible refine r_seq ?_) | (with_reducible refine x_then ?_) | (with_reducible refine r_region ?_) | (refine r_draw hM (by kernel_rfl) ?_) | (with_reducible refine r_skip ?_) | (with_reducible refine r_ret ?_) | (with_reducible refine x_then_ret ?_) | (with_reducible refine r_block ?_) | (with_reducible refine x_block ?_) | (with_reducible refine x_block_ret ?_) | (with_reducible refine r_exit ?_) | (with_reducible refine x_then_exit ?_) | (with_reducible refine x_block_here ?_) | (refine x_block_past rfl ?_) | (refine c_yes rfl (by omega) ?_) | (refine c_no rfl (by omega) ?_) | (refine c_no rfl (fun h => h rfl) ?_) | (refine r_cond_false rfl ?_) | (refine r_cond_true rfl ?_) | (refine r_cond_dec rfl (fun _ => ?_) (fun _ => ?_)) | (refine r_cond_true rfl ?_) | (refine r_cond_false rfl ?_) | (refine c_not rfl (fun _ => ?_) (fun _ => ?_)) | (refine r_off rfl rfl rfl ?_) | (refine q_guard rfl rfl (fun _ => ?_) (fun _ => ?_)) | (refine q_guardn rfl rfl (fun _ => ?_) (fun _ => ?_)))
    exact r_fin hT rfl _ rfl rfl rfl trivial rfl ⟨by rw [← hf, List.drop_eq_nil_of_le (by omega)]; rfl, rfl⟩
end Go.Proofs.YtkamfnmbidnhdaaDoor
namespace Go.Proofs.YtkamfnmbidnhdaaDoor
open Go.Sy
set_option maxRecDepth 100000
set_option maxHeartbeats 4000000
set_option linter.unusedVariables false
def szTf (t : List Pr) (l : Int) : Int := if szPairsF t l < 0 then -1 else szPairsF t l
def szTsf : List (List Pr) → Int → Int
  | [], l => l
  | t :: r, l => if szTf t l < 0 then -1 else szTsf r (szTf t l)
def szTablesF (ts : List (List Pr)) (l : Int) : Int := if l - ts.length < 0 then -1 else szTsf ts (l - ts.length)
def szGf (v : V) (ts : List (List Pr)) (l : Int) : Int := if szVf v.s l < 0 then -1 else if szTablesF ts (szVf v.s l) < 0 then -1 else szTablesF ts (szVf v.s l)
theorem szPsf_le : ∀ (ps : List Pr) (l : Int), 0 ≤ l → -1 ≤ szPsf ps l ∧ szPsf ps l ≤ l
  | [], l, h => by simp [szPsf]; omega
  | p :: r, l, h => by
    have h1 := szPf_le p l h
    simp only [szPsf]
    split
    · omega
    · have := szPsf_le r (szPf p l) (by omega); omega
theorem szPairsF_le (ps : List Pr) (l : Int) (h : 0 ≤ l) : -1 ≤ szPairsF ps l ∧ szPairsF ps l ≤ l := by
  unfold szPairsF; split
  · omega
  · have := szPsf_le ps (l - ps.length) (by omega); omega
theorem szTf_le (t : List Pr) (l : Int) (h : 0 ≤ l) : -1 ≤ szTf t l ∧ szTf t l ≤ l := by
  have := szPairsF_le t l h
  unfold szTf; split <;> omega
theorem szTsf_le : ∀ (ts : List (List Pr)) (l : Int), 0 ≤ l → -1 ≤ szTsf ts l ∧ szTsf ts l ≤ l
  | [], l, h => by simp [szTsf]; omega
  | p :: r, l, h => by
    have h1 := szTf_le p l h
    simp only [szTsf]
    split
    · omega
    · have := szTsf_le r (szTf p l) (by omega); omega
theorem szTablesF_le (ts : List (List Pr)) (l : Int) (h : 0 ≤ l) : -1 ≤ szTablesF ts l ∧ szTablesF ts l ≤ l := by
  unfold szTablesF; split
  · omega
  · have := szTsf_le ts (l - ts.length) (by omega); omega
theorem szTable (ps : List Pr) (A : Option Addr) (n c : Nat) (l : Int) (h : Hp) (hP : Pairs h A n ps) (hok : okPs ps) (h0 : 0 ≤ l) (h1 : l ≤ 1048576) :
    Pur Tryd.prog 100 [.ag [.v (.slice A n c)], .v (.int .i64 l)] h (fun y : Int => .v (.int .i64 y)) (szTf ps l) := by
  refine enterS Tryd.func100 rfl (n := 12) rfl rfl (fun k N => ?_)
  repeat' (first | (refine r_pure hT rfl rfl rfl rfl ?_) | (refine r_new hT rfl rfl rfl rfl ?_) | (refine r_write hT rfl rfl rfl ?_) | (refine r_nil ?_) | (refine q_nil ?_) | ((refine r_call (szPairS ps A n c l _ hP hok h0 h1) rfl rfl rfl rfl rfl (hC _ rfl) rfl rfl ?_; rintro y u' ⟨rfl, rfl⟩)) | (refine r_fin hT rfl _ rfl rfl rfl trivial rfl ?_) | (refine r_arith rfl rfl rfl rfl rfl rfl rfl (by omega) ?_) | (with_reducible refine r_seq ?_) | (with_reducible refine x_then ?_) | (with_reducible refine r_region ?_) | (refine r_draw hM (by kernel_rfl) ?_) | (with_reducible refine r_skip ?_) | (with_reducible refine r_ret ?_) | (with_reducible refine x_then_ret ?_) | (with_reducible refine r_block ?_) | (with_reducible refine x_block ?_) | (with_reducible refine x_block_ret ?_) | (with_reducible refine r_exit ?_) | (with_reducible refine x_then_exit ?_) | (with_reducible refine x_block_here ?_) | (refine x_block_past rfl ?_) | (refine c_yes rfl (by omega) ?_) | (refine c_no rfl (by omega) ?_) | (refine c_no rfl (fun h => h rfl) ?_) | (refine r_cond_false rfl ?_) | (refine r_cond_true rfl ?_) | (refine r_cond_dec rfl (fun _ => ?_) (fun _ => ?_)) | (refine r_cond_true rfl ?_) | (refine r_cond_false rfl ?_) | (refine c_not rfl (fun _ => ?_) (fun _ => ?_)) | (refine r_off rfl rfl rfl ?_) | (refine q_guard rfl rfl (fun _ => ?_) (fun _ => ?_)) | (refine q_guardn rfl rfl (fun _ => ?_) (fun _ => ?_)))
  all_goals (refine ⟨?_, rfl⟩; unfold szTf; simp [*])
theorem szTableS (ts : List (List Pr)) (A : Option Addr) (n c : Nat) (l : Int) (h : Hp) (hP : Tabs h A n ts) (hok : okTs ts) (h0 : 0 ≤ l) (h1 : l ≤ 1048576) :
    Pur Tryd.prog 62 [.v (.slice A n c), .v (.int .i64 l)] h (fun y : Int => .v (.int .i64 y)) (szTablesF ts l) := by
  obtain ⟨hl, hel⟩ := hok
  have hn := hP.len
  refine enterS Tryd.func62 rfl (n := 27) rfl rfl (fun k N => ?_)
  repeat' (first | (refine r_pure hT rfl rfl rfl rfl ?_) | (refine r_new hT rfl rfl rfl rfl ?_) | (refine r_write hT rfl rfl rfl ?_) | (refine r_nil ?_) | (refine q_nil ?_) | (refine r_arith rfl rfl rfl rfl rfl rfl rfl (by omega) ?_) | (with_reducible refine r_seq ?_) | (with_reducible refine x_then ?_) | (with_reducible refine r_region ?_) | (refine r_draw hM (by kernel_rfl) ?_) | (with_reducible refine r_skip ?_) | (with_reducible refine r_ret ?_) | (with_reducible refine x_then_ret ?_) | (with_reducible refine r_block ?_) | (with_reducible refine x_block ?_) | (with_reducible refine x_block_ret ?_) | (with_reducible refine r_exit ?_) | (with_reducible refine x_then_exit ?_) | (with_reducible refine x_block_here ?_) | (refine x_block_past rfl ?_) | (refine c_yes rfl (by omega) ?_) | (refine c_no rfl (by omega) ?_) | (refine c_no rfl (fun h => h rfl) ?_) | (refine r_cond_false rfl ?_) | (refine r_cond_true rfl ?_) | (refine r_cond_dec rfl (fun _ => ?_) (fun _ => ?_)) | (refine r_cond_true rfl ?_) | (refine r_cond_false rfl ?_) | (refine c_not rfl (fun _ => ?_) (fun _ => ?_)) | (refine r_off rfl rfl rfl ?_) | (refine q_guard rfl rfl (fun _ => ?_) (fun _ => ?_)) | (refine q_guardn rfl rfl (fun _ => ?_) (fun _ => ?_)))
  · exact r_fin hT rfl _ rfl rfl rfl trivial rfl ⟨by unfold szTablesF; rw [if_pos (by omega)], rfl⟩
  refine r_loop (γ := Nat × Int) (fun g => g.1 ≤ ts.length ∧ 0 ≤ g.2 ∧ g.2 ≤ 1048576 ∧ szTsf (ts.drop g.1) g.2 = szTablesF ts l) (fun g => [(0, .v (.slice A n c)), (1, .v (.int .i64 g.2)), (5, .v (.int .i64 g.1))]) (fun _ => []) (fun _ => h) (fun g => ts.length - g.1)
    (0, l - n) ⟨by omega, by omega, by omega, by unfold szTablesF; rw [if_neg (by omega), hn]; rfl⟩ (into rfl ⟨rfl, rfl, rfl, trivial⟩ trivial rfl rfl) ?_
  rintro ⟨i, x⟩ ⟨hi, hx0, hx1, hf⟩
  dsimp only at *
  by_cases hlt : i < ts.length
  · obtain ⟨b, off, A', n', c', p, rfl, hd, hix, hm, hat, hc', hp⟩ := hP.elem hlt
    have hle := szTf_le p x hx0
    rw [hd] at hf
    repeat' (first | (refine r_pure hT rfl rfl rfl rfl ?_) | (refine r_new hT rfl rfl rfl rfl ?_) | (refine r_write hT rfl rfl rfl ?_) | (refine r_nil ?_) | (refine q_nil ?_) | (refine r_indexN hT rfl rfl rfl rfl rfl rfl rfl rfl rfl (by omega) ?_) | (refine r_load hT hat rfl rfl rfl rfl rfl (Nat.add_zero _).symm rfl rfl rfl rfl rfl ?_) | ((refine r_call (szTable p A' n' c' x _ hp (hel p hm) hx0 hx1) rfl rfl rfl rfl rfl (hC _ rfl) rfl rfl ?_; rintro y u' ⟨rfl, rfl⟩)) | (refine r_arith rfl rfl rfl rfl rfl rfl rfl (by omega) ?_) | (with_reducible refine r_seq ?_) | (with_reducible refine x_then ?_) | (with_reducible refine r_region ?_) | (refine r_draw hM (by kernel_rfl) ?_) | (with_reducible refine r_skip ?_) | (with_reducible refine r_ret ?_) | (with_reducible refine x_then_ret ?_) | (with_reducible refine r_block ?_) | (with_reducible refine x_block ?_) | (with_reducible refine x_block_ret ?_) | (with_reducible refine r_exit ?_) | (with_reducible refine x_then_exit ?_) | (with_reducible refine x_block_here ?_) | (refine x_block_past rfl ?_) | (refine c_yes rfl (by omega) ?_) | (refine c_no rfl (by omega) ?_) | (refine c_no rfl (fun h => h rfl) ?_) | (refine r_cond_false rfl ?_) | (refine r_cond_true rfl ?_) | (refine r_cond_dec rfl (fun _ => ?_) (fun _ => ?_)) | (refine r_cond_true rfl ?_) | (refine r_cond_false rfl ?_) | (refine c_not rfl (fun _ => ?_) (fun _ => ?_)) | (refine r_off rfl rfl rfl ?_) | (refine q_guard rfl rfl (fun _ => ?_) (fun _ => ?_)) | (refine q_guardn rfl rfl (fun _ => ?_) (fun _ => ?_)))
    · rename_i hneg
      exact r_fin hT rfl _ rfl rfl rfl trivial rfl ⟨by rw [← hf, szTsf, if_pos hneg], rfl⟩
    · rename_i hneg
      exact x_round (i + 1, szTf p x) ⟨by omega, by omega, by omega, by rw [← hf, szTsf, if_neg hneg]⟩ (by simp; omega) (into rfl ⟨rfl, rfl, rfl, trivial⟩ trivial rfl rfl)
  · repeat' (first | (refine r_pure hT rfl rfl rfl rfl ?_) | (refine r_new hT rfl rfl rfl rfl ?_) | (refine r_write hT rfl rfl rfl ?_) | (refine r_nil ?_) | (refine q_nil ?_) | (refine r_arith rfl rfl rfl rfl rfl rfl rfl (by omega) ?_) | (with_reducible refine r_seq ?_) | (with_reducible refine x_then ?_) | (with_reducible refine r_region ?_) | (refine r_draw hM (by kernel_rfl) ?_) | (with_reducible refine r_skip ?_) | (with_reducible refine r_ret ?_) | (with_reducible refine x_then_ret ?_) | (with_reducible refine r_block ?_) | (with_reducible refine x_block ?_) | (with_reducible refine x_block_ret ?_) | (with_reducible refine r_exit ?_) | (with_reducible refine x_then_exit ?_) | (with_reducible refine x_block_here ?_) | (refine x_block_past rfl ?_) | (refine c_yes rfl (by omega) ?_) | (refine c_no rfl (by omega) ?_) | (refine c_no rfl (fun h => h rfl) ?_) | (refine r_cond_false rfl ?_) | (refine r_cond_true rfl ?_) | (refine r_cond_dec rfl (fun _ => ?_) (fun _ => ?_)) | (refine r_cond_true rfl ?_) | (refine r_cond_false rfl ?_) | (refine c_not rfl (fun _ => ?_) (fun _ => ?_)) | (refine r_off rfl rfl rfl ?_) | (refine q_guard rfl rfl (fun _ => ?_) (fun _ => ?_)) | (refine q_guardn rfl rfl (fun _ => ?_) (fun _ => ?_)))
    exact r_fin hT rfl _ rfl rfl rfl trivial rfl ⟨by rw [← hf, List.drop_eq_nil_of_le (by omega)]; rfl, rfl⟩
theorem szGraph (v : V) (ts : List (List Pr)) (A : Option Addr) (n c : Nat) (l : Int) (h : Hp) (hP : Tabs h A n ts) (hv : v.okS) (hok : okTs ts) (h0 : 0 ≤ l) (h1 : l ≤ 1048576) :
    Pur Tryd.prog 29 [.ag (gsv v A n c), .v (.int .i64 l)] h (fun y : Int => .v (.int .i64 y)) (szGf v ts l) := by
  have g1 := szVf_le v.s l h0
  refine enterS Tryd.func29 rfl (n := 18) rfl rfl (fun k N => ?_)
  repeat' (first | (refine r_pure hT rfl rfl rfl rfl ?_) | (refine r_new hT rfl rfl rfl rfl ?_) | (refine r_write hT rfl rfl rfl ?_) | (refine r_nil ?_) | (refine q_nil ?_) | ((refine r_call (szVal v l _ h0 h1 hv) rfl rfl rfl rfl rfl (hC _ rfl) rfl rfl ?_; rintro y u' ⟨rfl, rfl⟩)) | ((refine r_call (szTableS ts A n c (szVf v.s l) _ hP hok (by omega) (by omega)) rfl rfl rfl rfl rfl (hC _ rfl) rfl rfl ?_; rintro y u' ⟨rfl, rfl⟩)) | (refine r_fin hT rfl _ rfl rfl rfl trivial rfl ?_) | (refine r_arith rfl rfl rfl rfl rfl rfl rfl (by omega) ?_) | (with_reducible refine r_seq ?_) | (with_reducible refine x_then ?_) | (with_reducible refine r_region ?_) | (refine r_draw hM (by kernel_rfl) ?_) | (with_reducible refine r_skip ?_) | (with_reducible refine r_ret ?_) | (with_reducible refine x_then_ret ?_) | (with_reducible refine r_block ?_) | (with_reducible refine x_block ?_) | (with_reducible refine x_block_ret ?_) | (with_reducible refine r_exit ?_) | (with_reducible refine x_then_exit ?_) | (with_reducible refine x_block_here ?_) | (refine x_block_past rfl ?_) | (refine c_yes rfl (by omega) ?_) | (refine c_no rfl (by omega) ?_) | (refine c_no rfl (fun h => h rfl) ?_) | (refine r_cond_false rfl ?_) | (refine r_cond_true rfl ?_) | (refine r_cond_dec rfl (fun _ => ?_) (fun _ => ?_)) | (refine r_cond_true rfl ?_) | (refine r_cond_false rfl ?_) | (refine c_not rfl (fun _ => ?_) (fun _ => ?_)) | (refine r_off rfl rfl rfl ?_) | (refine q_guard rfl rfl (fun _ => ?_) (fun _ => ?_)) | (refine q_guardn rfl rfl (fun _ => ?_) (fun _ => ?_)))
  all_goals (refine ⟨?_, rfl⟩; unfold szGf; simp [*])
end Go.Proofs.YtkamfnmbidnhdaaDoor
