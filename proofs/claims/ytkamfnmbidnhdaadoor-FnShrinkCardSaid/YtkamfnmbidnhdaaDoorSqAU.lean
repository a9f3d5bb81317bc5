/- laws.wGraph, laws.wInts at equal data. No condition. -/
import Derived.Test.YtkamfnmbidnhdaaDoorSqAJ
import Derived.Test.YtkamfnmbidnhdaaDoorSqAE
import Derived.Test.YtkamfnmbidnhdaaDoorSqAS
import Derived.Test.YtkamfnmbidnhdaaDoorSqAR
set_option linter.unusedVariables false
set_option linter.unusedSimpArgs false
set_option linter.unusedSectionVars false
namespace Go.Proofs.YtkamfnmbidnhdaaDoor
open Go.Sy
set_option maxRecDepth 100000
set_option maxHeartbeats 4000000
set_option linter.unusedVariables false
set_option linter.unusedSimpArgs false
theorem eq61 (d : Nat) (w : World) (p : Pr) : (Op.equalIn (d + 3) 61 (.agg p.c.toArray) (.agg p.c.toArray)).run Tryd.prog w = .ok true w := by
  rw [run_equalIn_struct w (d + 2) 61 _ _ (by rw [Program.fieldsOf, Tryd.underlying61]) (by kernel_rfl)]
  simp only [Program.fieldsOf, Tryd.underlying61, Pr.c, Op.eqFields]
  have h1 := eq48 d w p.key p.key
  have h2 := eq48 d w p.val p.val
  simp only [V.c, decide_true] at h1 h2
  go_simp
theorem wInts (xs : List Int) (A B : Option Addr) (n c n' c' : Nat) (h : Hp) (hP : Ints h A n xs) (hP' : Ints h B n' xs) (hl : xs.length ≤ 9223372036854775807) :
    Pur Tryd.prog 18 [.v (.slice A n c), .v (.slice B n' c')] h (fun y : Bool => .v (.bool y)) true := by
  have hn := hP.1
  have hn' := hP'.1
  refine enterS Tryd.func18 rfl (n := 26) rfl rfl (fun k N => ?_)
  repeat' (first | (refine r_pure hT rfl rfl rfl rfl ?_) | (refine r_new hT rfl rfl rfl rfl ?_) | (refine r_write hT rfl rfl rfl ?_) | (refine r_nil ?_) | (refine q_nil ?_) | (refine r_arith rfl rfl rfl rfl rfl rfl rfl (by omega) ?_) | (with_reducible refine r_seq ?_) | (with_reducible refine x_then ?_) | (with_reducible refine r_region ?_) | (refine r_draw hM (by kernel_rfl) ?_) | (with_reducible refine r_skip ?_) | (with_reducible refine r_ret ?_) | (with_reducible refine x_then_ret ?_) | (with_reducible refine r_block ?_) | (with_reducible refine x_block ?_) | (with_reducible refine x_block_ret ?_) | (with_reducible refine r_exit ?_) | (with_reducible refine x_then_exit ?_) | (with_reducible refine x_block_here ?_) | (refine x_block_past rfl ?_) | (refine c_yes rfl (by omega) ?_) | (refine c_no rfl (by omega) ?_) | (refine c_no rfl (fun h => h rfl) ?_) | (refine r_cond_false rfl ?_) | (refine r_cond_true rfl ?_) | (refine r_cond_dec rfl (fun _ => ?_) (fun _ => ?_)) | (refine r_cond_true rfl ?_) | (refine r_cond_false rfl ?_) | (refine c_not rfl (fun _ => ?_) (fun _ => ?_)) | (refine r_off rfl rfl rfl ?_) | (refine q_guard rfl rfl (fun _ => ?_) (fun _ => ?_)) | (refine q_guardn rfl rfl (fun _ => ?_) (fun _ => ?_)))
  refine r_loop (γ := Nat) (fun i => i ≤ xs.length) (fun i => [(0, .v (.slice A n c)), (1, .v (.slice B n' c')), (12, .v (.int .i64 n)), (13, .v (.int .i64 i))]) (fun _ => []) (fun _ => h) (fun i => xs.length - i)
    0 (by omega) (into rfl ⟨rfl, rfl, rfl, rfl, trivial⟩ trivial rfl rfl) ?_
  intro i hi
  by_cases hlt : i < xs.length
  · obtain ⟨b, off, p, rfl, hd, hix, hm, hat⟩ := hP.elem Ic_len hlt
    obtain ⟨b', off', p', rfl, hd', hix', hm', hat'⟩ := hP'.elem Ic_len hlt
    rw [hix] at hix'
    have e := Option.some.inj hix'; subst e
    repeat' (first | (refine r_pure hT rfl rfl rfl rfl ?_) | (refine r_new hT rfl rfl rfl rfl ?_) | (refine r_write hT rfl rfl rfl ?_) | (refine r_nil ?_) | (refine q_nil ?_) | (refine r_indexN hT rfl rfl rfl rfl rfl rfl rfl rfl rfl (by omega) ?_) | (refine r_load hT hat rfl rfl rfl rfl rfl (Nat.add_zero _).symm rfl rfl rfl rfl rfl ?_) | (refine r_load hT hat' rfl rfl rfl rfl rfl (Nat.add_zero _).symm rfl rfl rfl rfl rfl ?_) | (refine r_arith rfl rfl rfl rfl rfl rfl rfl (by omega) ?_) | (with_reducible refine r_seq ?_) | (with_reducible refine x_then ?_) | (with_reducible refine r_region ?_) | (refine r_draw hM (by kernel_rfl) ?_) | (with_reducible refine r_skip ?_) | (with_reducible refine r_ret ?_) | (with_reducible refine x_then_ret ?_) | (with_reducible refine r_block ?_) | (with_reducible refine x_block ?_) | (with_reducible refine x_block_ret ?_) | (with_reducible refine r_exit ?_) | (with_reducible refine x_then_exit ?_) | (with_reducible refine x_block_here ?_) | (refine x_block_past rfl ?_) | (refine c_yes rfl (by omega) ?_) | (refine c_no rfl (by omega) ?_) | (refine c_no rfl (fun h => h rfl) ?_) | (refine r_cond_false rfl ?_) | (refine r_cond_true rfl ?_) | (refine r_cond_dec rfl (fun _ => ?_) (fun _ => ?_)) | (refine r_cond_true rfl ?_) | (refine r_cond_false rfl ?_) | (refine c_not rfl (fun _ => ?_) (fun _ => ?_)) | (refine r_off rfl rfl rfl ?_) | (refine q_guard rfl rfl (fun _ => ?_) (fun _ => ?_)) | (refine q_guardn rfl rfl (fun _ => ?_) (fun _ => ?_)))
    exact x_round (i + 1) hlt (by omega) (into rfl ⟨rfl, rfl, rfl, rfl, trivial⟩ trivial rfl rfl)
  · repeat' (first | (refine r_pure hT rfl rfl rfl rfl ?_) | (refine r_new hT rfl rfl rfl rfl ?_) | (refine r_write hT rfl rfl rfl ?_) | (refine r_nil ?_) | (refine q_nil ?_) | (refine r_arith rfl rfl rfl rfl rfl rfl rfl (by omega) ?_) | (with_reducible refine r_seq ?_) | (with_reducible refine x_then ?_) | (with_reducible refine r_region ?_) | (refine r_draw hM (by kernel_rfl) ?_) | (with_reducible refine r_skip ?_) | (with_reducible refine r_ret ?_) | (with_reducible refine x_then_ret ?_) | (with_reducible refine r_block ?_) | (with_reducible refine x_block ?_) | (with_reducible refine x_block_ret ?_) | (with_reducible refine r_exit ?_) | (with_reducible refine x_then_exit ?_) | (with_reducible refine x_block_here ?_) | (refine x_block_past rfl ?_) | (refine c_yes rfl (by omega) ?_) | (refine c_no rfl (by omega) ?_) | (refine c_no rfl (fun h => h rfl) ?_) | (refine r_cond_false rfl ?_) | (refine r_cond_true rfl ?_) | (refine r_cond_dec rfl (fun _ => ?_) (fun _ => ?_)) | (refine r_cond_true rfl ?_) | (refine r_cond_false rfl ?_) | (refine c_not rfl (fun _ => ?_) (fun _ => ?_)) | (refine r_off rfl rfl rfl ?_) | (refine q_guard rfl rfl (fun _ => ?_) (fun _ => ?_)) | (refine q_guardn rfl rfl (fun _ => ?_) (fun _ => ?_)))
    exact r_fin hT rfl _ rfl rfl rfl trivial rfl ⟨rfl, rfl⟩
theorem wGraph (v : V) (ts : List (List Pr)) (A B : Option Addr) (n c n' c' : Nat) (h : Hp) (hP : Tabs h A n ts) (hP' : Tabs h B n' ts) (hl : ts.length ≤ 1000000) (hl2 : ∀ t ∈ ts, t.length ≤ 1000000) :
    Pur Tryd.prog 46 [.ag (gsv v A n c), .ag (gsv v B n' c')] h (fun y : Bool => .v (.bool y)) true := by
  have hn := hP.len
  have hn' := hP'.len
  subst hn
  subst hn'
  refine enterS Tryd.func46 rfl (n := 73) rfl rfl (fun k N => ?_)
  have heq : ∀ w, (Op.equalIn Op.maxDepth 48 (.agg v.c.toArray) (.agg v.c.toArray)).run Tryd.prog w = .ok true w := fun w => by
    have := eq48 9998 w v v
    rw [decide_eq_true rfl] at this; exact this
  repeat' (first | (refine r_pure hT rfl rfl rfl rfl ?_) | (refine r_new hT rfl rfl rfl rfl ?_) | (refine r_write hT rfl rfl rfl ?_) | (refine r_nil ?_) | (refine q_nil ?_) | (refine r_eqs heq (by kernel_rfl) (.inr rfl) rfl rfl rfl rfl rfl rfl rfl rfl ?_) | (refine c_no rfl (fun hx => hx rfl) ?_) | (refine r_arith rfl rfl rfl rfl rfl rfl rfl (by omega) ?_) | (with_reducible refine r_seq ?_) | (with_reducible refine x_then ?_) | (with_reducible refine r_region ?_) | (refine r_draw hM (by kernel_rfl) ?_) | (with_reducible refine r_skip ?_) | (with_reducible refine r_ret ?_) | (with_reducible refine x_then_ret ?_) | (with_reducible refine r_block ?_) | (with_reducible refine x_block ?_) | (with_reducible refine x_block_ret ?_) | (with_reducible refine r_exit ?_) | (with_reducible refine x_then_exit ?_) | (with_reducible refine x_block_here ?_) | (refine x_block_past rfl ?_) | (refine c_yes rfl (by omega) ?_) | (refine c_no rfl (by omega) ?_) | (refine c_no rfl (fun h => h rfl) ?_) | (refine r_cond_false rfl ?_) | (refine r_cond_true rfl ?_) | (refine r_cond_dec rfl (fun _ => ?_) (fun _ => ?_)) | (refine r_cond_true rfl ?_) | (refine r_cond_false rfl ?_) | (refine c_not rfl (fun _ => ?_) (fun _ => ?_)) | (refine r_off rfl rfl rfl ?_))
  refine r_loop (γ := Nat) (fun i => i ≤ ts.length) (fun i => [(2, .p 2 0), (3, .p 3 0), (23, .v (.int .i64 (ts.length : Int))), (24, .v (.int .i64 (i : Int)))]) (fun _ => [(3, ⟨none, gsv v B ts.length c', 51⟩), (2, ⟨none, gsv v A ts.length c, 51⟩)]) (fun _ => h) (fun i => ts.length - i)
    0 (Nat.zero_le _) (into rfl ⟨rfl, rfl, rfl, rfl, trivial⟩ ⟨rfl, rfl, trivial⟩ rfl rfl) ?_
  intro i hi
  by_cases hlt : i < ts.length
  · obtain ⟨b, off, A1, n1, c1, t, rfl, _, hix, hm, hat, hc1, hp1⟩ := hP.elem hlt
    obtain ⟨b', off', A2, n2, c2, t', rfl, _, hix', hm', hat', hc2, hp2⟩ := hP'.elem hlt
    rw [hix] at hix'
    have e := Option.some.inj hix'; subst e
    obtain rfl := hp1.1
    obtain rfl := hp2.1
    have htl := hl2 t hm
    repeat' (first | (refine r_pure hT rfl rfl rfl rfl ?_) | (refine r_new hT rfl rfl rfl rfl ?_) | (refine r_write hT rfl rfl rfl ?_) | (refine r_nil ?_) | (refine q_nil ?_) | (refine r_indexN hT rfl rfl rfl rfl rfl rfl rfl rfl rfl hlt ?_) | (refine r_load hT hat rfl rfl rfl rfl rfl (Nat.add_zero _).symm rfl rfl rfl rfl rfl ?_) | (refine r_load hT hat' rfl rfl rfl rfl rfl (Nat.add_zero _).symm rfl rfl rfl rfl rfl ?_) | (refine r_arith rfl rfl rfl rfl rfl rfl rfl (by omega) ?_) | (with_reducible refine r_seq ?_) | (with_reducible refine x_then ?_) | (with_reducible refine r_region ?_) | (refine r_draw hM (by kernel_rfl) ?_) | (with_reducible refine r_skip ?_) | (with_reducible refine r_ret ?_) | (with_reducible refine x_then_ret ?_) | (with_reducible refine r_block ?_) | (with_reducible refine x_block ?_) | (with_reducible refine x_block_ret ?_) | (with_reducible refine r_exit ?_) | (with_reducible refine x_then_exit ?_) | (with_reducible refine x_block_here ?_) | (refine x_block_past rfl ?_) | (refine c_yes rfl (by omega) ?_) | (refine c_no rfl (by omega) ?_) | (refine c_no rfl (fun h => h rfl) ?_) | (refine r_cond_false rfl ?_) | (refine r_cond_true rfl ?_) | (refine r_cond_dec rfl (fun _ => ?_) (fun _ => ?_)) | (refine r_cond_true rfl ?_) | (refine r_cond_false rfl ?_) | (refine c_not rfl (fun _ => ?_) (fun _ => ?_)) | (refine r_off rfl rfl rfl ?_) | (refine q_guard rfl rfl (fun _ => ?_) (fun _ => ?_)) | (refine q_guardn rfl rfl (fun _ => ?_) (fun _ => ?_)))
    refine r_loop (γ := Nat) (fun j => j ≤ t.length) (fun j => [(2, .p 2 0), (3, .p 3 0), (5, .v (.int .i64 (i : Int))), (23, .v (.int .i64 (ts.length : Int))), (24, .v (.int .i64 (i : Int))), (48, .v (.int .i64 (t.length : Int))), (49, .v (.int .i64 (j : Int)))]) (fun _ => [(3, ⟨none, gsv v (some ⟨b', off', none⟩) ts.length c', 51⟩), (2, ⟨none, gsv v (some ⟨b, off, none⟩) ts.length c, 51⟩)]) (fun _ => h) (fun j => t.length - j)
      0 (Nat.zero_le _) (into rfl ⟨rfl, rfl, rfl, rfl, rfl, rfl, rfl, trivial⟩ ⟨rfl, rfl, trivial⟩ rfl rfl) ?_
    intro j hj
    by_cases hltj : j < t.length
    · obtain ⟨b3, off3, p, rfl, _, hixp, _, hat3⟩ := hp1.elem Pr.c_len hltj
      obtain ⟨b4, off4, p', rfl, _, hixp', _, hat4⟩ := hp2.elem Pr.c_len hltj
      rw [hixp] at hixp'
      have e := Option.some.inj hixp'; subst e
      have heq2 : ∀ w, (Op.equalIn Op.maxDepth 61 (.agg p.c.toArray) (.agg p.c.toArray)).run Tryd.prog w = .ok true w := fun w => eq61 9997 w p
      repeat' (first | (refine r_pure hT rfl rfl rfl rfl ?_) | (refine r_new hT rfl rfl rfl rfl ?_) | (refine r_write hT rfl rfl rfl ?_) | (refine r_nil ?_) | (refine q_nil ?_) | (refine r_indexN hT rfl rfl rfl rfl rfl rfl rfl rfl rfl hlt ?_) | (refine r_indexN hT rfl rfl rfl rfl rfl rfl rfl rfl rfl hltj ?_) | (refine r_load hT hat rfl rfl rfl rfl rfl (Nat.add_zero _).symm rfl rfl rfl rfl rfl ?_) | (refine r_load hT hat' rfl rfl rfl rfl rfl (Nat.add_zero _).symm rfl rfl rfl rfl rfl ?_) | (refine r_load hT hat3 rfl rfl rfl rfl rfl (Nat.add_zero _).symm rfl rfl rfl rfl rfl ?_) | (refine r_load hT hat4 rfl rfl rfl rfl rfl (Nat.add_zero _).symm rfl rfl rfl rfl rfl ?_) | (refine r_eqs heq2 (by kernel_rfl) (.inr rfl) rfl rfl rfl rfl rfl rfl rfl rfl ?_) | (refine r_arith rfl rfl rfl rfl rfl rfl rfl (by omega) ?_) | (with_reducible refine r_seq ?_) | (with_reducible refine x_then ?_) | (with_reducible refine r_region ?_) | (refine r_draw hM (by kernel_rfl) ?_) | (with_reducible refine r_skip ?_) | (with_reducible refine r_ret ?_) | (with_reducible refine x_then_ret ?_) | (with_reducible refine r_block ?_) | (with_reducible refine x_block ?_) | (with_reducible refine x_block_ret ?_) | (with_reducible refine r_exit ?_) | (with_reducible refine x_then_exit ?_) | (with_reducible refine x_block_here ?_) | (refine x_block_past rfl ?_) | (refine c_yes rfl (by omega) ?_) | (refine c_no rfl (by omega) ?_) | (refine c_no rfl (fun h => h rfl) ?_) | (refine r_cond_false rfl ?_) | (refine r_cond_true rfl ?_) | (refine r_cond_dec rfl (fun _ => ?_) (fun _ => ?_)) | (refine r_cond_true rfl ?_) | (refine r_cond_false rfl ?_) | (refine c_not rfl (fun _ => ?_) (fun _ => ?_)) | (refine r_off rfl rfl rfl ?_) | (refine q_guard rfl rfl (fun _ => ?_) (fun _ => ?_)) | (refine q_guardn rfl rfl (fun _ => ?_) (fun _ => ?_)))
      exact x_round (j + 1) hltj (by omega) (into rfl ⟨rfl, rfl, rfl, rfl, rfl, rfl, rfl, trivial⟩ ⟨rfl, rfl, trivial⟩ rfl rfl)
    · obtain rfl : j = t.length := by omega
      repeat' (first | (refine r_pure hT rfl rfl rfl rfl ?_) | (refine r_new hT rfl rfl rfl rfl ?_) | (refine r_write hT rfl rfl rfl ?_) | (refine r_nil ?_) | (refine q_nil ?_) | (refine r_arith rfl rfl rfl rfl rfl rfl rfl (by omega) ?_) | (with_reducible refine r_seq ?_) | (with_reducible refine x_then ?_) | (with_reducible refine r_region ?_) | (refine r_draw hM (by kernel_rfl) ?_) | (with_reducible refine r_skip ?_) | (with_reducible refine r_ret ?_) | (with_reducible refine x_then_ret ?_) | (with_reducible refine r_block ?_) | (with_reducible refine x_block ?_) | (with_reducible refine x_block_ret ?_) | (with_reducible refine r_exit ?_) | (with_reducible refine x_then_exit ?_) | (with_reducible refine x_block_here ?_) | (refine x_block_past rfl ?_) | (refine c_yes rfl (by omega) ?_) | (refine c_no rfl (by omega) ?_) | (refine c_no rfl (fun h => h rfl) ?_) | (refine r_cond_false rfl ?_) | (refine r_cond_true rfl ?_) | (refine r_cond_dec rfl (fun _ => ?_) (fun _ => ?_)) | (refine r_cond_true rfl ?_) | (refine r_cond_false rfl ?_) | (refine c_not rfl (fun _ => ?_) (fun _ => ?_)) | (refine r_off rfl rfl rfl ?_) | (refine q_guard rfl rfl (fun _ => ?_) (fun _ => ?_)) | (refine q_guardn rfl rfl (fun _ => ?_) (fun _ => ?_)))
      exact x_round (i + 1) hlt (by omega) (into rfl ⟨rfl, rfl, rfl, rfl, trivial⟩ ⟨rfl, rfl, trivial⟩ rfl rfl)
  · repeat' (first | (refine r_pure hT rfl rfl rfl rfl ?_) | (refine r_new hT rfl rfl rfl rfl ?_) | (refine r_write hT rfl rfl rfl ?_) | (refine r_nil ?_) | (refine q_nil ?_) | (refine r_arith rfl rfl rfl rfl rfl rfl rfl (by omega) ?_) | (with_reducible refine r_seq ?_) | (with_reducible refine x_then ?_) | (with_reducible refine r_region ?_) | (refine r_draw hM (by kernel_rfl) ?_) | (with_reducible refine r_skip ?_) | (with_reducible refine r_ret ?_) | (with_reducible refine x_then_ret ?_) | (with_reducible refine r_block ?_) | (with_reducible refine x_block ?_) | (with_reducible refine x_block_ret ?_) | (with_reducible refine r_exit ?_) | (with_reducible refine x_then_exit ?_) | (with_reducible refine x_block_here ?_) | (refine x_block_past rfl ?_) | (refine c_yes rfl (by omega) ?_) | (refine c_no rfl (by omega) ?_) | (refine c_no rfl (fun h => h rfl) ?_) | (refine r_cond_false rfl ?_) | (refine r_cond_true rfl ?_) | (refine r_cond_dec rfl (fun _ => ?_) (fun _ => ?_)) | (refine r_cond_true rfl ?_) | (refine r_cond_false rfl ?_) | (refine c_not rfl (fun _ => ?_) (fun _ => ?_)) | (refine r_off rfl rfl rfl ?_) | (refine q_guard rfl rfl (fun _ => ?_) (fun _ => ?_)) | (refine q_guardn rfl rfl (fun _ => ?_) (fun _ => ?_)))
    exact r_fin hT rfl true rfl rfl rfl trivial rfl ⟨rfl, rfl⟩
end Go.Proofs.YtkamfnmbidnhdaaDoor
/- The walk by a symbolic frame: a call of a function value that the frame itself made, its captures known. Over any program; no condition. -/
namespace Go.Sy
set_option linter.unusedVariables false
section
variable {P : Program} {F : Fr} {tm : Tm} {L : Lm} {u : Hp} {n : FN} {β : Nat → Nat} {a : Act} {w : World} {Q : Exit → Act → World → Prop}
def calleeF (tm : Tm) (c : Call) : Option (FuncId × List SV) :=
  match c.callee with
  | .value x => match ev tm x with
    | some (.fn (.func f) [] b) => match evs tm c.args.toList with
      | some l => some (f, l ++ b)
      | none => none
    | _ => none
  | _ => none
theorem calleeF_ok {o : Oper} {c : Call} {f : FuncId} {svs : List SV} (hop : o.op = .call c) (h : calleeF tm c = some (f, svs)) (hc : callable P f = true) (ht : RelT n L β tm a) :
    (execOp a.eval o).run P w = .ok (.enter f (SV.dens β svs).toArray) w := by
  unfold callable at hc
  split at hc
  · rename_i fn hfn
    simp only [Bool.and_eq_true, Bool.not_eq_true', beq_eq_false_iff_ne, ne_eq] at hc
    have hcall : ∀ args, (callFunc f args).run P w = .ok (.enter f args) w := fun args => by
      obtain ⟨cd, h2⟩ := Option.isSome_iff_exists.1 hc.2
      simp [callFunc, program, Sem.run, hfn, hc.1, h2]
    unfold calleeF at h
    split at h
    · rename_i x hx
      have hargs : ∀ l, evs tm c.args.toList = some l → c.args.map a.eval = (SV.dens β l).toArray := fun l hl => by
        rw [← (evs_ok ht hl).1]; exact Array.toList_inj.1 (by simp)
      split at h
      · rename_i f' b hv
        split at h
        · rename_i l hl
          have e := Option.some.inj h
          simp only [Prod.mk.injEq] at e
          obtain ⟨rfl, rfl⟩ := e
          have hb : SV.dens β (l ++ b) = SV.dens β l ++ SV.dens β b := by rw [dens_map, List.map_append, ← dens_map, ← dens_map]
          simp [execOp, hop, resolve, hx, ev_ok ht hv, SV.den, SV.dens, Deferred.ofValue, hargs l hl, invoke, hcall, hb]
        · cases h
      · cases h
    · cases h
  · cases hc
theorem r_callF {l : List Oper} {o : Oper} {r : List Oper} {d : Nat} {c : Call} {f : FuncId} {svs args : List SV} {vs : List Value} {Y : Type} {val : Y → SV} {ψ : Y → Hp → Prop}
    (htri : TriS P f args [] u val (fun _ => []) ψ) (hw : wantE l tm o = some true) (ho : o.dst = some d) (hn : Nat.blt d F.n.z = true) (hop : o.op = .call c) (hcal : calleeF tm c = some (f, svs)) (hc : callable P f = true) (hvs' : valsE [] args = some vs) (hvs : valsE L svs = some vs)
    (next : ∀ y u', ψ y u' → Run P Q F ((d, val y) :: tm) L u' .seq l r) : Run P Q F tm L u .seq l (o :: r) := by
  intro β a w hf ht hd
  show (if _ then _ else _)
  rw [if_pos (wantE_ok hw ht)]
  refine .inl ?_
  unfold Oper.wp
  rw [calleeF_ok hop hcal hc ht, Oper.upon_enter, valsE_den hd.bn hvs]
  refine (htri List.nodup_nil (fun b hb => by simp [names] at hb) vs u hvs' rfl _ _ w (den0_of hd)).mono ?_
  rintro e w' ⟨v, h'', rfl, ⟨y, h', h1, h2, h3, h4⟩, h5⟩
  simp only [addsE, Option.some.injEq] at h2; subst h2
  have hk : (val y).ok [] = true := valE_ok h1
  have hk' : (val y).ok L = true := ok_more (fun i hi => by simp [kget] at hi) _ hk
  have hv : (val y).den β = v := valE_den (L := []) (fun i B b hB => by simp [kget] at hB) h1
  simp only [ho, ← hv]
  exact next y h' h4 β _ w' hf (put_rel hn ht hk') (den_back hd h5)
end
end Go.Sy
/- impl.Shrink. No condition. -/
namespace Go.Proofs.YtkamfnmbidnhdaaDoor
open Go.Sy
set_option maxRecDepth 100000
set_option maxHeartbeats 8000000
set_option linter.unusedVariables false
set_option linter.unusedSimpArgs false
theorem lead77 (v : V) (C : List Nat) (A : Option Addr) (n cc pc : Nat) (h : Hp) (hpc : At h pc 0 [.slice A n cc]) (hP : Ints h A n (cI C)) (hv : In C.length v) :
    Pur Tryd.prog 77 [.ag v.sv, .v (.pointer (some ⟨pc, 0, none⟩))] h (fun y : V => .ag y.sv) (lk C v) := by
  have hnn := hP.1
  rw [cI_len] at hnn
  subst hnn
  refine enterS Tryd.func77 rfl (n := 14) rfl rfl (fun k N => ?_)
  by_cases h4 : v.k = 4
  · have hva := hv h4
    have hlk : lk C v = ⟨v.k, v.n, v.s, (at0 C v.a.toNat : Nat)⟩ := by unfold lk; rw [if_pos h4]; rfl
    obtain ⟨b, off, q, rfl, _, hix, _, hat⟩ := hP.elem Ic_len (i := v.a.toNat) (by rw [cI_len]; omega)
    obtain rfl := cI_get hix
    repeat' (first | (refine r_pure hT rfl rfl rfl rfl ?_) | (refine r_new hT rfl rfl rfl rfl ?_) | (refine r_write hT rfl rfl rfl ?_) | (refine r_nil ?_) | (refine q_nil ?_) | (refine c_yes rfl h4 ?_) | (refine r_load hT hpc rfl rfl rfl rfl rfl (Nat.add_zero _).symm rfl rfl rfl rfl rfl ?_) | (refine r_index hT rfl rfl rfl rfl rfl rfl rfl rfl rfl hva.1 hva.2 ?_) | (refine r_load hT hat rfl rfl rfl rfl rfl (Nat.add_zero _).symm rfl rfl rfl rfl rfl ?_) | (refine r_arith rfl rfl rfl rfl rfl rfl rfl (by omega) ?_) | (with_reducible refine r_seq ?_) | (with_reducible refine x_then ?_) | (with_reducible refine r_region ?_) | (refine r_draw hM (by kernel_rfl) ?_) | (with_reducible refine r_skip ?_) | (with_reducible refine r_ret ?_) | (with_reducible refine x_then_ret ?_) | (with_reducible refine r_block ?_) | (with_reducible refine x_block ?_) | (with_reducible refine x_block_ret ?_) | (with_reducible refine r_exit ?_) | (with_reducible refine x_then_exit ?_) | (with_reducible refine x_block_here ?_) | (refine x_block_past rfl ?_) | (refine c_yes rfl (by omega) ?_) | (refine c_no rfl (by omega) ?_) | (refine c_no rfl (fun h => h rfl) ?_) | (refine r_cond_false rfl ?_) | (refine r_cond_true rfl ?_) | (refine r_cond_dec rfl (fun _ => ?_) (fun _ => ?_)) | (refine r_cond_true rfl ?_) | (refine r_cond_false rfl ?_) | (refine c_not rfl (fun _ => ?_) (fun _ => ?_)) | (refine r_off rfl rfl rfl ?_) | (refine q_guard rfl rfl (fun _ => ?_) (fun _ => ?_)) | (refine q_guardn rfl rfl (fun _ => ?_) (fun _ => ?_)))
    exact r_fin hT rfl (⟨v.k, v.n, v.s, (at0 C v.a.toNat : Nat)⟩ : V) rfl rfl rfl trivial rfl ⟨hlk.symm, rfl⟩
  · have hlk : lk C v = v := by unfold lk; rw [if_neg h4]
    repeat' (first | (refine r_pure hT rfl rfl rfl rfl ?_) | (refine r_new hT rfl rfl rfl rfl ?_) | (refine r_write hT rfl rfl rfl ?_) | (refine r_nil ?_) | (refine q_nil ?_) | (refine c_no rfl h4 ?_) | (refine r_arith rfl rfl rfl rfl rfl rfl rfl (by omega) ?_) | (with_reducible refine r_seq ?_) | (with_reducible refine x_then ?_) | (with_reducible refine r_region ?_) | (refine r_draw hM (by kernel_rfl) ?_) | (with_reducible refine r_skip ?_) | (with_reducible refine r_ret ?_) | (with_reducible refine x_then_ret ?_) | (with_reducible refine r_block ?_) | (with_reducible refine x_block ?_) | (with_reducible refine x_block_ret ?_) | (with_reducible refine r_exit ?_) | (with_reducible refine x_then_exit ?_) | (with_reducible refine x_block_here ?_) | (refine x_block_past rfl ?_) | (refine c_yes rfl (by omega) ?_) | (refine c_no rfl (by omega) ?_) | (refine c_no rfl (fun h => h rfl) ?_) | (refine r_cond_false rfl ?_) | (refine r_cond_true rfl ?_) | (refine r_cond_dec rfl (fun _ => ?_) (fun _ => ?_)) | (refine r_cond_true rfl ?_) | (refine r_cond_false rfl ?_) | (refine c_not rfl (fun _ => ?_) (fun _ => ?_)) | (refine r_off rfl rfl rfl ?_) | (refine q_guard rfl rfl (fun _ => ?_) (fun _ => ?_)) | (refine q_guardn rfl rfl (fun _ => ?_) (fun _ => ?_)))
    exact r_fin hT rfl v rfl rfl rfl trivial rfl ⟨hlk.symm, rfl⟩
theorem implShrink (v : V) (ts : List (List Pr)) (A : Option Addr) (n c : Nat) (h : Hp) (hP : Tabs h A n ts) (hr : RngG v ts) (ht10 : Tab10 h) :
    TriS Tryd.prog 36 [.ag (gsv v A n c)] [] h (fun y : OY => .ag (gsv (kV v ts) y.1.1 (kT v ts).length y.1.2)) (fun _ => []) (fun y h' => OT h' 59 61 y.1.1 (kT v ts).length y.1.2 y.2 (kT v ts) ∧ Le h h' ∧ OffAll h y.1.1 y.2) := by
  have hnn := hP.len
  subst hnn
  refine enterS Tryd.func36 rfl (n := 59) rfl rfl (fun k N => ?_)
  have hk1 := implOk v ts A ts.length c h hP
  by_cases hg : GOk v ts
  · simp only [decide_eq_true hg] at hk1
    have hCl := gok_cl hg hr
    have hgS := gok_shT hg
    have hcl : (cls (ts.map srt)).length = ts.length := by rw [cls_len _ hCl.inSrt, List.length_map]
    have e1 : kV v ts = cV (lk (cls (ts.map srt)) v) (shT (cls (ts.map srt)) ts) := if_pos hg
    have e2 : kT v ts = cT (lk (cls (ts.map srt)) v) (shT (cls (ts.map srt)) ts) := if_pos hg
    rw [e1, e2]
    have hia := (gok_in hg).2.1
    have hn2 := hg.1
    have hinv : In (cls (ts.map srt)).length v := fun e => by have := hia e; omega
    repeat' (first | (refine r_pure hT rfl rfl rfl rfl ?_) | (refine r_new hT rfl rfl rfl rfl ?_) | (refine r_write hT rfl rfl rfl ?_) | (refine r_nil ?_) | (refine q_nil ?_) | ((refine r_call hk1 rfl rfl rfl rfl rfl (hC _ rfl) rfl rfl (fun y0 u0 hy0 => ?_) ; obtain ⟨hy0, hle0⟩ := hy0 ; subst hy0)) | ((refine r_call (classes76 ts A ts.length c _ (hP.le hle0) hCl (ht10.le hle0)) rfl rfl rfl rfl rfl (hC _ rfl) rfl rfl (fun y1 u1 hy1 => ?_) ; obtain ⟨hy1O, hy1L, hy1F⟩ := hy1 ; have hPc1 : Ints u1 y1.1 ts.length (cI (cls (ts.map srt))) := ⟨by rw [cI_len, hcl], hy1O.sl⟩)) | (refine r_arith rfl rfl rfl rfl rfl rfl rfl (by omega) ?_) | (with_reducible refine r_seq ?_) | (with_reducible refine x_then ?_) | (with_reducible refine r_region ?_) | (refine r_draw hM (by kernel_rfl) ?_) | (with_reducible refine r_skip ?_) | (with_reducible refine r_ret ?_) | (with_reducible refine x_then_ret ?_) | (with_reducible refine r_block ?_) | (with_reducible refine x_block ?_) | (with_reducible refine x_block_ret ?_) | (with_reducible refine r_exit ?_) | (with_reducible refine x_then_exit ?_) | (with_reducible refine x_block_here ?_) | (refine x_block_past rfl ?_) | (refine c_yes rfl (by omega) ?_) | (refine c_no rfl (by omega) ?_) | (refine c_no rfl (fun h => h rfl) ?_) | (refine r_cond_false rfl ?_) | (refine r_cond_true rfl ?_) | (refine r_cond_dec rfl (fun _ => ?_) (fun _ => ?_)) | (refine r_cond_true rfl ?_) | (refine r_cond_false rfl ?_) | (refine c_not rfl (fun _ => ?_) (fun _ => ?_)) | (refine r_off rfl rfl rfl ?_) | (refine q_guard rfl rfl (fun _ => ?_) (fun _ => ?_)) | (refine q_guardn rfl rfl (fun _ => ?_) (fun _ => ?_)))
    refine r_pub 3 (fun _ => [Value.slice y1.1 ts.length y1.2]) rfl rfl (fun _ => rfl) (fun pc hpc => ?_)
    change u1 pc = none at hpc
    have hAtc : At (upd u1 pc (.cells [Value.slice y1.1 ts.length y1.2].toArray 25 (0, 0))) pc 0 [.slice y1.1 ts.length y1.2] := ⟨_, _, _, upd_here .., fun j v hj => by simpa using hj⟩
    have hl01 := hle0.trans hy1L
    have hlpc := le_frsh (o := (.cells [Value.slice y1.1 ts.length y1.2].toArray 25 (0, 0))) (Le.refl u1) hpc
    have hPc := hPc1.le hlpc
    have hPB := hP.le (hl01.trans hlpc)
    have h0B : Le h (upd u1 pc (.cells [Value.slice y1.1 ts.length y1.2].toArray 25 (0, 0))) := hl01.trans hlpc
    have htB := ht10.le h0B
    generalize upd u1 pc (.cells [Value.slice y1.1 ts.length y1.2].toArray 25 (0, 0)) = uB at *
    repeat' (first | (refine r_pure hT rfl rfl rfl rfl ?_) | (refine r_new hT rfl rfl rfl rfl ?_) | (refine r_write hT rfl rfl rfl ?_) | (refine r_nil ?_) | (refine q_nil ?_) | ((refine r_callF (lead77 v (cls (ts.map srt)) y1.1 ts.length y1.2 pc uB hAtc hPc hinv) rfl rfl rfl rfl rfl (hC 77 rfl) rfl rfl (fun yz uz hyz => ?_) ; obtain ⟨hyz1, hyz2⟩ := hyz ; subst hyz1 ; subst uz)) | (refine r_build hT rfl rfl rfl (ps := [(0, .tmp 21)]) rfl rfl rfl rfl rfl rfl ?_) | (refine r_arith rfl rfl rfl rfl rfl rfl rfl (by omega) ?_) | (with_reducible refine r_seq ?_) | (with_reducible refine x_then ?_) | (with_reducible refine r_region ?_) | (refine r_draw hM (by kernel_rfl) ?_) | (with_reducible refine r_skip ?_) | (with_reducible refine r_ret ?_) | (with_reducible refine x_then_ret ?_) | (with_reducible refine r_block ?_) | (with_reducible refine x_block ?_) | (with_reducible refine x_block_ret ?_) | (with_reducible refine r_exit ?_) | (with_reducible refine x_then_exit ?_) | (with_reducible refine x_block_here ?_) | (refine x_block_past rfl ?_) | (refine c_yes rfl (by omega) ?_) | (refine c_no rfl (by omega) ?_) | (refine c_no rfl (fun h => h rfl) ?_) | (refine r_cond_false rfl ?_) | (refine r_cond_true rfl ?_) | (refine r_cond_dec rfl (fun _ => ?_) (fun _ => ?_)) | (refine r_cond_true rfl ?_) | (refine r_cond_false rfl ?_) | (refine c_not rfl (fun _ => ?_) (fun _ => ?_)) | (refine r_off rfl rfl rfl ?_) | (refine q_guard rfl rfl (fun _ => ?_) (fun _ => ?_)) | (refine q_guardn rfl rfl (fun _ => ?_) (fun _ => ?_)))
    refine r_loop (γ := (Nat × Hp) × ((Option Addr × Nat) × (List (List Pr) × (List Hd × Hp)))) (fun g => g.1.1 ≤ ts.length ∧ g.2.2.1 = shT (cls (ts.map srt)) (ts.take g.1.1) ∧ Gr uB g.1.2 g.2.2.2.2 g.2.1.1 g.2.1.2 g.2.2.2.1 g.2.2.1)
      (fun g => [(2, .p 2 0), (4, .fn (.func 77) [] [.v (.pointer (some ⟨pc, 0, none⟩))]), (5, .p 5 0), (24, .v (.slice A ts.length c)), (25, .v (.int .i64 (ts.length : Int))), (26, .v (.int .i64 (g.1.1 : Int)))])
      (fun g => [(5, ⟨none, gsv (lk (cls (ts.map srt)) v) g.2.1.1 g.2.2.1.length g.2.1.2, 51⟩), (2, ⟨none, [.v (.int .i64 0), .v (.int .i64 0), .v (.string ⟨⟨[]⟩⟩), .v (.int .i64 0), .v (.slice none 0 0)], 51⟩)]) (fun g => g.1.2) (fun g => ts.length - g.1.1)
      ((0, uB), ((none, 0), ([], ([], uB)))) ⟨Nat.zero_le _, rfl, Gr.start uB⟩ (into rfl ⟨rfl, rfl, rfl, rfl, rfl, rfl, trivial⟩ ⟨rfl, rfl, trivial⟩ rfl rfl) ?_
    rintro ⟨⟨i, u⟩, ⟨⟨A2, c2⟩, ⟨L2, ⟨hs2, q2⟩⟩⟩⟩ ⟨hi, hL2, hG2⟩
    dsimp only at *
    have hL2l : L2.length ≤ 2000 := by rw [hL2]; simp [shT]; omega
    have hlBu := hG2.hq.trans hG2.qu
    by_cases hlt : i < ts.length
    · obtain ⟨b0, off0, A0, n0, c0, t, rfl, _, hix, hm0, hat, hc0, hp0⟩ := (hPB.le hlBu).elem hlt
      obtain rfl := hp0.1
      have htl := (hCl.tok t hm0).1
      have hsl := (srt_perm t).length_eq
      repeat' (first | (refine r_pure hT rfl rfl rfl rfl ?_) | (refine r_new hT rfl rfl rfl rfl ?_) | (refine r_write hT rfl rfl rfl ?_) | (refine r_nil ?_) | (refine q_nil ?_) | (refine r_indexN hT rfl rfl rfl rfl rfl rfl rfl rfl rfl hlt ?_) | (refine r_load hT hat rfl rfl rfl rfl rfl (Nat.add_zero _).symm rfl rfl rfl rfl rfl ?_) | (refine r_call (sorted78 t A0 t.length c0 u hp0 (fun p hp => hCl.kd hm0 hp) (by omega)) rfl rfl rfl rfl rfl (hC _ rfl) rfl rfl (fun y2 u2 hy2 => ?_)) | (refine r_arith rfl rfl rfl rfl rfl rfl rfl (by omega) ?_) | (with_reducible refine r_seq ?_) | (with_reducible refine x_then ?_) | (with_reducible refine r_region ?_) | (with_reducible refine r_skip ?_) | (with_reducible refine r_ret ?_) | (with_reducible refine x_then_ret ?_) | (with_reducible refine r_block ?_) | (with_reducible refine x_block ?_) | (with_reducible refine x_block_ret ?_) | (with_reducible refine r_exit ?_) | (with_reducible refine x_then_exit ?_) | (with_reducible refine x_block_here ?_) | (refine x_block_past rfl ?_) | (refine c_yes rfl (by omega) ?_) | (refine c_no rfl (by omega) ?_) | (refine c_no rfl (fun h => h rfl) ?_) | (refine r_cond_false rfl ?_) | (refine r_cond_true rfl ?_) | (refine r_cond_dec rfl (fun _ => ?_) (fun _ => ?_)) | (refine r_cond_true rfl ?_) | (refine r_cond_false rfl ?_) | (refine c_not rfl (fun _ => ?_) (fun _ => ?_)) | (refine r_off rfl rfl rfl ?_) | (refine q_guard rfl rfl (fun _ => ?_) (fun _ => ?_)) | (refine q_guardn rfl rfl (fun _ => ?_) (fun _ => ?_)))
      obtain ⟨ys, hz1, hz2, hz3, hz4, hz5⟩ := hy2
      obtain rfl := hCl.uniq hm0 hz1 hz2
      refine r_loop (γ := Nat × Hp) (fun g => g.1 ≤ t.length ∧ Own g.2 y2.1 t.length y2.2 61 8 ((lookT (cls (ts.map srt)) ((srt t).take g.1)).flatMap Pr.c ++ ((srt t).drop g.1).flatMap Pr.c) ∧ ∀ x, blk y2.1 ≠ some x → g.2 x = u2 x)
        (fun g => [(2, .p 2 0), (4, .fn (.func 77) [] [.v (.pointer (some ⟨pc, 0, none⟩))]), (5, .p 5 0), (24, .v (.slice (some ⟨b0, off0, none⟩) ts.length c)), (25, .v (.int .i64 (ts.length : Int))), (26, .v (.int .i64 (i : Int))), (8, .v (.slice y2.1 t.length y2.2)), (33, .v (.int .i64 (t.length : Int))), (34, .v (.int .i64 (g.1 : Int)))])
        (fun _ => [(5, ⟨none, gsv (lk (cls (ts.map srt)) v) A2 L2.length c2, 51⟩), (2, ⟨none, [.v (.int .i64 0), .v (.int .i64 0), .v (.string ⟨⟨[]⟩⟩), .v (.int .i64 0), .v (.slice none 0 0)], 51⟩)]) (fun g => g.2) (fun g => t.length - g.1)
        (0, u2) ⟨Nat.zero_le _, by simpa [lookT] using hz3, fun _ _ => rfl⟩ (into rfl ⟨rfl, rfl, rfl, rfl, rfl, rfl, rfl, rfl, rfl, trivial⟩ ⟨rfl, rfl, trivial⟩ rfl rfl) ?_
      rintro ⟨kk, u5⟩ ⟨hk, hO5, hK5⟩
      dsimp only at *
      have hlu5 : Le u u5 := fun x o hx => by rw [hK5 x (fun e => by rw [hz5 x e] at hx; cases hx)]; exact hz4 x o hx
      by_cases hltk : kk < t.length
      · obtain ⟨b5, off5, e5⟩ := own_some hO5 (by omega : 0 < t.length)
        obtain ⟨p, hixp⟩ : ∃ p, (srt t)[kk]? = some p := ⟨_, List.getElem?_eq_getElem (by omega)⟩
        have hdp : (srt t).drop kk = p :: (srt t).drop (kk + 1) := by
          obtain ⟨g1, g2⟩ := List.getElem?_eq_some_iff.1 hixp
          rw [List.drop_eq_getElem_cons g1, g2]
        have hmp : p ∈ t := (srt_perm t).mem_iff.1 (List.mem_of_getElem? hixp)
        have hpre : ((lookT (cls (ts.map srt)) ((srt t).take kk)).flatMap Pr.c).length = kk * 8 := by rw [flat_length Pr.c_len]; simp [lookT]; omega
        rw [hdp, List.flatMap_cons] at hO5
        obtain ⟨y2A, y2c⟩ := y2
        dsimp only at *
        subst e5
        have hatp : At u5 b5 (off5 + kk * 8) p.c := by
          obtain ⟨_, arr, g1, _, g3⟩ := hO5.row _ rfl
          refine ⟨arr, _, _, g1, fun j x hj => ?_⟩
          rw [Nat.add_assoc]
          refine g3 (kk * 8 + j) x ?_
          rw [List.getElem?_append_right (by omega), hpre, show kk * 8 + j - kk * 8 = j by omega, List.getElem?_append_left (List.getElem?_eq_some_iff.1 hj).1]
          exact hj
        have fin : (lookT (cls (ts.map srt)) ((srt t).take (kk + 1))).flatMap Pr.c = (lookT (cls (ts.map srt)) ((srt t).take kk)).flatMap Pr.c ++ Pr.c ⟨p.key, lk (cls (ts.map srt)) p.val⟩ := by rw [take_snoc hixp]; simp [lookT]
        have hK6 : ∀ x, x ≠ b5 → u5 x = u2 x := fun x hx => hK5 x (fun e => hx (Option.some.inj e).symm)
        have hinp : In (cls (ts.map srt)).length p.val := fun e => by have := hCl.inAll t hm0 p hmp e; omega
        have hld := lead77 p.val (cls (ts.map srt)) y1.1 ts.length y1.2 pc u5 (hAtc.le (hlBu.trans hlu5)) (hPc.le (hlBu.trans hlu5)) hinp
        generalize hlv : lk (cls (ts.map srt)) p.val = lv at *
        repeat' (first | (refine r_pure hT rfl rfl rfl rfl ?_) | (refine r_new hT rfl rfl rfl rfl ?_) | (refine r_write hT rfl rfl rfl ?_) | (refine r_nil ?_) | (refine q_nil ?_) | (refine r_indexN hT rfl rfl rfl rfl rfl rfl rfl rfl rfl hltk ?_) | (refine r_load hT hatp rfl rfl rfl rfl rfl rfl rfl rfl rfl rfl rfl ?_) | ((refine r_callF hld rfl rfl rfl rfl rfl (hC 77 rfl) rfl rfl (fun yz uz hyz => ?_) ; obtain ⟨hyz1, hyz2⟩ := hyz ; subst hyz1 ; subst uz)) | (refine r_store_row1 (f1 := 4) hT hO5 hK6 rfl rfl rfl rfl (by rw [hpre]) rfl rfl rfl rfl rfl rfl rfl (fun u6 hO6 hK7 => ?_)) | (refine r_arith rfl rfl rfl rfl rfl rfl rfl (by omega) ?_) | (with_reducible refine r_seq ?_) | (with_reducible refine x_then ?_) | (with_reducible refine r_region ?_) | (with_reducible refine r_skip ?_) | (with_reducible refine r_ret ?_) | (with_reducible refine x_then_ret ?_) | (with_reducible refine r_block ?_) | (with_reducible refine x_block ?_) | (with_reducible refine x_block_ret ?_) | (with_reducible refine r_exit ?_) | (with_reducible refine x_then_exit ?_) | (with_reducible refine x_block_here ?_) | (refine x_block_past rfl ?_) | (refine c_yes rfl (by omega) ?_) | (refine c_no rfl (by omega) ?_) | (refine c_no rfl (fun h => h rfl) ?_) | (refine r_cond_false rfl ?_) | (refine r_cond_true rfl ?_) | (refine r_cond_dec rfl (fun _ => ?_) (fun _ => ?_)) | (refine r_cond_true rfl ?_) | (refine r_cond_false rfl ?_) | (refine c_not rfl (fun _ => ?_) (fun _ => ?_)) | (refine r_off rfl rfl rfl ?_) | (refine q_guard rfl rfl (fun _ => ?_) (fun _ => ?_)) | (refine q_guardn rfl rfl (fun _ => ?_) (fun _ => ?_)))
        exact x_round (kk + 1, u6) ⟨hltk, own_eq (ds := (lookT (cls (ts.map srt)) ((srt t).take (kk + 1))).flatMap Pr.c ++ ((srt t).drop (kk + 1)).flatMap Pr.c) hO6 (by rw [fin, List.append_assoc]; rfl), fun x hx => hK7 x (fun e => hx (by rw [e]; rfl))⟩ (by dsimp only; omega) (into rfl ⟨rfl, rfl, rfl, rfl, rfl, rfl, rfl, rfl, rfl, trivial⟩ ⟨rfl, rfl, trivial⟩ rfl rfl)
      · obtain rfl : kk = t.length := by omega
        rw [← hsl, List.take_length, List.drop_length, List.flatMap_nil, List.append_nil, hsl] at hO5
        repeat' (first | (refine r_pure hT rfl rfl rfl rfl ?_) | (refine r_new hT rfl rfl rfl rfl ?_) | (refine r_write hT rfl rfl rfl ?_) | (refine r_nil ?_) | (refine q_nil ?_) | (refine r_build hT rfl rfl rfl (ps := [(0, .tmp 51)]) rfl rfl rfl rfl rfl rfl ?_) | (refine r_bslice (t := 49) hT (ps := [(0, .tmp 52)]) rfl rfl rfl rfl rfl rfl rfl (by simp) rfl rfl (by decide) (fun b3 hb3 => ?_)) | (refine r_append (t := 49) hT (cs := hs2.flatMap Hd.v) (news := [(⟨y2.1, t.length, y2.2⟩ : Hd)].flatMap Hd.v) rfl rfl rfl rfl rfl rfl rfl rfl rfl rfl rfl (own_fr (hG2.own.le fun b o _ => hlu5 b o) hb3) (sl_blk (upd_here ..) rfl) (heads_one _) (by dsimp only; omega) (by omega) (fun A6 c6 u6 hO6 hG6 => ?_)) | (refine r_arith rfl rfl rfl rfl rfl rfl rfl (by omega) ?_) | (with_reducible refine r_seq ?_) | (with_reducible refine x_then ?_) | (with_reducible refine r_region ?_) | (with_reducible refine r_skip ?_) | (with_reducible refine r_ret ?_) | (with_reducible refine x_then_ret ?_) | (with_reducible refine r_block ?_) | (with_reducible refine x_block ?_) | (with_reducible refine x_block_ret ?_) | (with_reducible refine r_exit ?_) | (with_reducible refine x_then_exit ?_) | (with_reducible refine x_block_here ?_) | (refine x_block_past rfl ?_) | (refine c_yes rfl (by omega) ?_) | (refine c_no rfl (by omega) ?_) | (refine c_no rfl (fun h => h rfl) ?_) | (refine r_cond_false rfl ?_) | (refine r_cond_true rfl ?_) | (refine r_cond_dec rfl (fun _ => ?_) (fun _ => ?_)) | (refine r_cond_true rfl ?_) | (refine r_cond_false rfl ?_) | (refine c_not rfl (fun _ => ?_) (fun _ => ?_)) | (refine r_off rfl rfl rfl ?_) | (refine q_guard rfl rfl (fun _ => ?_) (fun _ => ?_)) | (refine q_guardn rfl rfl (fun _ => ?_) (fun _ => ?_)))
        have hG7 := hG2.push (t := lookT (cls (ts.map srt)) (srt t)) hlu5 (le_frsh (Le.refl u5) hb3) (y := ⟨y2.1, t.length, y2.2⟩) hO5 hz5 hO6 hG6
        have hL3 : L2 ++ [lookT (cls (ts.map srt)) (srt t)] = shT (cls (ts.map srt)) (ts.take (i + 1)) := by rw [hL2, take_snoc hix]; simp [shT]
        exact x_round ((i + 1, u6), ((A6, c6), (L2 ++ [lookT (cls (ts.map srt)) (srt t)], (_, _)))) ⟨hlt, hL3, hG7⟩ (by dsimp only; omega) (into rfl ⟨rfl, rfl, rfl, rfl, rfl, rfl, trivial⟩ ⟨congrArg (fun z => some (⟨none, gsv (lk (cls (ts.map srt)) v) A6 z c6, 51⟩ : Blk)) (by simp), rfl, trivial⟩ rfl rfl)
    · obtain rfl : i = ts.length := by omega
      rw [List.take_length] at hL2
      subst L2
      repeat' (first | (refine r_pure hT rfl rfl rfl rfl ?_) | (refine r_new hT rfl rfl rfl rfl ?_) | (refine r_write hT rfl rfl rfl ?_) | (refine r_nil ?_) | (refine q_nil ?_) | (refine r_call (implCanon (lk (cls (ts.map srt)) v) (shT (cls (ts.map srt)) ts) A2 _ c2 u hG2.tabs) rfl rfl rfl rfl rfl (hC _ rfl) rfl rfl (fun y8 u8 hy8 => ?_)) | (refine r_arith rfl rfl rfl rfl rfl rfl rfl (by omega) ?_) | (with_reducible refine r_seq ?_) | (with_reducible refine x_then ?_) | (with_reducible refine r_region ?_) | (with_reducible refine r_skip ?_) | (with_reducible refine r_ret ?_) | (with_reducible refine x_then_ret ?_) | (with_reducible refine r_block ?_) | (with_reducible refine x_block ?_) | (with_reducible refine x_block_ret ?_) | (with_reducible refine r_exit ?_) | (with_reducible refine x_then_exit ?_) | (with_reducible refine x_block_here ?_) | (refine x_block_past rfl ?_) | (refine c_yes rfl (by omega) ?_) | (refine c_no rfl (by omega) ?_) | (refine c_no rfl (fun h => h rfl) ?_) | (refine r_cond_false rfl ?_) | (refine r_cond_true rfl ?_) | (refine r_cond_dec rfl (fun _ => ?_) (fun _ => ?_)) | (refine r_cond_true rfl ?_) | (refine r_cond_false rfl ?_) | (refine c_not rfl (fun _ => ?_) (fun _ => ?_)) | (refine r_off rfl rfl rfl ?_) | (refine q_guard rfl rfl (fun _ => ?_) (fun _ => ?_)) | (refine q_guardn rfl rfl (fun _ => ?_) (fun _ => ?_)))
      have hl8 := h0B.trans hlBu
      exact r_fin hT rfl y8 rfl rfl rfl trivial rfl ⟨hy8.1, hl8.trans hy8.2.1, ⟨fun b hb => none_of hl8 (hy8.2.2.1 b hb), fun x hx b hb => none_of hl8 (hy8.2.2.2 x hx b hb)⟩⟩
  · simp only [decide_eq_false hg] at hk1
    have e1 : kV v ts = V0 := if_neg hg
    have e2 : kT v ts = [] := if_neg hg
    rw [e1, e2]
    repeat' (first | (refine r_pure hT rfl rfl rfl rfl ?_) | (refine r_new hT rfl rfl rfl rfl ?_) | (refine r_write hT rfl rfl rfl ?_) | (refine r_nil ?_) | (refine q_nil ?_) | ((refine r_call hk1 rfl rfl rfl rfl rfl (hC _ rfl) rfl rfl (fun y0 u0 hy0 => ?_) ; obtain ⟨hy0, hle0⟩ := hy0 ; subst hy0)) | (refine r_build hT rfl rfl rfl (ps := []) rfl rfl rfl rfl rfl rfl ?_) | (refine r_arith rfl rfl rfl rfl rfl rfl rfl (by omega) ?_) | (with_reducible refine r_seq ?_) | (with_reducible refine x_then ?_) | (with_reducible refine r_region ?_) | (with_reducible refine r_skip ?_) | (with_reducible refine r_ret ?_) | (with_reducible refine x_then_ret ?_) | (with_reducible refine r_block ?_) | (with_reducible refine x_block ?_) | (with_reducible refine x_block_ret ?_) | (with_reducible refine r_exit ?_) | (with_reducible refine x_then_exit ?_) | (with_reducible refine x_block_here ?_) | (refine x_block_past rfl ?_) | (refine c_yes rfl (by omega) ?_) | (refine c_no rfl (by omega) ?_) | (refine c_no rfl (fun h => h rfl) ?_) | (refine r_cond_false rfl ?_) | (refine r_cond_true rfl ?_) | (refine r_cond_dec rfl (fun _ => ?_) (fun _ => ?_)) | (refine r_cond_true rfl ?_) | (refine r_cond_false rfl ?_) | (refine c_not rfl (fun _ => ?_) (fun _ => ?_)) | (refine r_off rfl rfl rfl ?_) | (refine q_guard rfl rfl (fun _ => ?_) (fun _ => ?_)) | (refine q_guardn rfl rfl (fun _ => ?_) (fun _ => ?_)))
    exact r_fin hT rfl (((none, 0), []) : OY) rfl rfl rfl trivial rfl ⟨⟨rfl, own_nil, ORows.nil⟩, hle0, ⟨off_nil, fun x hx => by cases hx⟩⟩
end Go.Proofs.YtkamfnmbidnhdaaDoor
