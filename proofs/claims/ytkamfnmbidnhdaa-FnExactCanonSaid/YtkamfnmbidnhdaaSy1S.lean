/- The walk by a symbolic frame (Sy1S): contracts of functions; each with its own conditions as hypotheses. -/
import Derived.Test.YtkamfnmbidnhdaaSy1R
namespace Go.Sy
section
variable {P : Program} {F : Fr} {tm : Tm} {L : Lm} {u : Hp} {Q : Exit → Act → World → Prop}
/-- A block that may name itself. -/
theorem r_pub {l r : List Oper} (i : Nat) {B : Blk} (vs : Nat → List Value) (hK : F.K = []) (hB : kget L i = some B) (hv : ∀ b, valsE [] (SV.pubs i b B.cells) = some (vs b))
    (next : ∀ b, u b = none → Run P Q F (pubT i b tm) (pubL i b L) (upd u b (.cells (vs b).toArray B.ty (0, 0))) .seq l r) (hD : F.n.D = [] := by rfl) : Run P Q F tm L u .seq l r := by
  intro β a w hf ht hd
  obtain ⟨h1, h2, h3⟩ := hd.loc i B hB
  have hi : (kget L i).isSome = true := by rw [hB]; rfl
  have hu : u (β i) = none := by
    cases h : u (β i) with
    | none => rfl
    | some o => exact absurd rfl ((hd.ext _ o h).2 i hi)
  rw [← pubs_den (b := β i) rfl, valsE_den (L := []) (fun j B b h => by simp [kget] at h) (hv (β i))] at h1
  refine next (β i) hu β a w (fun j hj => by rw [hK] at hj; cases hj) ⟨ht.size, ht.defers, by rw [hD]; rfl, fun t s hs => ?_⟩ ⟨fun j B' hB' => ?_, fun x y hx hy => ?_, fun x o hx => ?_, fun x o hx => ⟨(hd.hid x o hx).1, ?_, fun j hj => ?_⟩, hd.size⟩
  · obtain ⟨s0, g1, rfl⟩ := pubT_get hs
    rw [pub_den rfl]
    exact ⟨(ht.get t s0 g1).1, pub_ok s0 (ht.get t s0 g1).2⟩
  · obtain ⟨_, B0, g1, rfl⟩ := pubL_get hB'
    obtain ⟨x1, x2, x3⟩ := hd.loc j B0 g1
    exact ⟨by rw [pubs_den rfl]; exact x1, x2, pubs_ok _ x3⟩
  · obtain ⟨Bx, hBx⟩ := Option.isSome_iff_exists.1 hx
    obtain ⟨By, hBy⟩ := Option.isSome_iff_exists.1 hy
    obtain ⟨_, _, g1, _⟩ := pubL_get hBx
    obtain ⟨_, _, g2, _⟩ := pubL_get hBy
    exact hd.inj x y (by rw [g1]; rfl) (by rw [g2]; rfl)
  · have hne : ∀ j, (kget (pubL i (β i) L) j).isSome = true → j ≠ i ∧ (kget L j).isSome = true := fun j hj => by
      obtain ⟨Bj, hBj⟩ := Option.isSome_iff_exists.1 hj
      obtain ⟨g0, _, g1, _⟩ := pubL_get hBj
      exact ⟨g0, by rw [g1]; rfl⟩
    by_cases hxb : x = β i
    · subst hxb
      rw [upd_here] at hx; have e := Option.some.inj hx; subst e
      exact ⟨h1, fun j hj e => (hne j hj).1 (hd.inj j i (hne j hj).2 hi e)⟩
    · rw [upd_ne hxb] at hx
      exact ⟨(hd.ext x o hx).1, fun j hj => (hd.ext x o hx).2 j (hne j hj).2⟩
  · rw [upd_ne (fun e => (hd.hid x o hx).2.2 i hi e.symm)]; exact (hd.hid x o hx).2.1
  · obtain ⟨Bj, hBj⟩ := Option.isSome_iff_exists.1 hj
    obtain ⟨_, _, g1, _⟩ := pubL_get hBj
    exact (hd.hid x o hx).2.2 j (by rw [g1]; rfl)
end
end Go.Sy
namespace Go.Proofs.Ytkamfnmbidnhdaa
open Go.Sy
set_option maxRecDepth 100000
set_option maxHeartbeats 4000000
set_option linter.unusedVariables false
set_option linter.unusedSimpArgs false
theorem up_none {u : Hp} {b x : Nat} {o : Obj} (h : upd u b o x = none) : x ≠ b ∧ u x = none := by
  by_cases e : x = b
  · subst e; rw [upd_here] at h; cases h
  · exact ⟨e, by rwa [upd_ne e] at h⟩
abbrev OY := (Option Addr × Nat) × List Hd
theorem implCanon (v : V) (ts : List (List Pr)) (A : Option Addr) (n c : Nat) (h : Hp) (hP : Tabs h A n ts) :
    TriS Try.prog 36 [.ag (gsv v A n c)] [] h (fun y : OY => .ag (gsv (cV v ts) y.1.1 (cT v ts).length y.1.2)) (fun _ => []) (fun y h' => OT h' 80 82 y.1.1 (cT v ts).length y.1.2 y.2 (cT v ts) ∧ Le h h' ∧ OffAll h y.1.1 y.2) := by
  obtain rfl := hP.len
  refine enterS Try.func36 rfl (n := 18) rfl rfl (fun k N => ?_)
  by_cases hg : GOk v ts
  · obtain ⟨h1, h2, h3, h4⟩ := gok_in hg
    have e1 : cV v ts = ren (ordOf ts v) v := if_pos hg
    have e2 : cT v ts = cTs ts (ordOf ts v) := if_pos hg
    have e3 : (cTs ts (ordOf ts v)).length = (ordOf ts v).length := by simp [cTs]
    rw [e1, e2, e3]
    repeat' (first | (refine r_pure hT rfl rfl rfl rfl ?_) | (refine r_new hT rfl rfl rfl rfl ?_) | (refine r_write hT rfl rfl rfl ?_) | (refine r_nil ?_) | (refine q_nil ?_) | ((refine r_call (implOk v ts A ts.length c _ hP) rfl rfl rfl rfl rfl (hC _ rfl) rfl rfl (fun y u1 hy => ?_) ; obtain ⟨hy1, hle1⟩ := hy ; subst hy1)) | (refine c_not rfl (fun hx => absurd hg hx) (fun _ => ?_)) | (refine r_mkmap rfl rfl rfl rfl (fun g hg0 => ?_)) | (refine r_arith rfl rfl rfl rfl rfl rfl rfl (by omega) ?_) | (with_reducible refine r_seq ?_) | (with_reducible refine x_then ?_) | (with_reducible refine r_region ?_) | (refine r_draw hM (by kernel_rfl) ?_) | (with_reducible refine r_skip ?_) | (with_reducible refine r_ret ?_) | (with_reducible refine x_then_ret ?_) | (with_reducible refine r_block ?_) | (with_reducible refine x_block ?_) | (with_reducible refine x_block_ret ?_) | (with_reducible refine r_exit ?_) | (with_reducible refine x_then_exit ?_) | (with_reducible refine x_block_here ?_) | (refine x_block_past rfl ?_) | (refine c_yes rfl (by omega) ?_) | (refine c_no rfl (by omega) ?_) | (refine c_no rfl (fun h => h rfl) ?_) | (refine r_cond_false rfl ?_) | (refine r_cond_true rfl ?_) | (refine r_cond_dec rfl (fun _ => ?_) (fun _ => ?_)) | (refine r_cond_true rfl ?_) | (refine r_cond_false rfl ?_) | (refine c_not rfl (fun _ => ?_) (fun _ => ?_)) | (refine r_off rfl rfl rfl ?_) | (refine q_guard rfl rfl (fun _ => ?_) (fun _ => ?_)) | (refine q_guardn rfl rfl (fun _ => ?_) (fun _ => ?_)))
    refine r_pub 3 (fun _ => [Value.map (some g)]) rfl rfl (fun _ => rfl) (fun p3 hp3 => ?_)
    refine r_pub 4 (fun _ => gCells V0 none 0 0) rfl rfl (fun _ => rfl) (fun p4 hp4 => ?_)
    refine r_pub 1 (fun _ => gCells v A ts.length c) rfl rfl (fun _ => rfl) (fun p1 hp1 => ?_)
    refine r_pub 5 (fun p5 => [Value.func (.func 63) ⟨[]⟩ ⟨[ptr p3, ptr p4, ptr p1, ptr p5]⟩]) rfl rfl (fun _ => rfl) (fun p5 hp5 => ?_)
    change upd u1 g (.map #[] 0) p3 = none at hp3
    change upd (upd u1 g (.map #[] 0)) p3 (.cells [Value.map (some g)].toArray 88 (0, 0)) p4 = none at hp4
    change upd (upd (upd u1 g (.map #[] 0)) p3 (.cells [Value.map (some g)].toArray 88 (0, 0))) p4 (.cells (gCells V0 none 0 0).toArray 48 (0, 0)) p1 = none at hp1
    change upd (upd (upd (upd u1 g (.map #[] 0)) p3 (.cells [Value.map (some g)].toArray 88 (0, 0))) p4 (.cells (gCells V0 none 0 0).toArray 48 (0, 0))) p1 (.cells (gCells v A ts.length c).toArray 48 (0, 0)) p5 = none at hp5
    have n3 := up_none hp3
    have n4 := up_none hp4
    have n4b := up_none n4.2
    have n1 := up_none hp1
    have n1b := up_none n1.2
    have n1c := up_none n1b.2
    have n5 := up_none hp5
    have n5b := up_none n5.2
    have n5c := up_none n5b.2
    have n5d := up_none n5c.2
    have hle0 : Le u1 (upd (upd (upd u1 p3 (.cells [Value.map (some g)].toArray 88 (0, 0))) p1 (.cells (gCells v A ts.length c).toArray 48 (0, 0))) p5 (.cells [Value.func (.func 63) ⟨[]⟩ ⟨[ptr p3, ptr p4, ptr p1, ptr p5]⟩].toArray 89 (0, 0))) :=
      (((Le.refl u1).upd n3.2).upd n1c.2).upd n5d.2
    have hC0 : CSt (upd (upd (upd u1 p3 (.cells [Value.map (some g)].toArray 88 (0, 0))) p1 (.cells (gCells v A ts.length c).toArray 48 (0, 0))) p5 (.cells [Value.func (.func 63) ⟨[]⟩ ⟨[ptr p3, ptr p4, ptr p1, ptr p5]⟩].toArray 89 (0, 0)))
        (upd (upd (upd (upd (upd u1 g (.map #[] 0)) p3 (.cells [Value.map (some g)].toArray 88 (0, 0))) p4 (.cells (gCells V0 none 0 0).toArray 48 (0, 0))) p1 (.cells (gCells v A ts.length c).toArray 48 (0, 0))) p5 (.cells [Value.func (.func 63) ⟨[]⟩ ⟨[ptr p3, ptr p4, ptr p1, ptr p5]⟩].toArray 89 (0, 0)))
        p3 p4 p1 p5 g v A c ts [] none 0 [] [] [] := by
      refine ⟨(MAt.made Try.prog iKey u1 g).same ?_, fun a => ⟨by simp [mhas], fun hx => by cases hx⟩, ?_, ⟨rfl, own_nil, ORows.nil⟩, fun b o hb => ?_, fun b hb => ?_, ?_, ?_, upd_here .., ⟨Ne.symm n4b.1, fun hx => ?_, fun hx => ?_⟩, hP.le (hle1.trans hle0)⟩
      · rw [upd_ne (Ne.symm n5d.1), upd_ne (Ne.symm n1c.1), upd_ne (Ne.symm n4b.1), upd_ne (Ne.symm n3.1)]
      · rw [upd_ne (Ne.symm n5b.1), upd_ne (Ne.symm n1.1), upd_here]; rfl
      · by_cases b5 : b = p5
        · subst b5; rw [upd_here] at hb ⊢; exact hb
        rw [upd_ne b5] at hb ⊢
        by_cases b1 : b = p1
        · subst b1; rw [upd_here] at hb ⊢; exact hb
        rw [upd_ne b1] at hb ⊢
        by_cases b3 : b = p3
        · subst b3; rw [upd_here] at hb; rw [upd_ne (Ne.symm n4.1), upd_here]; exact hb
        rw [upd_ne b3] at hb
        rw [upd_ne (fun e => by subst e; rw [n4b.2] at hb; cases hb), upd_ne b3, upd_ne (fun e => by subst e; rw [hg0] at hb; cases hb)]; exact hb
      · rcases hb with rfl | rfl | hb
        · rw [upd_ne (Ne.symm n5d.1), upd_ne (Ne.symm n1c.1), upd_ne (Ne.symm n3.1)]; exact hg0
        · rw [upd_ne (Ne.symm n5b.1), upd_ne (Ne.symm n1.1), upd_ne n4.1]; exact n4b.2
        · rcases hb with hb | ⟨x, hx, _⟩
          · cases hb
          · cases hx
      · rw [upd_ne (Ne.symm n5c.1), upd_ne (Ne.symm n1b.1), upd_here]
      · rw [upd_ne (Ne.symm n5.1), upd_here]
      · rcases hx with hb | ⟨x, hx, _⟩
        · cases hb
        · cases hx
      · rcases hx with hb | ⟨x, hx, _⟩
        · cases hb
        · cases hx
    repeat' (first | (refine r_pure hT rfl rfl rfl rfl ?_) | (refine r_new hT rfl rfl rfl rfl ?_) | (refine r_write hT rfl rfl rfl ?_) | (refine r_nil ?_) | (refine q_nil ?_) | ((refine r_call (numC _ p3 p4 p1 p5 g v A c ts h1 (by omega) (fun t ht => by have := h4 t ht; omega) (ts.length + 1) [] v _ _ [] none 0 [] [] hC0 (nm_nil _) h2 (by simp) rfl) rfl rfl rfl rfl rfl (hC _ rfl) rfl rfl (fun y u6 hy => ?_) ; obtain ⟨hyC, hyK⟩ := hy)) | ((refine r_store hT rfl rfl rfl rfl rfl rfl rfl rfl rfl rfl hyC.out (Nat.le_succ 4) ?_ ; have hat9 : At (upd u6 p4 (.cells (gCells (ren (go ts (ts.length + 1) [] v) v) y.2.1.1 (go ts (ts.length + 1) [] v).length y.2.1.2).toArray 48 (0, 0))) p4 0 (gCells (ren (go ts (ts.length + 1) [] v) v) y.2.1.1 (go ts (ts.length + 1) [] v).length y.2.1.2) := at_of (upd_here ..))) | (refine r_load hT hat9 rfl rfl rfl rfl rfl (Nat.add_zero _).symm rfl rfl rfl rfl rfl ?_) | (refine r_arith rfl rfl rfl rfl rfl rfl rfl (by omega) ?_) | (with_reducible refine r_seq ?_) | (with_reducible refine x_then ?_) | (with_reducible refine r_region ?_) | (refine r_draw hM (by kernel_rfl) ?_) | (with_reducible refine r_skip ?_) | (with_reducible refine r_ret ?_) | (with_reducible refine x_then_ret ?_) | (with_reducible refine r_block ?_) | (with_reducible refine x_block ?_) | (with_reducible refine x_block_ret ?_) | (with_reducible refine r_exit ?_) | (with_reducible refine x_then_exit ?_) | (with_reducible refine x_block_here ?_) | (refine x_block_past rfl ?_) | (refine c_yes rfl (by omega) ?_) | (refine c_no rfl (by omega) ?_) | (refine c_no rfl (fun h => h rfl) ?_) | (refine r_cond_false rfl ?_) | (refine r_cond_true rfl ?_) | (refine r_cond_dec rfl (fun _ => ?_) (fun _ => ?_)) | (refine r_cond_true rfl ?_) | (refine r_cond_false rfl ?_) | (refine c_not rfl (fun _ => ?_) (fun _ => ?_)) | (refine r_off rfl rfl rfl ?_) | (refine q_guard rfl rfl (fun _ => ?_) (fun _ => ?_)) | (refine q_guardn rfl rfl (fun _ => ?_) (fun _ => ?_)))
    rw [List.nil_append, cNew_nil] at hyC
    refine r_fin hT rfl ((y.2.1, y.2.2) : OY) rfl rfl rfl trivial rfl ⟨hyC.ot.keep fun b o hb ho => ?_, fun x o hx => ?_, fun b hb => ?_, fun x hx b hb => ?_⟩
    · rw [upd_ne (fun e => by subst e; exact hyC.ap.2.2 hb)]; exact ho
    · rw [upd_ne (fun e => by subst e; rw [hle1 _ _ hx] at n4b; cases n4b.2)]
      exact hyC.base x o (hle0 x o (hle1 x o hx))
    · have h0n := hyC.off b (.inr (.inr (.inl hb)))
      cases hh : h b with
      | none => rfl
      | some o => rw [hle0 b o (hle1 b o hh)] at h0n; cases h0n
    · have h0n := hyC.off b (.inr (.inr (.inr ⟨x, hx, hb⟩)))
      cases hh : h b with
      | none => rfl
      | some o => rw [hle0 b o (hle1 b o hh)] at h0n; cases h0n
  · have e1 : cV v ts = V0 := if_neg hg
    have e2 : cT v ts = [] := if_neg hg
    rw [e1, e2]
    repeat' (first | (refine r_pure hT rfl rfl rfl rfl ?_) | (refine r_new hT rfl rfl rfl rfl ?_) | (refine r_write hT rfl rfl rfl ?_) | (refine r_nil ?_) | (refine q_nil ?_) | ((refine r_call (implOk v ts A ts.length c _ hP) rfl rfl rfl rfl rfl (hC _ rfl) rfl rfl (fun y u1 hy => ?_) ; obtain ⟨hy1, hle1⟩ := hy ; subst hy1)) | (refine c_not rfl (fun _ => ?_) (fun hx => absurd hx hg)) | (refine r_build hT rfl rfl rfl rfl rfl rfl rfl rfl rfl ?_) | (refine r_arith rfl rfl rfl rfl rfl rfl rfl (by omega) ?_) | (with_reducible refine r_seq ?_) | (with_reducible refine x_then ?_) | (with_reducible refine r_region ?_) | (refine r_draw hM (by kernel_rfl) ?_) | (with_reducible refine r_skip ?_) | (with_reducible refine r_ret ?_) | (with_reducible refine x_then_ret ?_) | (with_reducible refine r_block ?_) | (with_reducible refine x_block ?_) | (with_reducible refine x_block_ret ?_) | (with_reducible refine r_exit ?_) | (with_reducible refine x_then_exit ?_) | (with_reducible refine x_block_here ?_) | (refine x_block_past rfl ?_) | (refine c_yes rfl (by omega) ?_) | (refine c_no rfl (by omega) ?_) | (refine c_no rfl (fun h => h rfl) ?_) | (refine r_cond_false rfl ?_) | (refine r_cond_true rfl ?_) | (refine r_cond_dec rfl (fun _ => ?_) (fun _ => ?_)) | (refine r_cond_true rfl ?_) | (refine r_cond_false rfl ?_) | (refine c_not rfl (fun _ => ?_) (fun _ => ?_)) | (refine r_off rfl rfl rfl ?_) | (refine q_guard rfl rfl (fun _ => ?_) (fun _ => ?_)) | (refine q_guardn rfl rfl (fun _ => ?_) (fun _ => ?_)))
    exact r_fin hT rfl (((none, 0), []) : OY) rfl rfl rfl trivial rfl ⟨⟨rfl, own_nil, ORows.nil⟩, hle1, off_nil, fun x hx => by cases hx⟩
end Go.Proofs.Ytkamfnmbidnhdaa
