/- The walk by a symbolic frame: a block of the frame, which may name itself, handed to the heap at large. -/
import Derived.Test.YtkamfnmbidnhdaaDoorSqAG
import Derived.Test.YtkamfnmbidnhdaaDoorSqAP
import Derived.Test.YtkamfnmbidnhdaaDoorSqAN
set_option linter.unusedVariables false
set_option linter.unusedSimpArgs false
set_option linter.unusedSectionVars false
namespace Go.Sy
section
variable {P : Program} {F : Fr} {tm : Tm} {L : Lm} {u : Hp} {Q : Exit → Act → World → Prop}
/-- A block that may name itself. -/
theorem r_pub {l r : List Oper} (i : Nat) {B : Blk} (vs : Nat → List Value) (hK : F.K = []) (hB : kget L i = some B) (hv : ∀ b, valsE [] (SV.pubs i b B.cells) = some (vs b))
    (next : ∀ b, u b = none → Run P Q F (pubT i b tm) (pubL i b L) (upd u b (.cells (vs b).toArray B.ty (0, 0))) .seq l r) (hD : F.n.D = [] := by rfl) : Run P Q F tm L u .seq l r := by
  intro β a w hf ht hd
  obtain ⟨h1, h2, h3⟩ := hd.loc i B hB
  have hi : (kget L i).isSome = true := by rw [hB]; rfl
  have hu : u (β i) = none := by
    cases h : u (β i) with
    | none => rfl
    | some o => exact absurd rfl ((hd.ext _ o h).2 i hi)
  rw [← pubs_den (b := β i) rfl, valsE_den (L := []) (fun j B b h => by simp [kget] at h) (hv (β i))] at h1
  refine next (β i) hu β a w (fun j hj => by rw [hK] at hj; cases hj) ⟨ht.size, ht.defers, by rw [hD]; rfl, fun t s hs => ?_⟩ ⟨fun j B' hB' => ?_, fun x y hx hy => ?_, fun x o hx => ?_, fun x o hx => ⟨(hd.hid x o hx).1, ?_, fun j hj => ?_⟩, hd.size⟩
  · obtain ⟨s0, g1, rfl⟩ := pubT_get hs
    rw [pub_den rfl]
    exact ⟨(ht.get t s0 g1).1, pub_ok s0 (ht.get t s0 g1).2⟩
  · obtain ⟨_, B0, g1, rfl⟩ := pubL_get hB'
    obtain ⟨x1, x2, x3⟩ := hd.loc j B0 g1
    exact ⟨by rw [pubs_den rfl]; exact x1, x2, pubs_ok _ x3⟩
  · obtain ⟨Bx, hBx⟩ := Option.isSome_iff_exists.1 hx
    obtain ⟨By, hBy⟩ := Option.isSome_iff_exists.1 hy
    obtain ⟨_, _, g1, _⟩ := pubL_get hBx
    obtain ⟨_, _, g2, _⟩ := pubL_get hBy
    exact hd.inj x y (by rw [g1]; rfl) (by rw [g2]; rfl)
  · have hne : ∀ j, (kget (pubL i (β i) L) j).isSome = true → j ≠ i ∧ (kget L j).isSome = true := fun j hj => by
      obtain ⟨Bj, hBj⟩ := Option.isSome_iff_exists.1 hj
      obtain ⟨g0, _, g1, _⟩ := pubL_get hBj
      exact ⟨g0, by rw [g1]; rfl⟩
    by_cases hxb : x = β i
    · subst hxb
      rw [upd_here] at hx; have e := Option.some.inj hx; subst e
      exact ⟨h1, fun j hj e => (hne j hj).1 (hd.inj j i (hne j hj).2 hi e)⟩
    · rw [upd_ne hxb] at hx
      exact ⟨(hd.ext x o hx).1, fun j hj => (hd.ext x o hx).2 j (hne j hj).2⟩
  · rw [upd_ne (fun e => (hd.hid x o hx).2.2 i hi e.symm)]; exact (hd.hid x o hx).2.1
  · obtain ⟨Bj, hBj⟩ := Option.isSome_iff_exists.1 hj
    obtain ⟨_, _, g1, _⟩ := pubL_get hBj
    exact (hd.hid x o hx).2.2 j (by rw [g1]; rfl)
end
theorem up_none {u : Hp} {b x : Nat} {o : Obj} (h : upd u b o x = none) : x ≠ b ∧ u x = none := by
  by_cases e : x = b
  · subst e; rw [upd_here] at h; cases h
  · exact ⟨e, by rwa [upd_ne e] at h⟩
end Go.Sy
/- The specification's freezing, whole. No condition. -/
namespace Go.Proofs.YtkamfnmbidnhdaaDoor
open Go.Sy
set_option maxRecDepth 100000
set_option maxHeartbeats 8000000
set_option linter.unusedVariables false
set_option linter.unusedSimpArgs false
def multi (ts : List (List Pr)) (v : V) (a : Nat) : Bool := decide (1 < (rf ts (ts.length + 1) [] v).count a)
def fSV (v : V) (A : Option Addr) (n c b1 b2 : Nat) : List SV := [.v (.int .i64 v.k), .v (.int .i64 v.n), .v (.string v.s), .v (.int .i64 v.a), .v (.slice A n c), .v (.slice (some ⟨b1, 0, none⟩) n n), .v (.slice (some ⟨b2, 0, none⟩) n n), .v (.int .i64 0), .v (.slice none 0 0)]
theorem l4freeze (v : V) (ts : List (List Pr)) (A : Option Addr) (n c : Nat) (h : Hp) (hP : Tabs h A n ts) (hA : AllIn ts) (hv : In ts.length v) (hn : ts.length ≤ 1000) (hc : ∀ t ∈ ts, t.length ≤ 1000) (hfit : Fit ts) (hvf : v.fit) (hRS : (rf ts (ts.length + 1) [] v).length ≤ 1000000)
    (r : TS) (ht : tx ts (multi ts v) plT dcN (ts.length + 1) ⟨[], []⟩ v = some r) (hrL : r.L.length ≤ 1000000) (hro : r.o.length ≤ 900000000) :
    Pur Tryd.prog 64 [.ag (gsv v A n c)] h (fun y : ByteArray => .v (.string y)) ⟨r.o.toArray⟩ := by
  have hnn := hP.len
  subst hnn
  refine enterS Tryd.func64 rfl (n := 28) rfl rfl (fun k N => ?_)
  repeat' (first | (refine r_pure hT rfl rfl rfl rfl ?_) | (refine r_new hT rfl rfl rfl rfl ?_) | (refine r_write hT rfl rfl rfl ?_) | (refine r_nil ?_) | (refine q_nil ?_) | (refine r_arith rfl rfl rfl rfl rfl rfl rfl (by omega) ?_) | (with_reducible refine r_seq ?_) | (with_reducible refine x_then ?_) | (with_reducible refine r_region ?_) | (with_reducible refine r_skip ?_) | (with_reducible refine r_ret ?_) | (with_reducible refine x_then_ret ?_) | (with_reducible refine r_block ?_) | (with_reducible refine x_block ?_) | (with_reducible refine x_block_ret ?_) | (with_reducible refine r_exit ?_) | (with_reducible refine x_then_exit ?_) | (with_reducible refine x_block_here ?_) | (refine x_block_past rfl ?_) | (refine c_yes rfl (by omega) ?_) | (refine c_no rfl (by omega) ?_) | (refine c_no rfl (fun h => h rfl) ?_) | (refine r_cond_false rfl ?_) | (refine r_cond_true rfl ?_) | (refine r_cond_dec rfl (fun _ => ?_) (fun _ => ?_)) | (refine r_cond_true rfl ?_) | (refine r_cond_false rfl ?_) | (refine c_not rfl (fun _ => ?_) (fun _ => ?_)) | (refine r_off rfl rfl rfl ?_) | (refine q_guard rfl rfl (fun _ => ?_) (fun _ => ?_)) | (refine q_guardn rfl rfl (fun _ => ?_) (fun _ => ?_)))
  refine r_cut (γ := Hp × (Nat × Nat)) (fun g => Le h g.1 ∧ Own g.1 (some ⟨g.2.1, 0, none⟩) ts.length ts.length 3 1 (ledV ts.length []) ∧ Own g.1 (some ⟨g.2.2, 0, none⟩) ts.length ts.length 3 1 (labV ts.length []) ∧ h g.2.1 = none ∧ h g.2.2 = none ∧ g.2.1 ≠ g.2.2)
    (fun _ => [(1, .p 1 0), (3, .p 14 0)]) (fun g => [(14, ⟨none, fSV v A ts.length c g.2.1 g.2.2, 140⟩), (1, ⟨none, gsv v A ts.length c, 51⟩)]) (fun g => g.1)
    (r_many (id := 1) [0, 1, 2, 3, 5, 6, 7] [] h (Le.refl h) hM (by kernel_rfl) rfl (by kernel_rfl) rfl rfl rfl (fun β0 => ?_)) (fun g hg => ?_)
  · repeat' (first | (refine r_pure hT rfl rfl rfl rfl ?_) | (refine r_new hT rfl rfl rfl rfl ?_) | (refine r_write hT rfl rfl rfl ?_) | (refine r_nil ?_) | (refine q_nil ?_) | (refine r_makeN hT rfl rfl rfl rfl rfl rfl rfl (by simp) rfl rfl (by dsimp only; omega) (by omega) (fun b1 (hb1 : h b1 = none) => ?_)) | (refine r_makeN hT rfl rfl rfl rfl rfl rfl rfl (by simp) rfl rfl (by dsimp only; omega) (by omega) (fun b2 (hb2 : upd h b1 _ b2 = none) => ?_)) | (refine m_keep (le_frsh (Le.refl h) hb1) ⟨rfl, trivial⟩ rfl rfl ?_) | (refine m_keep (le_frsh (le_frsh (Le.refl h) hb1) hb2) ⟨rfl, trivial⟩ rfl rfl ?_) | (refine r_build hT rfl rfl rfl (ps := [(0, .tmp 4), (1, .tmp 8), (2, .tmp 12)]) rfl rfl rfl rfl rfl rfl ?_) | (refine r_arith rfl rfl rfl rfl rfl rfl rfl (by omega) ?_) | (with_reducible refine r_seq ?_) | (with_reducible refine x_then ?_) | (with_reducible refine r_region ?_) | (refine r_draw hM (by kernel_rfl) ?_) | (with_reducible refine r_skip ?_) | (with_reducible refine r_ret ?_) | (with_reducible refine x_then_ret ?_) | (with_reducible refine r_block ?_) | (with_reducible refine x_block ?_) | (with_reducible refine x_block_ret ?_) | (with_reducible refine r_exit ?_) | (with_reducible refine x_then_exit ?_) | (with_reducible refine x_block_here ?_) | (refine x_block_past rfl ?_) | (refine c_yes rfl (by omega) ?_) | (refine c_no rfl (by omega) ?_) | (refine c_no rfl (fun h => h rfl) ?_) | (refine r_cond_false rfl ?_) | (refine r_cond_true rfl ?_) | (refine r_cond_dec rfl (fun _ => ?_) (fun _ => ?_)) | (refine r_cond_true rfl ?_) | (refine r_cond_false rfl ?_) | (refine c_not rfl (fun _ => ?_) (fun _ => ?_)) | (refine r_off rfl rfl rfl ?_) | (refine q_guard rfl rfl (fun _ => ?_) (fun _ => ?_)) | (refine q_guardn rfl rfl (fun _ => ?_) (fun _ => ?_)) | (refine s_nil ?_) | (with_reducible refine a_full ?_) | (refine m_step rfl rfl (List.cons_ne_nil _ _) ?_) | (refine allR_cons rfl ?_ ?_) | (exact allR_nil) | (refine m_end rfl rfl rfl ?_))
    · replace hb2 : upd h b1 (.cells (reps ts.length [Value.int .i64 0]).toArray 3 (0, 0)) b2 = none := hb2
      have n12 : b2 ≠ b1 := fun e => by rw [e, upd_here] at hb2; cases hb2
      have hb20 : h b2 = none := by rw [upd_ne n12] at hb2; exact hb2
      have hO1 : Own (upd (upd h b1 (.cells (reps ts.length [Value.int .i64 0]).toArray 3 (0, 0))) b2 (.cells (reps ts.length [Value.int .i64 0]).toArray 3 (0, 0))) (some ⟨b1, 0, none⟩) ts.length ts.length 3 1 (reps ts.length [Value.int .i64 0]) := own_fr (own_made rfl) hb2
      have hO2 : Own (upd (upd h b1 (.cells (reps ts.length [Value.int .i64 0]).toArray 3 (0, 0))) b2 (.cells (reps ts.length [Value.int .i64 0]).toArray 3 (0, 0))) (some ⟨b2, 0, none⟩) ts.length ts.length 3 1 (reps ts.length [Value.int .i64 0]) := own_made rfl
      have hl2 := le_frsh (o := (.cells (reps ts.length [Value.int .i64 0]).toArray 3 (0, 0))) (le_frsh (o := (.cells (reps ts.length [Value.int .i64 0]).toArray 3 (0, 0))) (Le.refl h) hb1) hb2
      exact x_cut (_, (b1, b2)) ⟨hl2, by rw [ledV_zero]; exact hO1, by rw [labV_zero]; exact hO2, hb1, hb20, Ne.symm n12⟩ (into rfl ⟨rfl, rfl, trivial⟩ ⟨rfl, rfl, trivial⟩ rfl rfl)
    · replace hb2 : upd h b1 (.cells (reps ts.length [Value.int .i64 0]).toArray 3 (0, 0)) b2 = none := hb2
      have n12 : b2 ≠ b1 := fun e => by rw [e, upd_here] at hb2; cases hb2
      have hb20 : h b2 = none := by rw [upd_ne n12] at hb2; exact hb2
      have hO1 : Own (upd (upd h b1 (.cells (reps ts.length [Value.int .i64 0]).toArray 3 (0, 0))) b2 (.cells (reps ts.length [Value.int .i64 0]).toArray 3 (0, 0))) (some ⟨b1, 0, none⟩) ts.length ts.length 3 1 (reps ts.length [Value.int .i64 0]) := own_fr (own_made rfl) hb2
      have hO2 : Own (upd (upd h b1 (.cells (reps ts.length [Value.int .i64 0]).toArray 3 (0, 0))) b2 (.cells (reps ts.length [Value.int .i64 0]).toArray 3 (0, 0))) (some ⟨b2, 0, none⟩) ts.length ts.length 3 1 (reps ts.length [Value.int .i64 0]) := own_made rfl
      have hl2 := le_frsh (o := (.cells (reps ts.length [Value.int .i64 0]).toArray 3 (0, 0))) (le_frsh (o := (.cells (reps ts.length [Value.int .i64 0]).toArray 3 (0, 0))) (Le.refl h) hb1) hb2
      exact x_cut (_, (b2, b1)) ⟨hl2, by rw [ledV_zero]; exact hO2, by rw [labV_zero]; exact hO1, hb20, hb1, n12⟩ (into rfl ⟨rfl, rfl, trivial⟩ ⟨rfl, rfl, trivial⟩ rfl rfl)
  · obtain ⟨u2, ⟨b1, b2⟩⟩ := g
    obtain ⟨hl2, hO1, hO2, hb1, hb2, h12⟩ := hg
    dsimp only at *
    repeat' (first | (refine r_pure hT rfl rfl rfl rfl ?_) | (refine r_new hT rfl rfl rfl rfl ?_) | (refine r_write hT rfl rfl rfl ?_) | (refine r_nil ?_) | (refine q_nil ?_) | (refine r_arith rfl rfl rfl rfl rfl rfl rfl (by omega) ?_) | (with_reducible refine r_seq ?_) | (with_reducible refine x_then ?_) | (with_reducible refine r_region ?_) | (refine r_draw hM (by kernel_rfl) ?_) | (with_reducible refine r_skip ?_) | (with_reducible refine r_ret ?_) | (with_reducible refine x_then_ret ?_) | (with_reducible refine r_block ?_) | (with_reducible refine x_block ?_) | (with_reducible refine x_block_ret ?_) | (with_reducible refine r_exit ?_) | (with_reducible refine x_then_exit ?_) | (with_reducible refine x_block_here ?_) | (refine x_block_past rfl ?_) | (refine c_yes rfl (by omega) ?_) | (refine c_no rfl (by omega) ?_) | (refine c_no rfl (fun h => h rfl) ?_) | (refine r_cond_false rfl ?_) | (refine r_cond_true rfl ?_) | (refine r_cond_true rfl ?_) | (refine r_cond_false rfl ?_) | (refine r_off rfl rfl rfl ?_) | (refine q_guard rfl rfl (fun _ => ?_) (fun _ => ?_)) | (refine q_guardn rfl rfl (fun _ => ?_) (fun _ => ?_)))
    refine r_pub 14 (fun pb => fCells ⟨pb, v, A, c, b1, 0, ts.length, b2, 0, ts.length⟩ ts.length (([] : List Nat).length : Int) none ([] : List UInt8).length 0) rfl rfl (fun _ => rfl) (fun pb hpb => ?_)
    have hne1 : pb ≠ b1 := fun e => hO1.live rfl (by rw [← e]; exact hpb)
    have hne2 : pb ≠ b2 := fun e => hO2.live rfl (by rw [← e]; exact hpb)
    have hF : FSt h (upd u2 pb (.cells (fCells ⟨pb, v, A, c, b1, 0, ts.length, b2, 0, ts.length⟩ ts.length (([] : List Nat).length : Int) none ([] : List UInt8).length 0).toArray 140 (0, 0))) ⟨pb, v, A, c, b1, 0, ts.length, b2, 0, ts.length⟩ ts none 0 [] [] [] :=
      ⟨upd_here .., own_fr hO1 hpb, own_fr hO2 hpb, own_nil, le_frsh hl2 hpb, none_of hl2 hpb, hb1, hb2, off_nil, ⟨hne1, hne2, h12, by simp [blk], by simp [blk], by simp [blk]⟩, hP⟩
    generalize upd u2 pb (.cells (fCells ⟨pb, v, A, c, b1, 0, ts.length, b2, 0, ts.length⟩ ts.length (([] : List Nat).length : Int) none ([] : List UInt8).length 0).toArray 140 (0, 0)) = u3 at *
    repeat' (first | (refine r_pure hT rfl rfl rfl rfl ?_) | (refine r_new hT rfl rfl rfl rfl ?_) | (refine r_write hT rfl rfl rfl ?_) | (refine r_nil ?_) | (refine q_nil ?_) | (refine r_call (countW h ⟨pb, v, A, c, b1, 0, ts.length, b2, 0, ts.length⟩ ts hA (by omega) (fun t ht => by have := hc t ht; omega) [] none 0 [] (ts.length + 1) [] [] v u3 hF (nm_nil _) hv (fun a => Iff.rfl) (by simp) hRS) rfl rfl rfl rfl rfl (hC _ rfl) rfl rfl (fun _ u4 hF4 => ?_)) | (refine r_call (valF h ⟨pb, v, A, c, b1, 0, ts.length, b2, 0, ts.length⟩ ts hA (fun t ht => by have := hc t ht; omega) hfit (rf ts (ts.length + 1) [] v) (multi ts v) (fun a => rfl) (ts.length + 1) ⟨[], []⟩ v r u4 none 0 hF4 ht hv hvf hrL hro) rfl rfl rfl rfl rfl (hC _ rfl) rfl rfl (fun y u5 hF5 => ?_)) | (refine r_load hT hF5.at_ rfl rfl rfl rfl rfl rfl rfl rfl rfl rfl rfl ?_) | (refine r_str (s := ⟨r.o.toArray⟩) hT rfl rfl rfl rfl rfl rfl rfl rfl rfl rfl rfl (by rw [bc1_of]; exact hF5.out.sl) ?_) | (refine r_arith rfl rfl rfl rfl rfl rfl rfl (by omega) ?_) | (with_reducible refine r_seq ?_) | (with_reducible refine x_then ?_) | (with_reducible refine r_region ?_) | (refine r_draw hM (by kernel_rfl) ?_) | (with_reducible refine r_skip ?_) | (with_reducible refine r_ret ?_) | (with_reducible refine x_then_ret ?_) | (with_reducible refine r_block ?_) | (with_reducible refine x_block ?_) | (with_reducible refine x_block_ret ?_) | (with_reducible refine r_exit ?_) | (with_reducible refine x_then_exit ?_) | (with_reducible refine x_block_here ?_) | (refine x_block_past rfl ?_) | (refine c_yes rfl (by omega) ?_) | (refine c_no rfl (by omega) ?_) | (refine c_no rfl (fun h => h rfl) ?_) | (refine r_cond_false rfl ?_) | (refine r_cond_true rfl ?_) | (refine r_cond_dec rfl (fun _ => ?_) (fun _ => ?_)) | (refine r_cond_true rfl ?_) | (refine r_cond_false rfl ?_) | (refine c_not rfl (fun _ => ?_) (fun _ => ?_)) | (refine r_off rfl rfl rfl ?_) | (refine q_guard rfl rfl (fun _ => ?_) (fun _ => ?_)) | (refine q_guardn rfl rfl (fun _ => ?_) (fun _ => ?_)))
    refine St.weak hF5.base ?_
    exact r_fin hT rfl (⟨r.o.toArray⟩ : ByteArray) rfl rfl rfl trivial rfl ⟨rfl, rfl⟩
end Go.Proofs.YtkamfnmbidnhdaaDoor
namespace Go.Proofs.YtkamfnmbidnhdaaDoor
open Go.Sy
set_option maxRecDepth 100000
set_option maxHeartbeats 4000000
set_option linter.unusedVariables false
set_option linter.unusedSimpArgs false
theorem WSt.le {h0 u u' : Hp} {pb : Nat} {g : V} {A : Option Addr} {c : Nat} {ts : List (List Pr)} {bn offn cn : Nat} {Ao : Option Addr} {co : Nat} {ord : List Nat} (h : WSt h0 u pb g A c ts bn offn cn Ao co ord) (hl : Le u u') : WSt h0 u' pb g A c ts bn offn cn Ao co ord :=
  ⟨hl _ _ h.cell, h.no.le fun b o _ => hl b o, h.od.le fun b o _ => hl b o, h.base.trans hl, h.hp, h.hn, h.ho, h.ap, h.tabs⟩
theorem valOld {h0 u : Hp} {pb : Nat} {g : V} {A : Option Addr} {c : Nat} {ts : List (List Pr)} {bn offn cn : Nat} {Ao : Option Addr} {co : Nat} {ord : List Nat} (hW : WSt h0 u pb g A c ts bn offn cn Ao co ord) (v : V) (hv : In ts.length v) (hio : v.k = 4 → v.a.toNat ∈ ord) :
    Pur Tryd.prog 130 [.v (.pointer (some ⟨pb, 0, none⟩)), .ag v.sv] u (fun r : V => .ag r.sv) (ren ord v) := by
  refine enterS Tryd.func130 rfl (n := 73) rfl rfl (fun k N => ?_)
  by_cases h4 : v.k = 4
  · have hva := hv h4
    have hlt : v.a.toNat < ts.length := by omega
    have hin := hio h4
    have hx := numL_get (ord := ord) hlt
    rw [if_pos hin] at hx
    have hatW := hW.at_
    have hatn := own_at hW.no hx
    repeat' (first | (refine r_pure hT rfl rfl rfl rfl ?_) | (refine r_new hT rfl rfl rfl rfl ?_) | (refine r_write hT rfl rfl rfl ?_) | (refine r_nil ?_) | (refine q_nil ?_) | (refine r_draw (id := 3) hM (by kernel_rfl) ?_) | (refine r_load hT hatW rfl rfl rfl rfl rfl rfl rfl rfl rfl rfl rfl ?_) | (refine r_index hT rfl rfl rfl rfl rfl rfl rfl rfl rfl hva.1 hva.2 ?_) | (refine r_load hT hatn rfl rfl rfl rfl rfl (Nat.add_zero _).symm rfl rfl rfl rfl rfl ?_) | (refine c_no rfl (fun h => h h4) ?_) | (refine r_many (id := 11) [0, 1, 2, 3, 4, 5, 6, 7, 8] [9] u (Le.refl u) hM (by kernel_rfl) rfl (by kernel_rfl) rfl rfl rfl (fun β0 => ?_)) | (refine m_late rfl rfl ?_) | (refine r_arith rfl rfl rfl rfl rfl rfl rfl (by omega) ?_) | (with_reducible refine r_seq ?_) | (with_reducible refine x_then ?_) | (with_reducible refine r_region ?_) | (with_reducible refine r_skip ?_) | (with_reducible refine r_ret ?_) | (with_reducible refine x_then_ret ?_) | (with_reducible refine r_block ?_) | (with_reducible refine x_block ?_) | (with_reducible refine x_block_ret ?_) | (with_reducible refine r_exit ?_) | (with_reducible refine x_then_exit ?_) | (with_reducible refine x_block_here ?_) | (refine x_block_past rfl ?_) | (refine c_yes rfl (by omega) ?_) | (refine c_no rfl (by omega) ?_) | (refine c_no rfl (fun h => h rfl) ?_) | (refine r_cond_false rfl ?_) | (refine r_cond_true rfl ?_) | (refine r_cond_dec rfl (fun _ => ?_) (fun _ => ?_)) | (refine r_cond_true rfl ?_) | (refine r_cond_false rfl ?_) | (refine c_not rfl (fun _ => ?_) (fun _ => ?_)) | (refine r_off rfl rfl rfl ?_) | (refine q_guard rfl rfl (fun _ => ?_) (fun _ => ?_)) | (refine q_guardn rfl rfl (fun _ => ?_) (fun _ => ?_)) | (refine s_nil ?_) | (with_reducible refine a_full ?_) | (refine m_step rfl rfl (List.cons_ne_nil _ _) ?_) | (refine allR_cons rfl ?_ ?_) | (exact allR_nil) | (refine m_end rfl rfl rfl ?_))
    exact r_fin hT rfl (⟨v.k, v.n, v.s, (ord.idxOf v.a.toNat : Nat)⟩ : V) rfl rfl rfl trivial rfl ⟨by simp only [ren, if_pos h4], rfl⟩
  · repeat' (first | (refine r_pure hT rfl rfl rfl rfl ?_) | (refine r_new hT rfl rfl rfl rfl ?_) | (refine r_write hT rfl rfl rfl ?_) | (refine r_nil ?_) | (refine q_nil ?_) | (refine c_yes rfl h4 ?_) | (refine r_arith rfl rfl rfl rfl rfl rfl rfl (by omega) ?_) | (with_reducible refine r_seq ?_) | (with_reducible refine x_then ?_) | (with_reducible refine r_region ?_) | (refine r_draw hM (by kernel_rfl) ?_) | (with_reducible refine r_skip ?_) | (with_reducible refine r_ret ?_) | (with_reducible refine x_then_ret ?_) | (with_reducible refine r_block ?_) | (with_reducible refine x_block ?_) | (with_reducible refine x_block_ret ?_) | (with_reducible refine r_exit ?_) | (with_reducible refine x_then_exit ?_) | (with_reducible refine x_block_here ?_) | (refine x_block_past rfl ?_) | (refine c_yes rfl (by omega) ?_) | (refine c_no rfl (by omega) ?_) | (refine c_no rfl (fun h => h rfl) ?_) | (refine r_cond_false rfl ?_) | (refine r_cond_true rfl ?_) | (refine r_cond_dec rfl (fun _ => ?_) (fun _ => ?_)) | (refine r_cond_true rfl ?_) | (refine r_cond_false rfl ?_) | (refine c_not rfl (fun _ => ?_) (fun _ => ?_)) | (refine r_off rfl rfl rfl ?_) | (refine q_guard rfl rfl (fun _ => ?_) (fun _ => ?_)) | (refine q_guardn rfl rfl (fun _ => ?_) (fun _ => ?_)))
    exact r_fin hT rfl v rfl rfl rfl trivial rfl ⟨by simp only [ren, if_neg h4], rfl⟩
theorem numL_nil (n : Nat) : (List.range n).flatMap (fun _ => [Value.int .i64 (-1)]) = numL n [] := by
  simp [numL, List.flatMap_def, List.map_const', List.flatten_replicate_singleton]
theorem part_keep {u u' : Hp} {A A' : Option Addr} (h : Grown u u' A A') : Le (part u A) (part u' A') := fun b o hb => by
  unfold part at hb
  split at hb
  · cases hb
  · rename_i hne
    obtain ⟨h1, h2⟩ := h.keep b o hb hne
    rw [part_at h2]; exact h1
theorem sl_all {u : Hp} {b m sz : Nat} {vs : List Value} {t : TypeId} (h : u b = some (.cells vs.toArray t (0, 0))) (hl : vs.length = m * sz) : Sl u (some ⟨b, 0, none⟩) m sz vs :=
  ⟨hl, fun h => (by cases h), fun a ha _ => by have e := Option.some.inj ha; subst e; exact ⟨rfl, _, _, _, h, fun j x hj => by simpa using hj⟩⟩
theorem pr_ones {p : Pr} : ∀ v ∈ Pr.c p, one v = true := fun v hv => by
  simp only [Pr.c, List.mem_cons, List.not_mem_nil, or_false] at hv
  rcases hv with rfl | rfl | rfl | rfl | rfl | rfl | rfl | rfl <;> rfl
theorem le_fresh {h u : Hp} {b : Nat} {o : Obj} (hl : Le h u) (hb : u b = none) : Le h (upd u b o) := fun x o' hx => by
  rw [upd_ne (fun e => by subst e; rw [hl _ _ hx] at hb; cases hb)]; exact hl x o' hx
theorem l2canon (v : V) (ts : List (List Pr)) (A : Option Addr) (n c : Nat) (h : Hp) (hP : Tabs h A n ts) (hA : AllIn ts) (hv : In ts.length v) (hn : ts.length ≤ 1000000) (hc : ∀ t ∈ ts, t.length ≤ 1000000) :
    TriS Tryd.prog 91 [.ag (gsv v A n c)] [] h (fun y : Option Addr × Nat => .ag (gsv (ren (ordOf ts v) v) y.1 (ordOf ts v).length y.2)) (fun _ => []) (fun y h' => Tabs h' y.1 (ordOf ts v).length (cTs ts (ordOf ts v)) ∧ Le h h') := by
  obtain rfl := hP.len
  refine enterS Tryd.func91 rfl (n := 85) rfl rfl (fun k N => ?_)
  repeat' (first | (refine r_pure hT rfl rfl rfl rfl ?_) | (refine r_new hT rfl rfl rfl rfl ?_) | (refine r_write hT rfl rfl rfl ?_) | (refine r_nil ?_) | (refine q_nil ?_) | (refine r_many (id := 1) [0, 1, 2, 3] [] h (Le.refl h) hM (by kernel_rfl) rfl (by kernel_rfl) rfl rfl rfl (fun β0 => ?_)) | ((refine r_makeN hT rfl rfl rfl rfl rfl rfl rfl (by simp) rfl rfl (by dsimp only; omega) (by omega) (fun b0 hb0 => ?_) ; have hle0 := (Le.refl h).upd (o := .cells (reps ts.length [Value.int .i64 0]).toArray 3 (0, 0)) hb0)) | (refine r_build hT rfl rfl rfl (ps := [(0, .tmp 11), (1, .tmp 15)]) rfl rfl rfl rfl rfl rfl ?_) | (refine m_keep hle0 ⟨rfl, rfl, trivial⟩ rfl rfl ?_) | (refine m_keep (Le.refl h) ⟨rfl, rfl, trivial⟩ rfl rfl ?_) | (refine r_arith rfl rfl rfl rfl rfl rfl rfl (by omega) ?_) | (with_reducible refine r_seq ?_) | (with_reducible refine x_then ?_) | (with_reducible refine r_region ?_) | (with_reducible refine r_skip ?_) | (with_reducible refine r_ret ?_) | (with_reducible refine x_then_ret ?_) | (with_reducible refine r_block ?_) | (with_reducible refine x_block ?_) | (with_reducible refine x_block_ret ?_) | (with_reducible refine r_exit ?_) | (with_reducible refine x_then_exit ?_) | (with_reducible refine x_block_here ?_) | (refine x_block_past rfl ?_) | (refine c_yes rfl (by omega) ?_) | (refine c_no rfl (by omega) ?_) | (refine c_no rfl (fun h => h rfl) ?_) | (refine r_cond_false rfl ?_) | (refine r_cond_true rfl ?_) | (refine r_cond_dec rfl (fun _ => ?_) (fun _ => ?_)) | (refine r_cond_true rfl ?_) | (refine r_cond_false rfl ?_) | (refine c_not rfl (fun _ => ?_) (fun _ => ?_)) | (refine r_off rfl rfl rfl ?_) | (refine q_guard rfl rfl (fun _ => ?_) (fun _ => ?_)) | (refine q_guardn rfl rfl (fun _ => ?_) (fun _ => ?_)) | (refine s_nil ?_) | (with_reducible refine a_full ?_) | (refine m_step rfl rfl (List.cons_ne_nil _ _) ?_) | (refine allR_cons rfl ?_ ?_) | (exact allR_nil) | (refine m_end rfl rfl rfl ?_))
  refine St.pub 17 rfl rfl rfl (fun pb hpb => ?_)
  have hpb0 : pb ≠ b0 := fun e => by subst e; rw [upd_here] at hpb; cases hpb
  have hpbh : h pb = none := by rwa [upd_ne hpb0] at hpb
  have hO0 : Own (upd (upd h b0 (.cells (reps ts.length [Value.int .i64 0]).toArray 3 (0, 0))) pb (.cells (wCells v A ts.length c b0 0 ts.length none 0 0).toArray 172 (0, 0))) (some ⟨b0, 0, none⟩) ts.length ts.length 3 1 (reps ts.length [Value.int .i64 0]) :=
    Own.le (own_made (u := h) (b := b0) (m := ts.length) (e := 3) (z := [Value.int .i64 0]) rfl) (fun b o hb ho => by have e : b0 = b := Option.some.inj hb; subst e; rw [upd_ne (Ne.symm hpb0)]; exact ho)
  refine r_loop (γ := Nat × Hp) (fun x => x.1 ≤ ts.length ∧ Own x.2 (some ⟨b0, 0, none⟩) ts.length ts.length 3 1 (((List.range ts.length).take x.1).flatMap (fun _ => [Value.int .i64 (-1)]) ++ reps (ts.length - x.1) [.int .i64 0]) ∧
      x.2 pb = some (.cells (wCells v A ts.length c b0 0 ts.length none 0 0).toArray 172 (0, 0)) ∧ Le h x.2)
    (fun x => [(1, .p 1 0), (2, .p 2 0), (3, .v (.pointer (some ⟨pb, 0, none⟩))), (22, .v (.int .i64 ts.length)), (23, .v (.int .i64 x.1))])
    (fun _ => [(2, ⟨none, [.v (ZV.val (.int .i64)), .v (ZV.val (.int .i64)), .v (ZV.val .str), .v (ZV.val (.int .i64)), .v (ZV.val .sl)], 51⟩), (1, ⟨none, gsv v A ts.length c, 51⟩)]) (fun x => x.2) (fun x => ts.length - x.1)
    (0, upd (upd h b0 (.cells (reps ts.length [Value.int .i64 0]).toArray 3 (0, 0))) pb (.cells (wCells v A ts.length c b0 0 ts.length none 0 0).toArray 172 (0, 0)))
    ⟨Nat.zero_le _, by simp only [List.take_zero, List.flatMap_nil, List.nil_append, Nat.sub_zero]; exact hO0, upd_here .., hle0.upd hpbh⟩
    (into rfl ⟨rfl, rfl, rfl, rfl, rfl, trivial⟩ ⟨rfl, rfl, trivial⟩ rfl rfl) ?_
  rintro ⟨i, u⟩ ⟨hi, hOn, hcl, hle⟩
  dsimp only at *
  have hatW : At u pb 0 (wCells v A ts.length c b0 0 ts.length none 0 0) := ⟨_, _, _, hcl, fun j x hj => by simpa using hj⟩
  by_cases hlt : i < ts.length
  · repeat' (first | (refine r_pure hT rfl rfl rfl rfl ?_) | (refine r_new hT rfl rfl rfl rfl ?_) | (refine r_write hT rfl rfl rfl ?_) | (refine r_nil ?_) | (refine q_nil ?_) | (refine r_load hT hatW rfl rfl rfl rfl rfl rfl rfl rfl rfl rfl rfl ?_) | (refine r_indexN hT rfl rfl rfl rfl rfl rfl rfl rfl rfl (by omega) ?_) | (refine r_store_own (o := i * 1) hT hOn rfl rfl rfl rfl rfl rfl rfl rfl rfl rfl rfl (by rw [hOn.len]; show i * 1 + 1 ≤ ts.length * 1; omega) (fun u' hO' hu' => ?_)) | (refine r_arith rfl rfl rfl rfl rfl rfl rfl (by omega) ?_) | (with_reducible refine r_seq ?_) | (with_reducible refine x_then ?_) | (with_reducible refine r_region ?_) | (refine r_draw hM (by kernel_rfl) ?_) | (with_reducible refine r_skip ?_) | (with_reducible refine r_ret ?_) | (with_reducible refine x_then_ret ?_) | (with_reducible refine r_block ?_) | (with_reducible refine x_block ?_) | (with_reducible refine x_block_ret ?_) | (with_reducible refine r_exit ?_) | (with_reducible refine x_then_exit ?_) | (with_reducible refine x_block_here ?_) | (refine x_block_past rfl ?_) | (refine c_yes rfl (by omega) ?_) | (refine c_no rfl (by omega) ?_) | (refine c_no rfl (fun h => h rfl) ?_) | (refine r_cond_false rfl ?_) | (refine r_cond_true rfl ?_) | (refine r_cond_dec rfl (fun _ => ?_) (fun _ => ?_)) | (refine r_cond_true rfl ?_) | (refine r_cond_false rfl ?_) | (refine c_not rfl (fun _ => ?_) (fun _ => ?_)) | (refine r_off rfl rfl rfl ?_) | (refine q_guard rfl rfl (fun _ => ?_) (fun _ => ?_)) | (refine q_guardn rfl rfl (fun _ => ?_) (fun _ => ?_)))
    have hsn := set_next (c := fun _ : Nat => [Value.int .i64 (-1)]) (sz := 1) (fun _ => rfl) (z := [Value.int .i64 0]) rfl (xs := List.range ts.length) (i := i) (x := i) (by simp [hlt]) (n := ts.length) (by simp)
    rw [hsn] at hO'
    exact x_round (i + 1, u') ⟨hlt, hO', by show u' pb = _; rw [hu' pb hpb0]; exact hcl, fun x o hx => by show u' x = some o; rw [hu' x (fun e => by subst e; rw [hb0] at hx; cases hx)]; exact hle x o hx⟩ (by simp; omega) (into rfl ⟨rfl, rfl, rfl, rfl, rfl, trivial⟩ ⟨rfl, rfl, trivial⟩ rfl rfl)
  obtain rfl : i = ts.length := by omega
  rw [List.take_of_length_le (by simp), numL_nil, Nat.sub_self] at hOn
  simp only [reps, List.append_nil] at hOn
  have hW0 : WSt h u pb v A c ts b0 0 ts.length none 0 [] := ⟨hcl, hOn, own_nil, hle, hpbh, hb0, off_nil, ⟨hpb0, by simp [blk], by simp [blk]⟩, hP⟩
  repeat' (first | (refine r_pure hT rfl rfl rfl rfl ?_) | (refine r_new hT rfl rfl rfl rfl ?_) | (refine r_write hT rfl rfl rfl ?_) | (refine r_nil ?_) | (refine q_nil ?_) | (refine r_call (valW h pb v A c ts b0 0 ts.length hA hn hc (ts.length + 1) [] v _ u none 0 hW0 (nm_nil _) hv (by simp) rfl) rfl rfl rfl rfl rfl (hC _ rfl) rfl rfl (fun y u1 hy => ?_)) | (refine r_arith rfl rfl rfl rfl rfl rfl rfl (by omega) ?_) | (with_reducible refine r_seq ?_) | (with_reducible refine x_then ?_) | (with_reducible refine r_region ?_) | (refine r_draw hM (by kernel_rfl) ?_) | (with_reducible refine r_skip ?_) | (with_reducible refine r_ret ?_) | (with_reducible refine x_then_ret ?_) | (with_reducible refine r_block ?_) | (with_reducible refine x_block ?_) | (with_reducible refine x_block_ret ?_) | (with_reducible refine r_exit ?_) | (with_reducible refine x_then_exit ?_) | (with_reducible refine x_block_here ?_) | (refine x_block_past rfl ?_) | (refine c_yes rfl (by omega) ?_) | (refine c_no rfl (by omega) ?_) | (refine c_no rfl (fun h => h rfl) ?_) | (refine r_cond_false rfl ?_) | (refine r_cond_true rfl ?_) | (refine r_cond_dec rfl (fun _ => ?_) (fun _ => ?_)) | (refine r_cond_true rfl ?_) | (refine r_cond_false rfl ?_) | (refine c_not rfl (fun _ => ?_) (fun _ => ?_)) | (refine r_off rfl rfl rfl ?_) | (refine q_guard rfl rfl (fun _ => ?_) (fun _ => ?_)) | (refine q_guardn rfl rfl (fun _ => ?_) (fun _ => ?_)))
  obtain ⟨hW1, hK1⟩ := hy
  obtain ⟨Ao, co⟩ := y
  dsimp only at *
  have hNO := ordOf_nm hA hv
  have hOl := hNO.len
  have hle1 : Le h u1 := hW1.base
  change WSt h u1 pb v A c ts b0 0 ts.length Ao co (ordOf ts v) at hW1
  generalize hO : ordOf ts v = O at *
  change ordOf ts v = O at hO
  have hgo : go ts (ts.length + 1) [] v = O := hO
  rw [hgo]
  refine r_loop (γ := (Nat × Hp) × (Option Addr × Nat) × List Hd) (fun x => x.1.1 ≤ O.length ∧ Le u1 (part x.1.2 x.2.1.1) ∧ Own x.1.2 x.2.1.1 x.1.1 x.2.1.2 59 1 (x.2.2.flatMap Hd.v) ∧ x.2.2.length = x.1.1 ∧
      ∀ (j : Nat) (y : Hd) (t : List Pr), x.2.2[j]? = some y → (cTs ts O)[j]? = some t → y.n ≤ y.c ∧ Pairs (part x.1.2 x.2.1.1) y.A y.n t)
    (fun x => [(1, .p 1 0), (2, .p 2 0), (3, .v (.pointer (some ⟨pb, 0, none⟩))), (5, .p 5 0), (6, .v (.int .i64 x.1.1))])
    (fun x => [(5, ⟨none, gsv (ren O v) x.2.1.1 x.1.1 x.2.1.2, 51⟩), (2, ⟨none, [.v (ZV.val (.int .i64)), .v (ZV.val (.int .i64)), .v (ZV.val .str), .v (ZV.val (.int .i64)), .v (ZV.val .sl)], 51⟩), (1, ⟨none, gsv v A ts.length c, 51⟩)])
    (fun x => x.1.2) (fun x => O.length - x.1.1) ((0, u1), (none, 0), []) ⟨Nat.zero_le _, Le.refl u1, own_nil, rfl, fun j y t hj => by simp at hj⟩
    (into rfl ⟨rfl, rfl, rfl, rfl, rfl, trivial⟩ ⟨rfl, rfl, rfl, trivial⟩ rfl rfl) ?_
  rintro ⟨⟨i, u⟩, ⟨Aq, cq⟩, hs⟩ ⟨hi, hle, hOq, hlen, hrows⟩
  dsimp only at *
  have hleu : Le u1 u := hle.trans (part_le u Aq)
  have hW := hW1.le hleu
  have hatW := hW.at_
  by_cases hlt : i < O.length
  · have hg1 : (ordL O)[i]? = some (.int .i64 ((O[i] : Nat) : Int)) := by simp [ordL, hlt]
    obtain ⟨bo, offo, rfl⟩ := own_some hW.od hlt
    have hato := own_at hW.od hg1
    have ha : O[i] < ts.length := hNO.lt _ (List.getElem_mem hlt)
    obtain ⟨bt, offt, A1, n1, c1, t, rfl, hd, hix, hm, hat, hc1, hp1⟩ := hP.elem ha
    obtain rfl := hp1.1
    have hatt := hat.le (hle1.trans hleu)
    have htl := hc t hm
    have hinp : ∀ p ∈ t, In ts.length p.val := hA t hm
    have hino : ∀ p ∈ t, p.val.k = 4 → p.val.a.toNat ∈ O := fun p hp h4 => by rw [← hO]; exact ordOf_in hA hv (by rw [hO]; exact List.getElem_mem hlt) hix hp h4
    repeat' (first | (refine r_pure hT rfl rfl rfl rfl ?_) | (refine r_new hT rfl rfl rfl rfl ?_) | (refine r_write hT rfl rfl rfl ?_) | (refine r_nil ?_) | (refine q_nil ?_) | (refine r_draw (id := 13) hM (by kernel_rfl) ?_) | (refine r_load hT hatW rfl rfl rfl rfl rfl rfl rfl rfl rfl rfl rfl ?_) | (refine r_indexN hT rfl rfl rfl rfl rfl rfl rfl rfl rfl (by omega) ?_) | (refine r_load hT hato rfl rfl rfl rfl rfl (Nat.add_zero _).symm rfl rfl rfl rfl rfl ?_) | (refine r_load hT hatt rfl rfl rfl rfl rfl (Nat.add_zero _).symm rfl rfl rfl rfl rfl ?_) | (refine r_arith rfl rfl rfl rfl rfl rfl rfl (by omega) ?_) | (with_reducible refine r_seq ?_) | (with_reducible refine x_then ?_) | (with_reducible refine r_region ?_) | (with_reducible refine r_skip ?_) | (with_reducible refine r_ret ?_) | (with_reducible refine x_then_ret ?_) | (with_reducible refine r_block ?_) | (with_reducible refine x_block ?_) | (with_reducible refine x_block_ret ?_) | (with_reducible refine r_exit ?_) | (with_reducible refine x_then_exit ?_) | (with_reducible refine x_block_here ?_) | (refine x_block_past rfl ?_) | (refine c_yes rfl (by omega) ?_) | (refine c_no rfl (by omega) ?_) | (refine c_no rfl (fun h => h rfl) ?_) | (refine r_cond_false rfl ?_) | (refine r_cond_true rfl ?_) | (refine r_cond_dec rfl (fun _ => ?_) (fun _ => ?_)) | (refine r_cond_true rfl ?_) | (refine r_cond_false rfl ?_) | (refine c_not rfl (fun _ => ?_) (fun _ => ?_)) | (refine r_off rfl rfl rfl ?_) | (refine q_guard rfl rfl (fun _ => ?_) (fun _ => ?_)) | (refine q_guardn rfl rfl (fun _ => ?_) (fun _ => ?_)))
    refine r_loop (γ := (Nat × Hp) × (Option Addr × Nat)) (fun x => x.1.1 ≤ t.length ∧ Le (part u Aq) x.1.2 ∧ Off (part u Aq) x.2.1 ∧ Own x.1.2 Aq i cq 59 1 (hs.flatMap Hd.v) ∧ (∀ b, blk Aq = some b → blk x.2.1 ≠ some b) ∧
        Own x.1.2 x.2.1 x.1.1 x.2.2 61 8 (((t.take x.1.1).map (nPr O)).flatMap Pr.c))
      (fun x => [(1, .p 1 0), (2, .p 2 0), (3, .v (.pointer (some ⟨pb, 0, none⟩))), (5, .p 5 0), (6, .v (.int .i64 i)), (7, .p 7 0), (58, .v (.slice A1 t.length c1)), (59, .v (.int .i64 t.length)), (60, .v (.int .i64 x.1.1))])
      (fun x => [(7, ⟨none, [.v (.slice x.2.1 x.1.1 x.2.2)], 59⟩), (5, ⟨none, gsv (ren O v) Aq i cq, 51⟩), (2, ⟨none, [.v (ZV.val (.int .i64)), .v (ZV.val (.int .i64)), .v (ZV.val .str), .v (ZV.val (.int .i64)), .v (ZV.val .sl)], 51⟩), (1, ⟨none, gsv v (some ⟨bt, offt, none⟩) ts.length c, 51⟩)])
      (fun x => x.1.2) (fun x => t.length - x.1.1) ((0, u), (none, 0)) ⟨Nat.zero_le _, part_le u Aq, off_nil, hOq, fun b _ => (by simp [blk]), own_nil⟩
      (into rfl ⟨rfl, rfl, rfl, rfl, rfl, rfl, rfl, rfl, rfl, trivial⟩ ⟨rfl, rfl, rfl, rfl, trivial⟩ rfl rfl) ?_
    rintro ⟨⟨j, uj⟩, ⟨Ap, cp⟩⟩ ⟨hj, hkj, hof, hOqj, hdis, hOp⟩
    dsimp only at *
    have hWj := hW1.le (hle.trans hkj)
    by_cases hltj : j < t.length
    · obtain ⟨b2, off2, p, rfl, hd2, hix2, hm2, hat2⟩ := (hp1.le (hle1.trans (hle.trans hkj))).elem Pr.c_len hltj
      repeat' (first | (refine r_pure hT rfl rfl rfl rfl ?_) | (refine r_new hT rfl rfl rfl rfl ?_) | (refine r_write hT rfl rfl rfl ?_) | (refine r_nil ?_) | (refine q_nil ?_) | (refine r_indexN hT rfl rfl rfl rfl rfl rfl rfl rfl rfl (by omega) ?_) | (refine r_load hT hat2 rfl rfl rfl rfl rfl (Nat.add_zero _).symm rfl rfl rfl rfl rfl ?_) | (refine p_call (valOld hWj p.val (hinp p hm2) (hino p hm2)) rfl rfl rfl rfl rfl (hC _ rfl) rfl rfl rfl ?_) | (refine r_build hT rfl rfl rfl (ps := [(0, .tmp 71), (1, .tmp 72)]) rfl rfl rfl rfl rfl rfl ?_) | ((refine r_bslice hT (ps := [(0, .tmp 73)]) rfl rfl rfl rfl rfl rfl rfl (by simp) rfl rfl (by decide) (fun b3 hb3 => ?_))) | ((refine r_append hT (cs := ((t.take j).map (nPr O)).flatMap Pr.c) (news := Pr.c (nPr O p)) rfl rfl rfl rfl rfl rfl rfl rfl rfl rfl rfl (hOp.le fun b o hb ho => by rw [upd_ne (fun e => by subst e; rw [hb3] at ho; cases ho)]; exact ho) (sl_all (upd_here ..) rfl) pr_ones (by dsimp only; omega) (by omega) (fun A' c' u3 hO3 hG3 => ?_))) | (refine r_arith rfl rfl rfl rfl rfl rfl rfl (by omega) ?_) | (with_reducible refine r_seq ?_) | (with_reducible refine x_then ?_) | (with_reducible refine r_region ?_) | (refine r_draw hM (by kernel_rfl) ?_) | (with_reducible refine r_skip ?_) | (with_reducible refine r_ret ?_) | (with_reducible refine x_then_ret ?_) | (with_reducible refine r_block ?_) | (with_reducible refine x_block ?_) | (with_reducible refine x_block_ret ?_) | (with_reducible refine r_exit ?_) | (with_reducible refine x_then_exit ?_) | (with_reducible refine x_block_here ?_) | (refine x_block_past rfl ?_) | (refine c_yes rfl (by omega) ?_) | (refine c_no rfl (by omega) ?_) | (refine c_no rfl (fun h => h rfl) ?_) | (refine r_cond_false rfl ?_) | (refine r_cond_true rfl ?_) | (refine r_cond_dec rfl (fun _ => ?_) (fun _ => ?_)) | (refine r_cond_true rfl ?_) | (refine r_cond_false rfl ?_) | (refine c_not rfl (fun _ => ?_) (fun _ => ?_)) | (refine r_off rfl rfl rfl ?_) | (refine q_guard rfl rfl (fun _ => ?_) (fun _ => ?_)) | (refine q_guardn rfl rfl (fun _ => ?_) (fun _ => ?_)))
      have hk3 := hG3 _ (le_fresh hkj hb3) hof
      have hq3 : ∀ b o, blk Aq = some b → uj b = some o → u3 b = some o ∧ blk A' ≠ some b := fun b o hb ho => hG3.keep b o (by rw [upd_ne (fun e => by subst e; rw [hb3] at ho; cases ho)]; exact ho) (hdis b hb)
      refine x_round ((j + 1, u3), (A', c')) ⟨hltj, hk3.1, hk3.2, hOqj.le (fun b o hb ho => (hq3 b o hb ho).1), fun b hb => ?_, ?_⟩ (by simp; omega) (into rfl ⟨rfl, rfl, rfl, rfl, rfl, rfl, rfl, rfl, rfl, trivial⟩ ⟨rfl, rfl, rfl, rfl, trivial⟩ rfl rfl)
      · cases ho : uj b with
        | none => exact absurd ho (hOqj.live hb)
        | some o => exact (hq3 b o hb ho).2
      · show Own u3 A' (j + 1) c' 61 8 (((t.take (j + 1)).map (nPr O)).flatMap Pr.c)
        rw [take_snoc hix2, List.map_append, List.flatMap_append]
        simpa using hO3
    · obtain rfl : j = t.length := by omega
      rw [List.take_length] at hOp
      repeat' (first | (refine r_pure hT rfl rfl rfl rfl ?_) | (refine r_new hT rfl rfl rfl rfl ?_) | (refine r_write hT rfl rfl rfl ?_) | (refine r_nil ?_) | (refine q_nil ?_) | ((refine r_bslice hT (ps := [(0, .tmp 80)]) rfl rfl rfl rfl rfl rfl rfl (by simp) rfl rfl (by decide) (fun b3 hb3 => ?_))) | ((refine r_append hT (cs := hs.flatMap Hd.v) (news := Hd.v ⟨Ap, t.length, cp⟩) rfl rfl rfl rfl rfl rfl rfl rfl rfl rfl rfl (hOqj.le fun b o hb ho => by rw [upd_ne (fun e => by subst e; rw [hb3] at ho; cases ho)]; exact ho) (sl_all (upd_here ..) rfl) (by intro x hx; simp [Hd.v] at hx; subst hx; rfl) (by dsimp only; omega) (by omega) (fun A' c' u3 hO3 hG3 => ?_))) | (refine r_arith rfl rfl rfl rfl rfl rfl rfl (by omega) ?_) | (with_reducible refine r_seq ?_) | (with_reducible refine x_then ?_) | (with_reducible refine r_region ?_) | (refine r_draw hM (by kernel_rfl) ?_) | (with_reducible refine r_skip ?_) | (with_reducible refine r_ret ?_) | (with_reducible refine x_then_ret ?_) | (with_reducible refine r_block ?_) | (with_reducible refine x_block ?_) | (with_reducible refine x_block_ret ?_) | (with_reducible refine r_exit ?_) | (with_reducible refine x_then_exit ?_) | (with_reducible refine x_block_here ?_) | (refine x_block_past rfl ?_) | (refine c_yes rfl (by omega) ?_) | (refine c_no rfl (by omega) ?_) | (refine c_no rfl (fun h => h rfl) ?_) | (refine r_cond_false rfl ?_) | (refine r_cond_true rfl ?_) | (refine r_cond_dec rfl (fun _ => ?_) (fun _ => ?_)) | (refine r_cond_true rfl ?_) | (refine r_cond_false rfl ?_) | (refine c_not rfl (fun _ => ?_) (fun _ => ?_)) | (refine r_off rfl rfl rfl ?_) | (refine q_guard rfl rfl (fun _ => ?_) (fun _ => ?_)) | (refine q_guardn rfl rfl (fun _ => ?_) (fun _ => ?_)))
      have hpk := part_keep hG3
      have hk4 : Le (part u Aq) (part uj Aq) := fun b o hb => by
        have hne : blk Aq ≠ some b := fun e => by rw [part_off u Aq b e] at hb; cases hb
        rw [part_at hne]; exact hkj b o hb
      have hk5 : Le (part uj Aq) (part (upd uj b3 (.cells (Hd.v ⟨Ap, t.length, cp⟩).toArray 59 (0, 0))) Aq) := fun b o hb => by
        have hne : blk Aq ≠ some b := fun e => by rw [part_off uj Aq b e] at hb; cases hb
        rw [part_at hne] at hb ⊢
        rw [upd_ne (fun e => by subst e; rw [hb3] at hb; cases hb)]; exact hb
      have hk6 := hk5.trans hpk
      refine x_round ((i + 1, u3), (A', c'), hs ++ [⟨Ap, t.length, cp⟩]) ⟨hlt, (hle.trans hk4).trans hk6, ?_, by simp [hlen], fun j y t' hj ht' => ?_⟩ (by simp; omega) (into rfl ⟨rfl, rfl, rfl, rfl, rfl, trivial⟩ ⟨rfl, rfl, rfl, trivial⟩ rfl rfl)
      · show Own u3 A' (i + 1) c' 59 1 ((hs ++ [(⟨Ap, t.length, cp⟩ : Hd)]).flatMap Hd.v)
        rw [List.flatMap_append]; simpa using hO3
      · by_cases hjl : j < hs.length
        · dsimp only at hj
          rw [List.getElem?_append_left hjl] at hj
          exact ⟨(hrows j y t' hj ht').1, (hrows j y t' hj ht').2.le (hk4.trans hk6)⟩
        · dsimp only at hj
          have h1 : j < (hs ++ [(⟨Ap, t.length, cp⟩ : Hd)]).length := (List.getElem?_eq_some_iff.1 hj).1
          simp at h1
          have hjj : j = hs.length := by omega
          subst hjj
          simp at hj; subst hj
          have htt : t' = t.map (nPr O) := by
            rw [hlen] at ht'
            simp only [cTs, List.getElem?_map, List.getElem?_eq_getElem hlt, Option.map_some] at ht'
            rw [List.getD_eq_getElem?_getD, hix] at ht'
            exact (Option.some.inj ht').symm
          subst htt
          refine ⟨hOp.cap, by simp, Sl.le (Own.sl (hOp.le fun b o hb ho => ?_)) hk6⟩
          rw [part_at (fun e => hdis b e hb)]; exact ho
  · obtain rfl : i = O.length := by omega
    repeat' (first | (refine r_pure hT rfl rfl rfl rfl ?_) | (refine r_new hT rfl rfl rfl rfl ?_) | (refine r_write hT rfl rfl rfl ?_) | (refine r_nil ?_) | (refine q_nil ?_) | (refine r_load hT hatW rfl rfl rfl rfl rfl rfl rfl rfl rfl rfl rfl ?_) | (refine r_arith rfl rfl rfl rfl rfl rfl rfl (by omega) ?_) | (with_reducible refine r_seq ?_) | (with_reducible refine x_then ?_) | (with_reducible refine r_region ?_) | (refine r_draw hM (by kernel_rfl) ?_) | (with_reducible refine r_skip ?_) | (with_reducible refine r_ret ?_) | (with_reducible refine x_then_ret ?_) | (with_reducible refine r_block ?_) | (with_reducible refine x_block ?_) | (with_reducible refine x_block_ret ?_) | (with_reducible refine r_exit ?_) | (with_reducible refine x_then_exit ?_) | (with_reducible refine x_block_here ?_) | (refine x_block_past rfl ?_) | (refine c_yes rfl (by omega) ?_) | (refine c_no rfl (by omega) ?_) | (refine c_no rfl (fun h => h rfl) ?_) | (refine r_cond_false rfl ?_) | (refine r_cond_true rfl ?_) | (refine r_cond_dec rfl (fun _ => ?_) (fun _ => ?_)) | (refine r_cond_true rfl ?_) | (refine r_cond_false rfl ?_) | (refine c_not rfl (fun _ => ?_) (fun _ => ?_)) | (refine r_off rfl rfl rfl ?_) | (refine q_guard rfl rfl (fun _ => ?_) (fun _ => ?_)) | (refine q_guardn rfl rfl (fun _ => ?_) (fun _ => ?_)))
    exact r_fin hT rfl (Aq, cq) rfl rfl rfl trivial rfl ⟨⟨hs, by rw [hlen]; simp [cTs], ⟨by omega, hOq.sl⟩, fun j y t hj ht => ⟨(hrows j y t hj ht).1, (hrows j y t hj ht).2.le (part_le u Aq)⟩⟩, hle1.trans hleu⟩
end Go.Proofs.YtkamfnmbidnhdaaDoor
namespace Go.Proofs.YtkamfnmbidnhdaaDoor
open Go.Sy
set_option maxRecDepth 100000
set_option maxHeartbeats 4000000
set_option linter.unusedVariables false
set_option linter.unusedSimpArgs false
theorem vok_in {v : V} {n : Nat} (h : VOk v n) : In n v := fun h4 => by
  unfold VOk at h; rcases h with h | h | h | h | h <;> omega
theorem gok_in {v : V} {ts : List (List Pr)} (h : GOk v ts) : AllIn ts ∧ In ts.length v ∧ ts.length ≤ 200 ∧ ∀ t ∈ ts, t.length ≤ 100 :=
  ⟨fun t ht p hp => vok_in ((h.2.2 t ht).2.1 p hp).2.1, vok_in h.2.1, h.1, fun t ht => (h.2.2 t ht).1⟩
def V0 : V := ⟨0, 0, ⟨⟨[]⟩⟩, 0⟩
/-- What Canon answers. -/
def cV (v : V) (ts : List (List Pr)) : V := if GOk v ts then ren (ordOf ts v) v else V0
def cT (v : V) (ts : List (List Pr)) : List (List Pr) := if GOk v ts then cTs ts (ordOf ts v) else []
theorem tabs_nil (u : Hp) : Tabs u none 0 [] := ⟨[], rfl, ⟨rfl, own_nil.sl (e := 0)⟩, fun i h t hi => by simp at hi⟩
end Go.Proofs.YtkamfnmbidnhdaaDoor
