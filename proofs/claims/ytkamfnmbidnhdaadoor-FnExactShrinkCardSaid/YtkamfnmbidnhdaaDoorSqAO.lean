/- The specification's freezer: its state; how often tables are led to. No condition. -/
import Derived.Test.YtkamfnmbidnhdaaDoorSqAL
import Derived.Test.YtkamfnmbidnhdaaDoorSqAM
import Derived.Test.YtkamfnmbidnhdaaDoorSqAN
set_option linter.unusedVariables false
set_option linter.unusedSimpArgs false
set_option linter.unusedSectionVars false
namespace Go.Proofs.YtkamfnmbidnhdaaDoor
open Go.Sy
set_option maxRecDepth 100000
set_option maxHeartbeats 4000000
set_option linter.unusedVariables false
set_option linter.unusedSimpArgs false
structure FA where
  pb : Nat
  g : V
  A : Option Addr
  c : Nat
  bl : Nat
  ol : Nat
  cl : Nat
  bb : Nat
  ob : Nat
  cb : Nat
def fCells (a : FA) (n : Nat) (nx : Int) (Ao : Option Addr) (m co : Nat) : List Value :=
  [.int .i64 a.g.k, .int .i64 a.g.n, .string a.g.s, .int .i64 a.g.a, .slice a.A n a.c, .slice (some ⟨a.bl, a.ol, none⟩) n a.cl, .slice (some ⟨a.bb, a.ob, none⟩) n a.cb, .int .i64 nx, .slice Ao m co]
/-- What the freezer holds: the graph, the counts, the labels, how many there are, the bytes. -/
structure FSt (h0 u : Hp) (a : FA) (ts : List (List Pr)) (Ao : Option Addr) (co : Nat) (rs L : List Nat) (o : List UInt8) : Prop where
  cell : u a.pb = some (.cells (fCells a ts.length (L.length : Int) Ao o.length co).toArray 140 (0, 0))
  led : Own u (some ⟨a.bl, a.ol, none⟩) ts.length a.cl 3 1 (ledV ts.length rs)
  lab : Own u (some ⟨a.bb, a.ob, none⟩) ts.length a.cb 3 1 (labV ts.length L)
  out : Own u Ao o.length co 5 1 (o.flatMap bc1)
  base : Le h0 u
  hp : h0 a.pb = none
  hl : h0 a.bl = none
  hb : h0 a.bb = none
  ho : Off h0 Ao
  ap : a.pb ≠ a.bl ∧ a.pb ≠ a.bb ∧ a.bl ≠ a.bb ∧ blk Ao ≠ some a.pb ∧ blk Ao ≠ some a.bl ∧ blk Ao ≠ some a.bb
  tabs : Tabs h0 a.A ts.length ts
theorem FSt.at_ {h0 u : Hp} {a : FA} {ts : List (List Pr)} {Ao : Option Addr} {co : Nat} {rs L : List Nat} {o : List UInt8} (h : FSt h0 u a ts Ao co rs L o) : At u a.pb 0 (fCells a ts.length (L.length : Int) Ao o.length co) :=
  ⟨_, _, _, h.cell, fun j v hj => by simpa using hj⟩
theorem FSt.setLed {h0 u u1 : Hp} {a : FA} {ts : List (List Pr)} {Ao : Option Addr} {co : Nat} {rs rs' L : List Nat} {o : List UInt8} (h : FSt h0 u a ts Ao co rs L o) (hO : Own u1 (some ⟨a.bl, a.ol, none⟩) ts.length a.cl 3 1 (ledV ts.length rs')) (hu : ∀ x, x ≠ a.bl → u1 x = u x) : FSt h0 u1 a ts Ao co rs' L o :=
  ⟨by rw [hu _ h.ap.1]; exact h.cell, hO, h.lab.le fun b o hb ho => (by have e := Option.some.inj hb; subst e; rw [hu _ (Ne.symm h.ap.2.2.1)]; exact ho), h.out.le fun b o hb ho => (by rw [hu _ (fun e => h.ap.2.2.2.2.1 (by rw [← e]; exact hb))]; exact ho),
    fun x o hx => by rw [hu x (fun e => by rw [e, h.hl] at hx; cases hx)]; exact h.base x o hx, h.hp, h.hl, h.hb, h.ho, h.ap, h.tabs⟩
theorem countW (h0 : Hp) (fa : FA) (ts : List (List Pr)) (hA : AllIn ts) (hn : ts.length ≤ 1000000) (hc : ∀ t ∈ ts, t.length ≤ 1000000) (L : List Nat) (Ao : Option Addr) (co : Nat) (o : List UInt8) : ∀ (f : Nat) (ord rs : List Nat) (v : V) (u : Hp),
    FSt h0 u fa ts Ao co rs L o → Nm ts.length ord → In ts.length v → (∀ a, a ∈ ord ↔ a ∈ rs) → ts.length - ord.length < f → (rf ts f rs v).length ≤ 1000000 →
    TriS Tryd.prog 103 [.v (.pointer (some ⟨fa.pb, 0, none⟩)), .ag v.sv] [] u (fun _ : Unit => .tu []) (fun _ => []) (fun _ u' => FSt h0 u' fa ts Ao co (rf ts f rs v) L o)
  | 0, ord, rs, v, u, hF, hN, hv, hio, hf, hB => absurd hf (by omega)
  | f + 1, ord, rs, v, u, hF, hN, hv, hio, hf, hB => by
    refine enterS Tryd.func103 rfl (n := 48) rfl rfl (fun k N => ?_)
    by_cases h4 : v.k = 4
    · have hva := hv h4
      have hlt : v.a.toNat < ts.length := by omega
      have hx := ledV_get rs hlt
      have hatW := hF.at_
      have hatn := own_at hF.led hx
      have hpre := rf_pre (ts := ts) (f + 1) rs v
      have hrsl : rs.length ≤ 1000000 := Nat.le_trans hpre.length_le hB
      have hcnt : rs.count v.a.toNat ≤ rs.length := List.count_le_length
      repeat' (first | (refine r_pure hT rfl rfl rfl rfl ?_) | (refine r_new hT rfl rfl rfl rfl ?_) | (refine r_write hT rfl rfl rfl ?_) | (refine r_nil ?_) | (refine q_nil ?_) | (refine c_no rfl (fun h => h h4) ?_) | (refine r_many (id := 2) [0, 1, 2, 3, 4, 5, 6, 7, 8, 9] [10] u (Le.refl u) hM (by kernel_rfl) rfl (by kernel_rfl) rfl rfl rfl (fun β0 => ?_)) | (refine m_late rfl rfl ?_) | (refine r_load hT hatW rfl rfl rfl rfl rfl rfl rfl rfl rfl rfl rfl ?_) | (refine r_index hT rfl rfl rfl rfl rfl rfl rfl rfl rfl hva.1 hva.2 ?_) | (refine r_load hT hatn rfl rfl rfl rfl rfl (Nat.add_zero _).symm rfl rfl rfl rfl rfl ?_) | (refine r_store_own (o := v.a.toNat * 1) hT hF.led rfl rfl rfl rfl rfl rfl rfl rfl rfl rfl rfl (by rw [ledV_len]; show v.a.toNat * 1 + 1 ≤ ts.length; omega) (fun u1 hl1 hu1 => ?_)) | (refine r_arith rfl rfl rfl rfl rfl rfl rfl (by omega) ?_) | (with_reducible refine r_seq ?_) | (with_reducible refine x_then ?_) | (with_reducible refine r_region ?_) | (with_reducible refine r_skip ?_) | (with_reducible refine r_ret ?_) | (with_reducible refine x_then_ret ?_) | (with_reducible refine r_block ?_) | (with_reducible refine x_block ?_) | (with_reducible refine x_block_ret ?_) | (with_reducible refine r_exit ?_) | (with_reducible refine x_then_exit ?_) | (with_reducible refine x_block_here ?_) | (refine x_block_past rfl ?_) | (refine c_yes rfl (by omega) ?_) | (refine c_no rfl (by omega) ?_) | (refine c_no rfl (fun h => h rfl) ?_) | (refine r_cond_false rfl ?_) | (refine r_cond_true rfl ?_) | (refine r_cond_dec rfl (fun _ => ?_) (fun _ => ?_)) | (refine r_cond_true rfl ?_) | (refine r_cond_false rfl ?_) | (refine c_not rfl (fun _ => ?_) (fun _ => ?_)) | (refine r_off rfl rfl rfl ?_) | (refine q_guard rfl rfl (fun _ => ?_) (fun _ => ?_)) | (refine q_guardn rfl rfl (fun _ => ?_) (fun _ => ?_)) | (refine s_nil ?_) | (with_reducible refine a_full ?_) | (refine m_step rfl rfl (List.cons_ne_nil _ _) ?_) | (refine allR_cons rfl ?_ ?_) | (exact allR_nil) | (refine m_end rfl rfl rfl ?_))
      rw [Nat.mul_one, ledV_set rs hlt] at hl1
      have hF1 := hF.setLed hl1 hu1
      have hatW1 := hF1.at_
      have hx1 := ledV_get (rs ++ [v.a.toNat]) hlt
      rw [List.count_append, List.count_singleton_self] at hx1
      have hatn1 := own_at hF1.led hx1
      clear hatW hatn hx
      by_cases hin : v.a.toNat ∈ ord
      · have hrs := (hio _).1 hin
        have hpos := List.count_pos_iff.2 hrs
        rw [rf_old h4 hrs]
        repeat' (first | (refine r_pure hT rfl rfl rfl rfl ?_) | (refine r_new hT rfl rfl rfl rfl ?_) | (refine r_write hT rfl rfl rfl ?_) | (refine r_nil ?_) | (refine q_nil ?_) | (refine r_draw (id := 3) hM (by kernel_rfl) ?_) | (refine r_load hT hatW1 rfl rfl rfl rfl rfl rfl rfl rfl rfl rfl rfl ?_) | (refine r_index hT rfl rfl rfl rfl rfl rfl rfl rfl rfl hva.1 hva.2 ?_) | (refine r_load hT hatn1 rfl rfl rfl rfl rfl (Nat.add_zero _).symm rfl rfl rfl rfl rfl ?_) | (refine r_arith rfl rfl rfl rfl rfl rfl rfl (by omega) ?_) | (with_reducible refine r_seq ?_) | (with_reducible refine x_then ?_) | (with_reducible refine r_region ?_) | (with_reducible refine r_skip ?_) | (with_reducible refine r_ret ?_) | (with_reducible refine x_then_ret ?_) | (with_reducible refine r_block ?_) | (with_reducible refine x_block ?_) | (with_reducible refine x_block_ret ?_) | (with_reducible refine r_exit ?_) | (with_reducible refine x_then_exit ?_) | (with_reducible refine x_block_here ?_) | (refine x_block_past rfl ?_) | (refine c_yes rfl (by omega) ?_) | (refine c_no rfl (by omega) ?_) | (refine c_no rfl (fun h => h rfl) ?_) | (refine r_cond_false rfl ?_) | (refine r_cond_true rfl ?_) | (refine r_cond_dec rfl (fun _ => ?_) (fun _ => ?_)) | (refine r_cond_true rfl ?_) | (refine r_cond_false rfl ?_) | (refine c_not rfl (fun _ => ?_) (fun _ => ?_)) | (refine r_off rfl rfl rfl ?_) | (refine q_guard rfl rfl (fun _ => ?_) (fun _ => ?_)) | (refine q_guardn rfl rfl (fun _ => ?_) (fun _ => ?_)))
        exact r_fin hT rfl () rfl rfl rfl trivial rfl hF1
      · have hrs : v.a.toNat ∉ rs := fun e => hin ((hio _).2 e)
        have hc0 : rs.count v.a.toNat = 0 := List.count_eq_zero.2 hrs
        obtain ⟨bt, offt, A1, n1, c1, t, hAt, hd, hix, hm, hat, hc1, hp1⟩ := hF.tabs.elem hlt
        obtain rfl := hp1.1
        have hgd : ts.getD v.a.toNat [] = t := by rw [List.getD_eq_getElem?_getD, hix]; rfl
        rw [rf_new h4 hrs, hgd] at hB ⊢
        have hatt := hat.le hF1.base
        have hN1 := hN.snoc hlt hin
        have hl1 := hN1.len
        simp only [List.length_append, List.length_singleton] at hl1
        obtain ⟨pb, g, A, c, bl, ol, cl, bb, ob, cb⟩ := fa
        dsimp only at hAt
        subst hAt
        repeat' (first | (refine r_pure hT rfl rfl rfl rfl ?_) | (refine r_new hT rfl rfl rfl rfl ?_) | (refine r_write hT rfl rfl rfl ?_) | (refine r_nil ?_) | (refine q_nil ?_) | (refine r_draw (id := 3) hM (by kernel_rfl) ?_) | (refine r_draw (id := 4) hM (by kernel_rfl) ?_) | (refine r_load hT hatW1 rfl rfl rfl rfl rfl rfl rfl rfl rfl rfl rfl ?_) | (refine r_index hT rfl rfl rfl rfl rfl rfl rfl rfl rfl hva.1 hva.2 ?_) | (refine r_load hT hatn1 rfl rfl rfl rfl rfl (Nat.add_zero _).symm rfl rfl rfl rfl rfl ?_) | (refine r_load hT hatt rfl rfl rfl rfl rfl (Nat.add_zero _).symm rfl rfl rfl rfl rfl ?_) | (refine r_arith rfl rfl rfl rfl rfl rfl rfl (by omega) ?_) | (with_reducible refine r_seq ?_) | (with_reducible refine x_then ?_) | (with_reducible refine r_region ?_) | (with_reducible refine r_skip ?_) | (with_reducible refine r_ret ?_) | (with_reducible refine x_then_ret ?_) | (with_reducible refine r_block ?_) | (with_reducible refine x_block ?_) | (with_reducible refine x_block_ret ?_) | (with_reducible refine r_exit ?_) | (with_reducible refine x_then_exit ?_) | (with_reducible refine x_block_here ?_) | (refine x_block_past rfl ?_) | (refine c_yes rfl (by omega) ?_) | (refine c_no rfl (by omega) ?_) | (refine c_no rfl (fun h => h rfl) ?_) | (refine r_cond_false rfl ?_) | (refine r_cond_true rfl ?_) | (refine r_cond_dec rfl (fun _ => ?_) (fun _ => ?_)) | (refine r_cond_true rfl ?_) | (refine r_cond_false rfl ?_) | (refine c_not rfl (fun _ => ?_) (fun _ => ?_)) | (refine r_off rfl rfl rfl ?_) | (refine q_guard rfl rfl (fun _ => ?_) (fun _ => ?_)) | (refine q_guardn rfl rfl (fun _ => ?_) (fun _ => ?_)))
        have hinp : ∀ p ∈ t, In ts.length p.val := hA t hm
        have htl := hc t hm
        refine r_loop (γ := Nat × Hp) (fun x => x.1 ≤ t.length ∧ FSt h0 x.2 ⟨pb, g, some ⟨bt, offt, none⟩, c, bl, ol, cl, bb, ob, cb⟩ ts Ao co (rfs ts f (rs ++ [v.a.toNat]) (t.take x.1)) L o)
          (fun x => [(0, .v (.pointer (some ⟨pb, 0, none⟩))), (37, .v (.slice A1 t.length c1)), (38, .v (.int .i64 (t.length : Int))), (39, .v (.int .i64 (x.1 : Int)))]) (fun _ => []) (fun x => x.2) (fun x => t.length - x.1)
          (0, u1) ⟨Nat.zero_le _, hF1⟩ (into rfl ⟨rfl, rfl, rfl, rfl, trivial⟩ trivial rfl rfl) ?_
        rintro ⟨j, uj⟩ ⟨hj, hFj⟩
        dsimp only at *
        by_cases hltj : j < t.length
        · obtain ⟨b2, off2, p, rfl, hd2, hix2, hm2, hat2⟩ := (hp1.le hFj.base).elem Pr.c_len hltj
          have hNj := goes_nm hA f (t.take j) _ (fun p hp => hinp p (List.mem_of_mem_take hp)) hN1
          have hlen := (goes_pre ts f (t.take j) (ord ++ [v.a.toNat])).length_le
          simp only [List.length_append, List.length_singleton] at hlen
          have hioj := rfs_mem hA (f := f) (t.take j) (ord ++ [v.a.toNat]) (rs ++ [v.a.toNat]) (fun p hp => hinp p (List.mem_of_mem_take hp)) hN1 (by rw [List.length_append, List.length_singleton]; omega) (fun a => by rw [List.mem_append, List.mem_append, hio a])
          have hBj : (rf ts f (rfs ts f (rs ++ [v.a.toNat]) (t.take j)) p.val).length ≤ 1000000 := by
            rw [← rfs_next hix2]
            exact Nat.le_trans (rfs_le f _ t (j + 1)).length_le hB
          repeat' (first | (refine r_pure hT rfl rfl rfl rfl ?_) | (refine r_new hT rfl rfl rfl rfl ?_) | (refine r_write hT rfl rfl rfl ?_) | (refine r_nil ?_) | (refine q_nil ?_) | (refine r_indexN hT rfl rfl rfl rfl rfl rfl rfl rfl rfl (by omega) ?_) | (refine r_load hT hat2 rfl rfl rfl rfl rfl (Nat.add_zero _).symm rfl rfl rfl rfl rfl ?_) | (refine r_call (countW h0 ⟨pb, g, some ⟨bt, offt, none⟩, c, bl, ol, cl, bb, ob, cb⟩ ts hA hn hc L Ao co o f _ _ p.val uj hFj hNj (hinp p hm2) hioj (by omega) hBj) rfl rfl rfl rfl rfl (hC _ rfl) rfl rfl (fun _ uy hy => ?_)) | (refine r_arith rfl rfl rfl rfl rfl rfl rfl (by omega) ?_) | (with_reducible refine r_seq ?_) | (with_reducible refine x_then ?_) | (with_reducible refine r_region ?_) | (refine r_draw hM (by kernel_rfl) ?_) | (with_reducible refine r_skip ?_) | (with_reducible refine r_ret ?_) | (with_reducible refine x_then_ret ?_) | (with_reducible refine r_block ?_) | (with_reducible refine x_block ?_) | (with_reducible refine x_block_ret ?_) | (with_reducible refine r_exit ?_) | (with_reducible refine x_then_exit ?_) | (with_reducible refine x_block_here ?_) | (refine x_block_past rfl ?_) | (refine c_yes rfl (by omega) ?_) | (refine c_no rfl (by omega) ?_) | (refine c_no rfl (fun h => h rfl) ?_) | (refine r_cond_false rfl ?_) | (refine r_cond_true rfl ?_) | (refine r_cond_dec rfl (fun _ => ?_) (fun _ => ?_)) | (refine r_cond_true rfl ?_) | (refine r_cond_false rfl ?_) | (refine c_not rfl (fun _ => ?_) (fun _ => ?_)) | (refine r_off rfl rfl rfl ?_) | (refine q_guard rfl rfl (fun _ => ?_) (fun _ => ?_)) | (refine q_guardn rfl rfl (fun _ => ?_) (fun _ => ?_)))
          exact x_round (j + 1, uy) ⟨hltj, by rw [rfs_next hix2]; exact hy⟩ (by dsimp only; omega) (into rfl ⟨rfl, rfl, rfl, rfl, trivial⟩ trivial rfl rfl)
        · obtain rfl : j = t.length := by omega
          rw [List.take_length] at hFj
          repeat' (first | (refine r_pure hT rfl rfl rfl rfl ?_) | (refine r_new hT rfl rfl rfl rfl ?_) | (refine r_write hT rfl rfl rfl ?_) | (refine r_nil ?_) | (refine q_nil ?_) | (refine r_arith rfl rfl rfl rfl rfl rfl rfl (by omega) ?_) | (with_reducible refine r_seq ?_) | (with_reducible refine x_then ?_) | (with_reducible refine r_region ?_) | (refine r_draw hM (by kernel_rfl) ?_) | (with_reducible refine r_skip ?_) | (with_reducible refine r_ret ?_) | (with_reducible refine x_then_ret ?_) | (with_reducible refine r_block ?_) | (with_reducible refine x_block ?_) | (with_reducible refine x_block_ret ?_) | (with_reducible refine r_exit ?_) | (with_reducible refine x_then_exit ?_) | (with_reducible refine x_block_here ?_) | (refine x_block_past rfl ?_) | (refine c_yes rfl (by omega) ?_) | (refine c_no rfl (by omega) ?_) | (refine c_no rfl (fun h => h rfl) ?_) | (refine r_cond_false rfl ?_) | (refine r_cond_true rfl ?_) | (refine r_cond_dec rfl (fun _ => ?_) (fun _ => ?_)) | (refine r_cond_true rfl ?_) | (refine r_cond_false rfl ?_) | (refine c_not rfl (fun _ => ?_) (fun _ => ?_)) | (refine r_off rfl rfl rfl ?_) | (refine q_guard rfl rfl (fun _ => ?_) (fun _ => ?_)) | (refine q_guardn rfl rfl (fun _ => ?_) (fun _ => ?_)))
          exact r_fin hT rfl () rfl rfl rfl trivial rfl hFj
    · rw [rf_leaf h4]
      repeat' (first | (refine r_pure hT rfl rfl rfl rfl ?_) | (refine r_new hT rfl rfl rfl rfl ?_) | (refine r_write hT rfl rfl rfl ?_) | (refine r_nil ?_) | (refine q_nil ?_) | (refine c_yes rfl h4 ?_) | (refine r_arith rfl rfl rfl rfl rfl rfl rfl (by omega) ?_) | (with_reducible refine r_seq ?_) | (with_reducible refine x_then ?_) | (with_reducible refine r_region ?_) | (refine r_draw hM (by kernel_rfl) ?_) | (with_reducible refine r_skip ?_) | (with_reducible refine r_ret ?_) | (with_reducible refine x_then_ret ?_) | (with_reducible refine r_block ?_) | (with_reducible refine x_block ?_) | (with_reducible refine x_block_ret ?_) | (with_reducible refine r_exit ?_) | (with_reducible refine x_then_exit ?_) | (with_reducible refine x_block_here ?_) | (refine x_block_past rfl ?_) | (refine c_yes rfl (by omega) ?_) | (refine c_no rfl (by omega) ?_) | (refine c_no rfl (fun h => h rfl) ?_) | (refine r_cond_false rfl ?_) | (refine r_cond_true rfl ?_) | (refine r_cond_dec rfl (fun _ => ?_) (fun _ => ?_)) | (refine r_cond_true rfl ?_) | (refine r_cond_false rfl ?_) | (refine c_not rfl (fun _ => ?_) (fun _ => ?_)) | (refine r_off rfl rfl rfl ?_) | (refine q_guard rfl rfl (fun _ => ?_) (fun _ => ?_)) | (refine q_guardn rfl rfl (fun _ => ?_) (fun _ => ?_)))
      exact r_fin hT rfl () rfl rfl rfl trivial rfl hF
end Go.Proofs.YtkamfnmbidnhdaaDoor
/- The specification's freezer: its writer, its values. No condition. -/
namespace Go.Proofs.YtkamfnmbidnhdaaDoor
open Go.Sy
set_option maxRecDepth 100000
set_option maxHeartbeats 8000000
set_option linter.unusedVariables false
set_option linter.unusedSimpArgs false
section
variable {h0 u u1 u2 u3 : Hp} {a : FA} {ts : List (List Pr)} {Ao A' : Option Addr} {co c' : Nat} {rs L : List Nat} {o : List UInt8} {s : ByteArray}
theorem FSt.push (h : FSt h0 u a ts Ao co rs L o) (hO : Own u3 A' (o.length + s.size) c' 5 1 (o.flatMap bc1 ++ byteCells s)) (hG : Grown u u3 Ao A') :
    u3 a.pb = some (.cells (fCells a ts.length (L.length : Int) Ao o.length co).toArray 140 (0, 0)) ∧ FSt h0 (upd u3 a.pb (.cells (fCells a ts.length (L.length : Int) A' (o.length + s.size) c').toArray 140 (0, 0))) a ts A' c' rs L (o ++ s.data.toList) := by
  obtain ⟨g1, g2⟩ := ptw_grown hG (Le.refl u)
  have kk : ∀ x ox, u x = some ox → blk Ao ≠ some x → u3 x = some ox ∧ blk A' ≠ some x := fun x ox hx hne => by
    have h1 : ptw u Ao x = some ox := by unfold ptw; rw [if_neg hne]; exact hx
    exact ⟨g1 x ox h1, fun e => by rw [g2 x e] at h1; cases h1⟩
  obtain ⟨p1, p2, p3, p4, p5, p6⟩ := h.ap
  obtain ⟨c1, c2⟩ := kk _ _ h.cell p4
  obtain ⟨ol, hol⟩ := Option.ne_none_iff_exists'.1 (h.led.live rfl)
  obtain ⟨ob, hob⟩ := Option.ne_none_iff_exists'.1 (h.lab.live rfl)
  have hlb := kk _ _ hol p5
  have hbb := kk _ _ hob p6
  have hlen : (o ++ s.data.toList).length = o.length + s.size := by rw [List.length_append]; rfl
  refine ⟨c1, ⟨?_, ?_, ?_, ?_, ?_, h.hp, h.hl, h.hb, fun b hb => ?_, ⟨p1, p2, p3, c2, hlb.2, hbb.2⟩, h.tabs⟩⟩
  · rw [upd_here, hlen]
  · exact h.led.le fun b o hb ho => by
      have e := Option.some.inj hb; subst e
      rw [upd_ne (Ne.symm p1)]; exact (kk _ _ ho p5).1
  · exact h.lab.le fun b o hb ho => by
      have e := Option.some.inj hb; subst e
      rw [upd_ne (Ne.symm p2)]; exact (kk _ _ ho p6).1
  · rw [hlen, List.flatMap_append, bc1_bytes]
    exact hO.le fun b o hb ho => by rw [upd_ne (fun e => c2 (by rw [← e]; exact hb))]; exact ho
  · intro x ox hx
    rw [upd_ne (fun e => by rw [e, h.hp] at hx; cases hx)]
    exact (kk x ox (h.base x ox hx) (fun e => by rw [h.ho x e] at hx; cases hx)).1
  · cases hh : h0 b with
    | none => rfl
    | some ox => exact absurd hb (kk b ox (h.base b ox hh) (fun e => by rw [h.ho b e] at hh; cases hh)).2
/-- One label more. -/
theorem FSt.label {x : Nat} (h : FSt h0 u a ts Ao co rs L o) (hO : Own u2 (some ⟨a.bb, a.ob, none⟩) ts.length a.cb 3 1 (labV ts.length (L ++ [x]))) (hu : ∀ z, z ≠ a.bb → u2 z = upd u a.pb (.cells (fCells a ts.length ((L.length : Int) + 1) Ao o.length co).toArray 140 (0, 0)) z) :
    FSt h0 u2 a ts Ao co rs (L ++ [x]) o := by
  obtain ⟨p1, p2, p3, p4, p5, p6⟩ := h.ap
  have e : ((L ++ [x]).length : Int) = (L.length : Int) + 1 := by simp
  refine ⟨?_, ?_, hO, ?_, ?_, h.hp, h.hl, h.hb, h.ho, h.ap, h.tabs⟩
  · rw [hu _ p2, upd_here, e]
  · exact h.led.le fun b o hb ho => by
      have e := Option.some.inj hb; subst e
      rw [hu _ p3, upd_ne (Ne.symm p1)]; exact ho
  · exact h.out.le fun b o hb ho => by rw [hu _ (fun e => p6 (by rw [← e]; exact hb)), upd_ne (fun e => p4 (by rw [← e]; exact hb))]; exact ho
  · intro z ox hz
    rw [hu z (fun e => by rw [e, h.hb] at hz; cases hz), upd_ne (fun e => by rw [e, h.hp] at hz; cases hz)]; exact h.base z ox hz
end
theorem say135 (h0 u : Hp) (fa : FA) (ts : List (List Pr)) (Ao : Option Addr) (co : Nat) (rs L : List Nat) (o : List UInt8) (s : ByteArray) (hF : FSt h0 u fa ts Ao co rs L o) (hs : o.length + s.size ≤ 1000000000) :
    TriS Tryd.prog 135 [.v (.pointer (some ⟨fa.pb, 0, none⟩)), .v (.string s)] [] u (fun _ : Option Addr × Nat => .tu []) (fun _ => []) (fun y u' => FSt h0 u' fa ts y.1 y.2 rs L (o ++ s.data.toList)) := by
  refine enterS Tryd.func135 rfl (n := 13) rfl rfl (fun k N => ?_)
  have hat := hF.at_
  repeat' (first | (refine r_pure hT rfl rfl rfl rfl ?_) | (refine r_new hT rfl rfl rfl rfl ?_) | (refine r_write hT rfl rfl rfl ?_) | (refine r_nil ?_) | (refine q_nil ?_) | (refine r_load hT hat rfl rfl rfl rfl rfl rfl rfl rfl rfl rfl rfl ?_) | ((refine r_append_str hT rfl rfl rfl rfl rfl rfl rfl rfl rfl rfl rfl rfl rfl hF.out (by omega) (fun A' c' u3 hO3 hG3 => ?_) ; obtain ⟨hc3, hF3⟩ := hF.push hO3 hG3)) | (refine r_store hT rfl rfl rfl rfl rfl rfl rfl rfl rfl rfl hc3 (Nat.le_refl 9) ?_) | (refine r_arith rfl rfl rfl rfl rfl rfl rfl (by omega) ?_) | (with_reducible refine r_seq ?_) | (with_reducible refine x_then ?_) | (with_reducible refine r_region ?_) | (refine r_draw hM (by kernel_rfl) ?_) | (with_reducible refine r_skip ?_) | (with_reducible refine r_ret ?_) | (with_reducible refine x_then_ret ?_) | (with_reducible refine r_block ?_) | (with_reducible refine x_block ?_) | (with_reducible refine x_block_ret ?_) | (with_reducible refine r_exit ?_) | (with_reducible refine x_then_exit ?_) | (with_reducible refine x_block_here ?_) | (refine x_block_past rfl ?_) | (refine c_yes rfl (by omega) ?_) | (refine c_no rfl (by omega) ?_) | (refine c_no rfl (fun h => h rfl) ?_) | (refine r_cond_false rfl ?_) | (refine r_cond_true rfl ?_) | (refine r_cond_dec rfl (fun _ => ?_) (fun _ => ?_)) | (refine r_cond_true rfl ?_) | (refine r_cond_false rfl ?_) | (refine c_not rfl (fun _ => ?_) (fun _ => ?_)) | (refine r_off rfl rfl rfl ?_) | (refine q_guard rfl rfl (fun _ => ?_) (fun _ => ?_)) | (refine q_guardn rfl rfl (fun _ => ?_) (fun _ => ?_)))
  exact r_fin hT rfl ((A', c') : Option Addr × Nat) rfl rfl rfl trivial rfl hF3
end Go.Proofs.YtkamfnmbidnhdaaDoor
