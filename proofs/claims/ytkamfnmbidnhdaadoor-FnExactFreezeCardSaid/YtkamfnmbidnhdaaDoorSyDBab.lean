/- strings.Builder, wherever it lies in a block. No condition. -/
import Derived.Test.YtkamfnmbidnhdaaDoorSyGa
import Derived.Test.YtkamfnmbidnhdaaDoorSyDFcd
import Derived.KernelRfl
set_option linter.unusedVariables false
set_option linter.unusedSimpArgs false
set_option linter.unusedSectionVars false
namespace Go.Proofs.YtkamfnmbidnhdaaDoor
open Go.Sy
set_option maxRecDepth 100000
set_option maxHeartbeats 4000000
set_option linter.unusedVariables false
set_option linter.unusedSimpArgs false
def bdC (pre post : List Value) (ad : Value) (A : Option Addr) (n c : Nat) : List Value := pre ++ ad :: .slice A n c :: post
structure BSt (h0 u : Hp) (pb : Nat) (e : TypeId) (pre post : List Value) (ad : Value) (A : Option Addr) (c : Nat) (o : List UInt8) : Prop where
  cell : u pb = some (.cells (bdC pre post ad A o.length c).toArray e (0, 0))
  own : Own u A o.length c 5 1 (o.flatMap bc1)
  hd : HdA A
  adr : ad = .pointer none ∨ ad = .pointer (some ⟨pb, pre.length, none⟩)
  base : Le h0 u
  hp : h0 pb = none
  ho : Off h0 A
  ap : blk A ≠ some pb
/-- That a Builder lies there in a block of that type. -/
def LiesB (e : TypeId) (pre post : List Value) : Prop := liesAt Tryd.prog Tryd.prog.depth e ((pre.length + 2 + post.length) / Tryd.prog.cellsOf e) pre.length 93 1 = true
section
variable {h0 u : Hp} {pb : Nat} {e : TypeId} {pre post : List Value} {ad : Value} {A : Option Addr} {c : Nat} {o : List UInt8}
theorem bdC_len (pre post : List Value) (ad : Value) (A : Option Addr) (n c : Nat) : (bdC pre post ad A n c).length = pre.length + 2 + post.length := by simp [bdC]; omega
theorem BSt.at_ (h : BSt h0 u pb e pre post ad A c o) : At u pb pre.length [ad, .slice A o.length c] := ⟨_, _, _, h.cell, fun j v hj => by
  simp only [bdC, List.getElem?_toArray]
  rw [List.getElem?_append_right (by omega), show pre.length + j - pre.length = j by omega]
  match j, hj with
  | 0, hj => exact hj
  | 1, hj => exact hj⟩
theorem bdC_ad (v : Value) (n : Nat) : setL (bdC pre post ad A n c) pre.length [v] = bdC pre post v A n c := by
  unfold bdC
  rw [show pre.length = pre.length + 0 from rfl, setL_pre]; rfl
theorem bdC_sl (n : Nat) (A' : Option Addr) (m c' : Nat) : setL (bdC pre post ad A n c) (pre.length + 1) [.slice A' m c'] = bdC pre post ad A' m c' := by
  unfold bdC
  rw [setL_pre]; rfl
theorem BSt.ad_ (h : BSt h0 u pb e pre post ad A c o) : BSt h0 (upd u pb (.cells (bdC pre post (.pointer (some ⟨pb, pre.length, none⟩)) A o.length c).toArray e (0, 0))) pb e pre post (.pointer (some ⟨pb, pre.length, none⟩)) A c o :=
  ⟨upd_here .., h.own.le fun b o hb ho => by rw [upd_ne (fun e => h.ap (by rw [← e]; exact hb))]; exact ho, h.hd, .inr rfl, fun x o hx => by rw [upd_ne (fun e => by rw [e, h.hp] at hx; cases hx)]; exact h.base x o hx, h.hp, h.ho, h.ap⟩
end
/-- Blocks that are not the builder's stay, and are not its afterwards. -/
def KeepB (u : Hp) (pb : Nat) (A : Option Addr) (u' : Hp) (A' : Option Addr) : Prop := ∀ z ox, z ≠ pb → blk A ≠ some z → u z = some ox → u' z = some ox ∧ blk A' ≠ some z
theorem BSt.push {h0 u w u3 : Hp} {pb : Nat} {e : TypeId} {pre post : List Value} {ad : Value} {A A' : Option Addr} {c c' : Nat} {o x : List UInt8} (h : BSt h0 u pb e pre post ad A c o) (hw : Le u w) (hO : Own u3 A' (o.length + x.length) c' 5 1 (o.flatMap bc1 ++ x.flatMap bc1)) (hG : Grown w u3 A A') (hH : HdA A → HdA A') :
    u3 pb = some (.cells (bdC pre post ad A o.length c).toArray e (0, 0)) ∧ BSt h0 (upd u3 pb (.cells (bdC pre post ad A' (o.length + x.length) c').toArray e (0, 0))) pb e pre post ad A' c' (o ++ x) ∧ KeepB u pb A (upd u3 pb (.cells (bdC pre post ad A' (o.length + x.length) c').toArray e (0, 0))) A' := by
  obtain ⟨g1, g2⟩ := ptw_grown hG hw
  have kk : ∀ z ox, u z = some ox → blk A ≠ some z → u3 z = some ox ∧ blk A' ≠ some z := fun z ox hx hne => by
    have h1 : ptw u A z = some ox := by unfold ptw; rw [if_neg hne]; exact hx
    exact ⟨g1 z ox h1, fun e => by rw [g2 z e] at h1; cases h1⟩
  obtain ⟨c1, c2⟩ := kk _ _ h.cell h.ap
  have hl : (o ++ x).length = o.length + x.length := List.length_append
  refine ⟨c1, ⟨by rw [upd_here, hl], ?_, hH h.hd, h.adr, fun z ox hz => ?_, h.hp, fun b hb => ?_, c2⟩, fun z ox hz hA hu => ?_⟩
  · rw [hl, List.flatMap_append]
    exact hO.le fun b o hb ho => by rw [upd_ne (fun e => c2 (by rw [← e]; exact hb))]; exact ho
  · rw [upd_ne (fun e => by rw [e, h.hp] at hz; cases hz)]
    exact (kk z ox (h.base z ox hz) (fun e => by rw [h.ho z e] at hz; cases hz)).1
  · cases hh : h0 b with
    | none => rfl
    | some ox => exact absurd hb (kk b ox (h.base b ox hh) (fun e => by rw [h.ho b e] at hh; cases hh)).2
  · obtain ⟨k1, k2⟩ := kk z ox hu hA
    exact ⟨by rw [upd_ne hz]; exact k1, k2⟩
theorem info93 : (Tryd.prog.info? 93).map (·.size) = some 2 := by kernel_rfl
theorem copyCheck (h0 u : Hp) (pb : Nat) (e : TypeId) (pre post : List Value) (ad : Value) (A : Option Addr) (c : Nat) (o : List UInt8) (hB : BSt h0 u pb e pre post ad A c o) (hl : LiesB e pre post) :
    TriS Tryd.prog 139 [.v (.pointer (some ⟨pb, pre.length, none⟩))] [] u (fun _ : Unit => .tu []) (fun _ => [])
      (fun _ u' => BSt h0 u' pb e pre post (.pointer (some ⟨pb, pre.length, none⟩)) A c o ∧ ∀ z, z ≠ pb → u' z = u z) := by
  obtain ⟨j, hj, hjs⟩ := Option.map_eq_some_iff.1 info93
  have hat := hB.at_
  refine enterS Tryd.func139 rfl (n := 20) rfl rfl (fun k N => ?_)
  rcases hB.adr with rfl | rfl
  · have hsz : (bdC pre post (.pointer none) A o.length c).toArray.size = pre.length + 2 + post.length := by simpa using bdC_len pre post (.pointer none) A o.length c
    repeat' (first | (refine r_pure hT rfl rfl rfl rfl ?_) | (refine r_new hT rfl rfl rfl rfl ?_) | (refine r_write hT rfl rfl rfl ?_) | (refine r_nil ?_) | (refine q_nil ?_) | (refine r_load hT hat rfl rfl rfl rfl rfl rfl rfl rfl rfl rfl rfl ?_) | (refine r_ptrnil Tryd.underlying91 rfl rfl rfl rfl rfl rfl ?_) | (refine r_tounsafe Tryd.underlying91 Tryd.underlying198 hj (by rw [hjs]; decide) hB.cell (by rw [hsz]; show pre.length < _; omega) rfl rfl rfl rfl rfl ?_) | (refine r_noescape Tryd.func164 (by kernel_rfl) (by kernel_rfl) (by kernel_rfl) (by kernel_rfl) rfl rfl rfl rfl rfl ?_) | (refine r_fromunsafe Tryd.underlying198 Tryd.underlying91 hj hB.cell (by rw [hsz]; exact hl) rfl rfl rfl rfl rfl ?_) | (refine r_store hT rfl rfl rfl rfl rfl rfl rfl rfl rfl rfl hB.cell (by rw [hsz]; show pre.length + 1 ≤ _; omega) ?_) | (refine r_arith rfl rfl rfl rfl rfl rfl rfl (by omega) ?_) | (with_reducible refine r_seq ?_) | (with_reducible refine x_then ?_) | (with_reducible refine r_region ?_) | (refine r_draw hM (by kernel_rfl) ?_) | (with_reducible refine r_skip ?_) | (with_reducible refine r_ret ?_) | (with_reducible refine x_then_ret ?_) | (with_reducible refine r_block ?_) | (with_reducible refine x_block ?_) | (with_reducible refine x_block_ret ?_) | (with_reducible refine r_exit ?_) | (with_reducible refine x_then_exit ?_) | (with_reducible refine x_block_here ?_) | (refine x_block_past rfl ?_) | (refine c_yes rfl (by omega) ?_) | (refine c_no rfl (by omega) ?_) | (refine c_no rfl (fun h => h rfl) ?_) | (refine r_cond_false rfl ?_) | (refine r_cond_true rfl ?_) | (refine r_cond_dec rfl (fun _ => ?_) (fun _ => ?_)) | (refine r_cond_true rfl ?_) | (refine r_cond_false rfl ?_) | (refine c_not rfl (fun _ => ?_) (fun _ => ?_)) | (refine r_off rfl rfl rfl ?_) | (refine q_guard rfl rfl (fun _ => ?_) (fun _ => ?_)) | (refine q_guardn rfl rfl (fun _ => ?_) (fun _ => ?_)))
    have e1 : setL (bdC pre post (.pointer none) A o.length c).toArray.toList (pre.length + 0) [.pointer (some ⟨pb, pre.length, none⟩)] = bdC pre post (.pointer (some ⟨pb, pre.length, none⟩)) A o.length c := bdC_ad _ _
    rw [e1]
    exact r_fin hT rfl () rfl rfl rfl trivial rfl ⟨hB.ad_, fun z hz => upd_ne hz⟩
  · repeat' (first | (refine r_pure hT rfl rfl rfl rfl ?_) | (refine r_new hT rfl rfl rfl rfl ?_) | (refine r_write hT rfl rfl rfl ?_) | (refine r_nil ?_) | (refine q_nil ?_) | (refine r_load hT hat rfl rfl rfl rfl rfl rfl rfl rfl rfl rfl rfl ?_) | (refine r_ptrnil Tryd.underlying91 rfl rfl rfl rfl rfl rfl ?_) | (refine r_ptrsame Tryd.underlying91 hj rfl rfl rfl rfl rfl rfl ?_) | (refine r_arith rfl rfl rfl rfl rfl rfl rfl (by omega) ?_) | (with_reducible refine r_seq ?_) | (with_reducible refine x_then ?_) | (with_reducible refine r_region ?_) | (refine r_draw hM (by kernel_rfl) ?_) | (with_reducible refine r_skip ?_) | (with_reducible refine r_ret ?_) | (with_reducible refine x_then_ret ?_) | (with_reducible refine r_block ?_) | (with_reducible refine x_block ?_) | (with_reducible refine x_block_ret ?_) | (with_reducible refine r_exit ?_) | (with_reducible refine x_then_exit ?_) | (with_reducible refine x_block_here ?_) | (refine x_block_past rfl ?_) | (refine c_yes rfl (by omega) ?_) | (refine c_no rfl (by omega) ?_) | (refine c_no rfl (fun h => h rfl) ?_) | (refine r_cond_false rfl ?_) | (refine r_cond_true rfl ?_) | (refine r_cond_dec rfl (fun _ => ?_) (fun _ => ?_)) | (refine r_cond_true rfl ?_) | (refine r_cond_false rfl ?_) | (refine c_not rfl (fun _ => ?_) (fun _ => ?_)) | (refine r_off rfl rfl rfl ?_) | (refine q_guard rfl rfl (fun _ => ?_) (fun _ => ?_)) | (refine q_guardn rfl rfl (fun _ => ?_) (fun _ => ?_)))
    exact r_fin hT rfl () rfl rfl rfl trivial rfl ⟨hB, fun z hz => rfl⟩
theorem writeS (h0 u : Hp) (pb : Nat) (e : TypeId) (pre post : List Value) (ad : Value) (A : Option Addr) (c : Nat) (o : List UInt8) (s : ByteArray) (hB : BSt h0 u pb e pre post ad A c o) (hl : LiesB e pre post) (hs : o.length + s.size ≤ 1000000000) :
    TriS Tryd.prog 109 [.v (.pointer (some ⟨pb, pre.length, none⟩)), .v (.string s)] [] u (fun _ : Option Addr × Nat => .tu [.v (.int .i64 (s.size : Int)), .v .nilIface]) (fun _ => [])
      (fun y u' => BSt h0 u' pb e pre post (.pointer (some ⟨pb, pre.length, none⟩)) y.1 y.2 (o ++ s.data.toList) ∧ KeepB u pb A u' y.1) := by
  refine enterS Tryd.func109 rfl (n := 19) rfl rfl (fun k N => ?_)
  repeat' (first | (refine r_pure hT rfl rfl rfl rfl ?_) | (refine r_new hT rfl rfl rfl rfl ?_) | (refine r_write hT rfl rfl rfl ?_) | (refine r_nil ?_) | (refine q_nil ?_) | (refine r_call (copyCheck h0 u pb e pre post ad A c o hB hl) rfl rfl rfl rfl rfl (hC _ rfl) rfl rfl (fun _ u1 hy => ?_)) | (refine r_arith rfl rfl rfl rfl rfl rfl rfl (by omega) ?_) | (with_reducible refine r_seq ?_) | (with_reducible refine x_then ?_) | (with_reducible refine r_region ?_) | (refine r_draw hM (by kernel_rfl) ?_) | (with_reducible refine r_skip ?_) | (with_reducible refine r_ret ?_) | (with_reducible refine x_then_ret ?_) | (with_reducible refine r_block ?_) | (with_reducible refine x_block ?_) | (with_reducible refine x_block_ret ?_) | (with_reducible refine r_exit ?_) | (with_reducible refine x_then_exit ?_) | (with_reducible refine x_block_here ?_) | (refine x_block_past rfl ?_) | (refine c_yes rfl (by omega) ?_) | (refine c_no rfl (by omega) ?_) | (refine c_no rfl (fun h => h rfl) ?_) | (refine r_cond_false rfl ?_) | (refine r_cond_true rfl ?_) | (refine r_cond_dec rfl (fun _ => ?_) (fun _ => ?_)) | (refine r_cond_true rfl ?_) | (refine r_cond_false rfl ?_) | (refine c_not rfl (fun _ => ?_) (fun _ => ?_)) | (refine r_off rfl rfl rfl ?_) | (refine q_guard rfl rfl (fun _ => ?_) (fun _ => ?_)) | (refine q_guardn rfl rfl (fun _ => ?_) (fun _ => ?_)))
  obtain ⟨hB1, hz1⟩ := hy
  have hat := hB1.at_
  have hsz : ∀ n : Nat, (bdC pre post (.pointer (some ⟨pb, pre.length, none⟩)) A n c).toArray.size = pre.length + 2 + post.length := fun n => by simpa using bdC_len pre post (.pointer (some ⟨pb, pre.length, none⟩)) A n c
  repeat' (first | (refine r_pure hT rfl rfl rfl rfl ?_) | (refine r_new hT rfl rfl rfl rfl ?_) | (refine r_write hT rfl rfl rfl ?_) | (refine r_nil ?_) | (refine q_nil ?_) | (refine r_load hT hat rfl rfl rfl rfl rfl rfl rfl rfl rfl rfl rfl ?_) | ((refine r_append_str0 hT rfl rfl rfl rfl rfl rfl rfl rfl rfl rfl rfl rfl rfl hB1.own (by omega) (fun A' c' u3 hO3 hG3 hH3 => ?_) ; rw [← bc1_bytes] at hO3 ; obtain ⟨hc3, hB3, hK3⟩ := hB1.push (x := s.data.toList) (Le.refl u1) hO3 hG3 hH3)) | (refine r_store hT rfl rfl rfl rfl rfl rfl rfl rfl rfl rfl hc3 (by rw [hsz]; show pre.length + 1 + 1 ≤ _; omega) ?_) | (refine r_arith rfl rfl rfl rfl rfl rfl rfl (by omega) ?_) | (with_reducible refine r_seq ?_) | (with_reducible refine x_then ?_) | (with_reducible refine r_region ?_) | (refine r_draw hM (by kernel_rfl) ?_) | (with_reducible refine r_skip ?_) | (with_reducible refine r_ret ?_) | (with_reducible refine x_then_ret ?_) | (with_reducible refine r_block ?_) | (with_reducible refine x_block ?_) | (with_reducible refine x_block_ret ?_) | (with_reducible refine r_exit ?_) | (with_reducible refine x_then_exit ?_) | (with_reducible refine x_block_here ?_) | (refine x_block_past rfl ?_) | (refine c_yes rfl (by omega) ?_) | (refine c_no rfl (by omega) ?_) | (refine c_no rfl (fun h => h rfl) ?_) | (refine r_cond_false rfl ?_) | (refine r_cond_true rfl ?_) | (refine r_cond_dec rfl (fun _ => ?_) (fun _ => ?_)) | (refine r_cond_true rfl ?_) | (refine r_cond_false rfl ?_) | (refine c_not rfl (fun _ => ?_) (fun _ => ?_)) | (refine r_off rfl rfl rfl ?_) | (refine q_guard rfl rfl (fun _ => ?_) (fun _ => ?_)) | (refine q_guardn rfl rfl (fun _ => ?_) (fun _ => ?_)))
  have e1 : setL (bdC pre post (.pointer (some ⟨pb, pre.length, none⟩)) A o.length c).toArray.toList (pre.length + 1) [.slice A' (o.length + s.size) c'] = bdC pre post (.pointer (some ⟨pb, pre.length, none⟩)) A' (o.length + s.size) c' := bdC_sl _ _ _ _
  rw [e1]
  exact r_fin hT rfl ((A', c') : Option Addr × Nat) rfl rfl rfl trivial rfl ⟨hB3, fun z ox hz hA hu => hK3 z ox hz hA (by rw [hz1 z hz]; exact hu)⟩
theorem writeB (h0 u : Hp) (pb : Nat) (e : TypeId) (pre post : List Value) (ad : Value) (A : Option Addr) (c : Nat) (o : List UInt8) (b : UInt8) (hB : BSt h0 u pb e pre post ad A c o) (hl : LiesB e pre post) (hs : o.length + 1 ≤ 1000000000) :
    TriS Tryd.prog 142 [.v (.pointer (some ⟨pb, pre.length, none⟩)), .v (.int .u8 (b.toNat : Int))] [] u (fun _ : Option Addr × Nat => .v .nilIface) (fun _ => [])
      (fun y u' => BSt h0 u' pb e pre post (.pointer (some ⟨pb, pre.length, none⟩)) y.1 y.2 (o ++ [b]) ∧ KeepB u pb A u' y.1) := by
  refine enterS Tryd.func142 rfl (n := 17) rfl rfl (fun k N => ?_)
  repeat' (first | (refine r_pure hT rfl rfl rfl rfl ?_) | (refine r_new hT rfl rfl rfl rfl ?_) | (refine r_write hT rfl rfl rfl ?_) | (refine r_nil ?_) | (refine q_nil ?_) | (refine r_call (copyCheck h0 u pb e pre post ad A c o hB hl) rfl rfl rfl rfl rfl (hC _ rfl) rfl rfl (fun _ u1 hy => ?_)) | (refine r_arith rfl rfl rfl rfl rfl rfl rfl (by omega) ?_) | (with_reducible refine r_seq ?_) | (with_reducible refine x_then ?_) | (with_reducible refine r_region ?_) | (refine r_draw hM (by kernel_rfl) ?_) | (with_reducible refine r_skip ?_) | (with_reducible refine r_ret ?_) | (with_reducible refine x_then_ret ?_) | (with_reducible refine r_block ?_) | (with_reducible refine x_block ?_) | (with_reducible refine x_block_ret ?_) | (with_reducible refine r_exit ?_) | (with_reducible refine x_then_exit ?_) | (with_reducible refine x_block_here ?_) | (refine x_block_past rfl ?_) | (refine c_yes rfl (by omega) ?_) | (refine c_no rfl (by omega) ?_) | (refine c_no rfl (fun h => h rfl) ?_) | (refine r_cond_false rfl ?_) | (refine r_cond_true rfl ?_) | (refine r_cond_dec rfl (fun _ => ?_) (fun _ => ?_)) | (refine r_cond_true rfl ?_) | (refine r_cond_false rfl ?_) | (refine c_not rfl (fun _ => ?_) (fun _ => ?_)) | (refine r_off rfl rfl rfl ?_) | (refine q_guard rfl rfl (fun _ => ?_) (fun _ => ?_)) | (refine q_guardn rfl rfl (fun _ => ?_) (fun _ => ?_)))
  obtain ⟨hB1, hz1⟩ := hy
  have hat := hB1.at_
  have hsz : ∀ n : Nat, (bdC pre post (.pointer (some ⟨pb, pre.length, none⟩)) A n c).toArray.size = pre.length + 2 + post.length := fun n => by simpa using bdC_len pre post (.pointer (some ⟨pb, pre.length, none⟩)) A n c
  repeat' (first | (refine r_pure hT rfl rfl rfl rfl ?_) | (refine r_new hT rfl rfl rfl rfl ?_) | (refine r_write hT rfl rfl rfl ?_) | (refine r_nil ?_) | (refine q_nil ?_) | (refine r_load hT hat rfl rfl rfl rfl rfl rfl rfl rfl rfl rfl rfl ?_) | (refine r_bslice hT (ps := [(0, .tmp 12)]) rfl rfl rfl rfl rfl rfl rfl (by simp) rfl rfl (by decide) (fun b2 hb2 => ?_)) | ((refine r_append0 hT (cs := o.flatMap bc1) (news := ([b] : List UInt8).flatMap bc1) rfl rfl rfl rfl rfl rfl rfl rfl rfl rfl rfl (own_fr hB1.own hb2) (sl_blk (upd_here ..) rfl) bc1_one (by dsimp only; omega) (by omega) (fun A' c' u3 hO3 hG3 hH3 => ?_) ; obtain ⟨hc3, hB3, hK3⟩ := hB1.push (x := [b]) (le_frsh (Le.refl u1) hb2) hO3 hG3 hH3)) | (refine r_store hT rfl rfl rfl rfl rfl rfl rfl rfl rfl rfl hc3 (by rw [hsz]; show pre.length + 1 + 1 ≤ _; omega) ?_) | (refine r_arith rfl rfl rfl rfl rfl rfl rfl (by omega) ?_) | (with_reducible refine r_seq ?_) | (with_reducible refine x_then ?_) | (with_reducible refine r_region ?_) | (refine r_draw hM (by kernel_rfl) ?_) | (with_reducible refine r_skip ?_) | (with_reducible refine r_ret ?_) | (with_reducible refine x_then_ret ?_) | (with_reducible refine r_block ?_) | (with_reducible refine x_block ?_) | (with_reducible refine x_block_ret ?_) | (with_reducible refine r_exit ?_) | (with_reducible refine x_then_exit ?_) | (with_reducible refine x_block_here ?_) | (refine x_block_past rfl ?_) | (refine c_yes rfl (by omega) ?_) | (refine c_no rfl (by omega) ?_) | (refine c_no rfl (fun h => h rfl) ?_) | (refine r_cond_false rfl ?_) | (refine r_cond_true rfl ?_) | (refine r_cond_dec rfl (fun _ => ?_) (fun _ => ?_)) | (refine r_cond_true rfl ?_) | (refine r_cond_false rfl ?_) | (refine c_not rfl (fun _ => ?_) (fun _ => ?_)) | (refine r_off rfl rfl rfl ?_) | (refine q_guard rfl rfl (fun _ => ?_) (fun _ => ?_)) | (refine q_guardn rfl rfl (fun _ => ?_) (fun _ => ?_)))
  have e1 : setL (bdC pre post (.pointer (some ⟨pb, pre.length, none⟩)) A o.length c).toArray.toList (pre.length + 1) [.slice A' (o.length + 1) c'] = bdC pre post (.pointer (some ⟨pb, pre.length, none⟩)) A' (o.length + 1) c' := bdC_sl _ _ _ _
  rw [e1]
  exact r_fin hT rfl ((A', c') : Option Addr × Nat) rfl rfl rfl trivial rfl ⟨hB3, fun z ox hz hA hu => hK3 z ox hz hA (by rw [hz1 z hz]; exact hu)⟩
theorem lenB (h0 u : Hp) (pb : Nat) (e : TypeId) (pre post : List Value) (ad : Value) (A : Option Addr) (c : Nat) (o : List UInt8) (hB : BSt h0 u pb e pre post ad A c o) :
    Pur Tryd.prog 71 [.v (.pointer (some ⟨pb, pre.length, none⟩))] u (fun y : Nat => .v (.int .i64 (y : Int))) o.length := by
  have hat := hB.at_
  refine enterS Tryd.func71 rfl (n := 8) rfl rfl (fun k N => ?_)
  repeat' (first | (refine r_pure hT rfl rfl rfl rfl ?_) | (refine r_new hT rfl rfl rfl rfl ?_) | (refine r_write hT rfl rfl rfl ?_) | (refine r_nil ?_) | (refine q_nil ?_) | (refine r_load hT hat rfl rfl rfl rfl rfl rfl rfl rfl rfl rfl rfl ?_) | (refine r_arith rfl rfl rfl rfl rfl rfl rfl (by omega) ?_) | (with_reducible refine r_seq ?_) | (with_reducible refine x_then ?_) | (with_reducible refine r_region ?_) | (refine r_draw hM (by kernel_rfl) ?_) | (with_reducible refine r_skip ?_) | (with_reducible refine r_ret ?_) | (with_reducible refine x_then_ret ?_) | (with_reducible refine r_block ?_) | (with_reducible refine x_block ?_) | (with_reducible refine x_block_ret ?_) | (with_reducible refine r_exit ?_) | (with_reducible refine x_then_exit ?_) | (with_reducible refine x_block_here ?_) | (refine x_block_past rfl ?_) | (refine c_yes rfl (by omega) ?_) | (refine c_no rfl (by omega) ?_) | (refine c_no rfl (fun h => h rfl) ?_) | (refine r_cond_false rfl ?_) | (refine r_cond_true rfl ?_) | (refine r_cond_dec rfl (fun _ => ?_) (fun _ => ?_)) | (refine r_cond_true rfl ?_) | (refine r_cond_false rfl ?_) | (refine c_not rfl (fun _ => ?_) (fun _ => ?_)) | (refine r_off rfl rfl rfl ?_) | (refine q_guard rfl rfl (fun _ => ?_) (fun _ => ?_)) | (refine q_guardn rfl rfl (fun _ => ?_) (fun _ => ?_)))
  exact r_fin hT rfl o.length rfl rfl rfl trivial rfl ⟨rfl, rfl⟩
end Go.Proofs.YtkamfnmbidnhdaaDoor
/- A Builder's text. No condition. -/
namespace Go.Proofs.YtkamfnmbidnhdaaDoor
open Go.Sy
set_option maxRecDepth 100000
set_option maxHeartbeats 4000000
set_option linter.unusedVariables false
set_option linter.unusedSimpArgs false
theorem cellsU8 : Tryd.prog.cellsOf 5 = 1 := by kernel_rfl
theorem ptw_keep {u u5 : Hp} {g : Nat} (hu5 : ∀ z, z ≠ g → u5 z = u z) : Le (ptw u (some ⟨g, 0, none⟩)) u5 := fun z ox hz => by
  unfold ptw at hz
  split at hz
  · cases hz
  · rename_i hzz; rw [hu5 z (fun e => hzz (by rw [e]; rfl))]; exact hz
theorem stringB (h0 u : Hp) (pb : Nat) (e : TypeId) (pre post : List Value) (ad : Value) (A : Option Addr) (c : Nat) (o : List UInt8) (hB : BSt h0 u pb e pre post ad A c o) (hne : o ≠ []) (hs : o.length ≤ 1000000000) :
    TriS Tryd.prog 72 [.v (.pointer (some ⟨pb, pre.length, none⟩))] [] u (fun _ : Unit => .v (.string ⟨o.toArray⟩)) (fun _ => []) (fun _ u' => ∀ z ox, blk A ≠ some z → u z = some ox → u' z = some ox) := by
  have hpos : 0 < o.length := by cases o with | nil => exact absurd rfl hne | cons a r => simp
  obtain ⟨g, off, rfl⟩ := own_some hB.own hpos
  obtain rfl : off = 0 := hB.hd _ rfl
  have hcap := hB.own.cap
  have hat0 := hB.at_
  have hat : At (ptw u (some ⟨g, 0, none⟩)) pb pre.length [ad, .slice (some ⟨g, 0, none⟩) o.length c] := by
    obtain ⟨arr, t, fr, g1, g2⟩ := hat0
    exact ⟨arr, t, fr, by unfold ptw; rw [if_neg hB.ap]; exact g1, g2⟩
  refine enterS Tryd.func72 rfl (n := 14) rfl rfl (fun k N => ?_)
  repeat' (first | (refine r_pure hT rfl rfl rfl rfl ?_) | (refine r_new hT rfl rfl rfl rfl ?_) | (refine r_write hT rfl rfl rfl ?_) | (refine r_nil ?_) | (refine q_nil ?_) | (refine r_many (id := 1) [0, 1, 2, 3, 5, 6, 7, 8, 9] [] (ptw u (some ⟨g, 0, none⟩)) (ptw_le u _) hM (by kernel_rfl) rfl (by kernel_rfl) rfl rfl rfl (fun β0 => ?_)) | (refine r_load hT hat rfl rfl rfl rfl rfl rfl rfl rfl rfl rfl rfl ?_) | (refine r_sldata (by omega) rfl rfl rfl rfl rfl ?_) | (refine m_keep (ptw_le u _) trivial rfl rfl ?_) | (refine r_ustring (bs := o) Tryd.underlying151 cellsU8 hne (by omega) rfl hB.own rfl rfl rfl rfl rfl rfl (fun u5 hu5 => ?_)) | (refine m_keep (ptw_keep hu5) trivial rfl rfl ?_) | (refine r_arith rfl rfl rfl rfl rfl rfl rfl (by omega) ?_) | (with_reducible refine r_seq ?_) | (with_reducible refine x_then ?_) | (with_reducible refine r_region ?_) | (with_reducible refine r_skip ?_) | (with_reducible refine r_ret ?_) | (with_reducible refine x_then_ret ?_) | (with_reducible refine r_block ?_) | (with_reducible refine x_block ?_) | (with_reducible refine x_block_ret ?_) | (with_reducible refine r_exit ?_) | (with_reducible refine x_then_exit ?_) | (with_reducible refine x_block_here ?_) | (refine x_block_past rfl ?_) | (refine c_yes rfl (by omega) ?_) | (refine c_no rfl (by omega) ?_) | (refine c_no rfl (fun h => h rfl) ?_) | (refine r_cond_false rfl ?_) | (refine r_cond_true rfl ?_) | (refine r_cond_dec rfl (fun _ => ?_) (fun _ => ?_)) | (refine r_cond_true rfl ?_) | (refine r_cond_false rfl ?_) | (refine c_not rfl (fun _ => ?_) (fun _ => ?_)) | (refine r_off rfl rfl rfl ?_) | (refine q_guard rfl rfl (fun _ => ?_) (fun _ => ?_)) | (refine q_guardn rfl rfl (fun _ => ?_) (fun _ => ?_)) | (refine s_nil ?_) | (with_reducible refine a_full ?_) | (refine m_step rfl rfl (List.cons_ne_nil _ _) ?_) | (refine allR_cons rfl ?_ ?_) | (exact allR_nil) | (refine m_end rfl rfl rfl ?_))
  exact r_fin hT rfl () rfl rfl rfl trivial rfl (fun z ox hz hu => by rw [hu5 z (fun e => hz (by rw [e]; rfl))]; exact hu)
end Go.Proofs.YtkamfnmbidnhdaaDoor
