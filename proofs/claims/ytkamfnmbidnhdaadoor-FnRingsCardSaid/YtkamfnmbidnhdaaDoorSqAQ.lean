/- The drawer's whole numbers and texts. No condition. -/
import Derived.Test.YtkamfnmbidnhdaaDoorSqAP
import Derived.Test.YtkamfnmbidnhdaaDoorSqAE
import Derived.Test.YtkamfnmbidnhdaaDoorSqAN
import Derived.Test.YtkamfnmbidnhdaaDoorSqAD
set_option linter.unusedVariables false
set_option linter.unusedSimpArgs false
set_option linter.unusedSectionVars false
namespace Go.Sy
def onlyH (pb : Nat) (o : Obj) : Hp := fun x => if x = pb then some o else none
def nbH (h : Hp) (pb : Nat) : Hp := fun x => if x = pb then none else h x
theorem only_here (pb : Nat) (o : Obj) : onlyH pb o pb = some o := if_pos rfl
theorem only_ne {pb x : Nat} {o : Obj} (h : x ≠ pb) : onlyH pb o x = none := if_neg h
theorem nb_here (h : Hp) (pb : Nat) : nbH h pb pb = none := if_pos rfl
theorem nb_ne {h : Hp} {pb x : Nat} (hx : x ≠ pb) : nbH h pb x = h x := if_neg hx
theorem wc_app {h1 u3 : Hp} {pb b3 : Nat} {o o3 : Obj} {Ab A' : Option Addr} {m c m' c' e sz : Nat} {cs cs' : List Value} (hp : h1 pb = none) (hO : Own h1 Ab m c e sz cs) (hb3 : (upd h1 pb o) b3 = none) (hG : Grown (upd (upd h1 pb o) b3 o3) u3 Ab A') (hO3 : Own u3 A' m' c' e sz cs') :
    ∃ h3, u3 = upd h3 pb o ∧ h3 pb = none ∧ Own h3 A' m' c' e sz cs' ∧ ∀ g, Le g h1 → Off g Ab → Le g h3 ∧ Off g A' := by
  have hne : b3 ≠ pb := fun e => by rw [e, upd_here] at hb3; cases hb3
  have hg0 := hG (onlyH pb o) (fun x y hx => by
    by_cases e : x = pb
    · rw [e, only_here] at hx; rw [e, upd_ne (Ne.symm hne), upd_here]; exact hx
    · rw [only_ne e] at hx; cases hx) (fun b hb => by
    refine only_ne fun e => ?_
    cases Ab with
    | none => cases hb
    | some a =>
      obtain ⟨_, arr, g1, _⟩ := hO.row a rfl
      have e2 : a.block = b := Option.some.inj hb
      rw [e2, e, hp] at g1; cases g1)
  have e1 : u3 pb = some o := hg0.1 pb o (only_here pb o)
  have e2 : ∀ b, blk A' = some b → b ≠ pb := fun b hb e => by
    have := hg0.2 b hb
    rw [e, only_here] at this; cases this
  refine ⟨nbH u3 pb, ?_, nb_here u3 pb, hO3.le (fun b x hb hx => by rw [nb_ne (e2 b hb)]; exact hx), fun g h1' h2' => ?_⟩
  · funext x
    by_cases hx : x = pb
    · rw [hx, upd_here, e1]
    · rw [upd_ne hx, nb_ne hx]
  · have := hG g (fun x y hx => by
      have := h1' x y hx
      have n1 : x ≠ pb := fun e => by rw [e, hp] at this; cases this
      have n2 : x ≠ b3 := fun e => by rw [← e, upd_ne n1, this] at hb3; cases hb3
      rw [upd_ne n2, upd_ne n1]; exact this) h2'
    refine ⟨fun x y hx => ?_, this.2⟩
    have n1 : x ≠ pb := fun e => by have := h1' x y hx; rw [e, hp] at this; cases this
    rw [nb_ne n1]; exact this.1 x y hx
theorem upd_mono {h h' : Hp} (hl : Le h h') (b : Nat) (o : Obj) : Le (upd h b o) (upd h' b o) := fun x y hx => by
  unfold upd at *
  split
  · rename_i e; rw [if_pos e] at hx; exact hx
  · rename_i e; rw [if_neg e] at hx; exact hl x y hx
end Go.Sy
namespace Go.Proofs.YtkamfnmbidnhdaaDoor
open Go.Sy
set_option maxRecDepth 100000
set_option maxHeartbeats 4000000
set_option linter.unusedVariables false
set_option linter.unusedSimpArgs false
theorem dwholeF (h : Hp) (pb : Nat) (A : Option Addr) (n c : Nat) (s : DS) (bs : List Int) (hX : Cx h pb A n bs) (hi : s.1 ≤ 800000000) :
    TriS Tryd.prog 160 [.v (pt0 pb)] [] (Wc h pb A n c s) (fun _ : Unit => .v (.int .i64 (whl bs s).1)) (fun _ => []) (fun _ u' => u' = Wc h pb A n c (whl bs s).2) := by
  have a1 := pk_at bs 6 s
  have c1 := pickF h pb A n c s bs 6 hX (by omega) (by omega)
  unfold whl
  generalize pk bs 6 s = a at *
  dsimp only
  have c2 := pickF h pb A n c a.2 bs 3 hX (by omega) (by omega)
  have c3 := pickF h pb A n c a.2 bs 70000 hX (by omega) (by omega)
  have c4 := pickF h pb A n c a.2 bs 12 hX (by omega) (by omega)
  have l2 := pk_lt bs (k := 3) a.2 (by decide)
  have l3 := pk_lt bs (k := 70000) a.2 (by decide)
  have l4 := pk_lt bs (k := 12) a.2 (by decide)
  generalize pk bs 3 a.2 = y2 at *
  generalize pk bs 70000 a.2 = y3 at *
  generalize pk bs 12 a.2 = y4 at *
  refine enterS Tryd.func160 rfl (n := 23) rfl rfl (fun k N => ?_)
  by_cases h0 : a.1 = 0
  · rw [if_pos h0]
    repeat' (first | (refine r_pure hT rfl rfl rfl rfl ?_) | (refine r_new hT rfl rfl rfl rfl ?_) | (refine r_write hT rfl rfl rfl ?_) | (refine r_nil ?_) | (refine q_nil ?_) | ((refine r_call c1 rfl rfl rfl rfl rfl (hC _ rfl) rfl rfl (fun y0 u1 hy => ?_) ; subst hy)) | ((refine r_call c2 rfl rfl rfl rfl rfl (hC _ rfl) rfl rfl (fun y0 u1 hy => ?_) ; subst hy)) | (refine r_arith rfl rfl rfl rfl rfl rfl rfl (by omega) ?_) | (with_reducible refine r_seq ?_) | (with_reducible refine x_then ?_) | (with_reducible refine r_region ?_) | (refine r_draw hM (by kernel_rfl) ?_) | (with_reducible refine r_skip ?_) | (with_reducible refine r_ret ?_) | (with_reducible refine x_then_ret ?_) | (with_reducible refine r_block ?_) | (with_reducible refine x_block ?_) | (with_reducible refine x_block_ret ?_) | (with_reducible refine r_exit ?_) | (with_reducible refine x_then_exit ?_) | (with_reducible refine x_block_here ?_) | (refine x_block_past rfl ?_) | (refine c_yes rfl (by omega) ?_) | (refine c_no rfl (by omega) ?_) | (refine c_no rfl (fun h => h rfl) ?_) | (refine r_cond_false rfl ?_) | (refine r_cond_true rfl ?_) | (refine r_cond_dec rfl (fun _ => ?_) (fun _ => ?_)) | (refine r_cond_true rfl ?_) | (refine r_cond_false rfl ?_) | (refine c_not rfl (fun _ => ?_) (fun _ => ?_)) | (refine r_off rfl rfl rfl ?_) | (refine q_guard rfl rfl (fun _ => ?_) (fun _ => ?_)) | (refine q_guardn rfl rfl (fun _ => ?_) (fun _ => ?_)))
    exact r_fin hT rfl () rfl rfl rfl trivial rfl rfl
  rw [if_neg h0]
  by_cases h1 : a.1 = 1
  · rw [if_pos h1]
    repeat' (first | (refine r_pure hT rfl rfl rfl rfl ?_) | (refine r_new hT rfl rfl rfl rfl ?_) | (refine r_write hT rfl rfl rfl ?_) | (refine r_nil ?_) | (refine q_nil ?_) | ((refine r_call c1 rfl rfl rfl rfl rfl (hC _ rfl) rfl rfl (fun y0 u1 hy => ?_) ; subst hy)) | ((refine r_call c2 rfl rfl rfl rfl rfl (hC _ rfl) rfl rfl (fun y0 u1 hy => ?_) ; subst hy)) | (refine r_arith rfl rfl rfl rfl rfl rfl rfl (by omega) ?_) | (with_reducible refine r_seq ?_) | (with_reducible refine x_then ?_) | (with_reducible refine r_region ?_) | (refine r_draw hM (by kernel_rfl) ?_) | (with_reducible refine r_skip ?_) | (with_reducible refine r_ret ?_) | (with_reducible refine x_then_ret ?_) | (with_reducible refine r_block ?_) | (with_reducible refine x_block ?_) | (with_reducible refine x_block_ret ?_) | (with_reducible refine r_exit ?_) | (with_reducible refine x_then_exit ?_) | (with_reducible refine x_block_here ?_) | (refine x_block_past rfl ?_) | (refine c_yes rfl (by omega) ?_) | (refine c_no rfl (by omega) ?_) | (refine c_no rfl (fun h => h rfl) ?_) | (refine r_cond_false rfl ?_) | (refine r_cond_true rfl ?_) | (refine r_cond_dec rfl (fun _ => ?_) (fun _ => ?_)) | (refine r_cond_true rfl ?_) | (refine r_cond_false rfl ?_) | (refine c_not rfl (fun _ => ?_) (fun _ => ?_)) | (refine r_off rfl rfl rfl ?_) | (refine q_guard rfl rfl (fun _ => ?_) (fun _ => ?_)) | (refine q_guardn rfl rfl (fun _ => ?_) (fun _ => ?_)))
    exact r_fin hT rfl () rfl rfl rfl trivial rfl rfl
  rw [if_neg h1]
  by_cases h2 : a.1 = 2
  · rw [if_pos h2]
    repeat' (first | (refine r_pure hT rfl rfl rfl rfl ?_) | (refine r_new hT rfl rfl rfl rfl ?_) | (refine r_write hT rfl rfl rfl ?_) | (refine r_nil ?_) | (refine q_nil ?_) | ((refine r_call c1 rfl rfl rfl rfl rfl (hC _ rfl) rfl rfl (fun y0 u1 hy => ?_) ; subst hy)) | ((refine r_call c3 rfl rfl rfl rfl rfl (hC _ rfl) rfl rfl (fun y0 u1 hy => ?_) ; subst hy)) | (refine r_arith rfl rfl rfl rfl rfl rfl rfl (by omega) ?_) | (with_reducible refine r_seq ?_) | (with_reducible refine x_then ?_) | (with_reducible refine r_region ?_) | (refine r_draw hM (by kernel_rfl) ?_) | (with_reducible refine r_skip ?_) | (with_reducible refine r_ret ?_) | (with_reducible refine x_then_ret ?_) | (with_reducible refine r_block ?_) | (with_reducible refine x_block ?_) | (with_reducible refine x_block_ret ?_) | (with_reducible refine r_exit ?_) | (with_reducible refine x_then_exit ?_) | (with_reducible refine x_block_here ?_) | (refine x_block_past rfl ?_) | (refine c_yes rfl (by omega) ?_) | (refine c_no rfl (by omega) ?_) | (refine c_no rfl (fun h => h rfl) ?_) | (refine r_cond_false rfl ?_) | (refine r_cond_true rfl ?_) | (refine r_cond_dec rfl (fun _ => ?_) (fun _ => ?_)) | (refine r_cond_true rfl ?_) | (refine r_cond_false rfl ?_) | (refine c_not rfl (fun _ => ?_) (fun _ => ?_)) | (refine r_off rfl rfl rfl ?_) | (refine q_guard rfl rfl (fun _ => ?_) (fun _ => ?_)) | (refine q_guardn rfl rfl (fun _ => ?_) (fun _ => ?_)))
    exact r_fin hT rfl () rfl rfl rfl trivial rfl rfl
  rw [if_neg h2]
  repeat' (first | (refine r_pure hT rfl rfl rfl rfl ?_) | (refine r_new hT rfl rfl rfl rfl ?_) | (refine r_write hT rfl rfl rfl ?_) | (refine r_nil ?_) | (refine q_nil ?_) | ((refine r_call c1 rfl rfl rfl rfl rfl (hC _ rfl) rfl rfl (fun y0 u1 hy => ?_) ; subst hy)) | ((refine r_call c4 rfl rfl rfl rfl rfl (hC _ rfl) rfl rfl (fun y0 u1 hy => ?_) ; subst hy)) | (refine r_arith rfl rfl rfl rfl rfl rfl rfl (by omega) ?_) | (with_reducible refine r_seq ?_) | (with_reducible refine x_then ?_) | (with_reducible refine r_region ?_) | (refine r_draw hM (by kernel_rfl) ?_) | (with_reducible refine r_skip ?_) | (with_reducible refine r_ret ?_) | (with_reducible refine x_then_ret ?_) | (with_reducible refine r_block ?_) | (with_reducible refine x_block ?_) | (with_reducible refine x_block_ret ?_) | (with_reducible refine r_exit ?_) | (with_reducible refine x_then_exit ?_) | (with_reducible refine x_block_here ?_) | (refine x_block_past rfl ?_) | (refine c_yes rfl (by omega) ?_) | (refine c_no rfl (by omega) ?_) | (refine c_no rfl (fun h => h rfl) ?_) | (refine r_cond_false rfl ?_) | (refine r_cond_true rfl ?_) | (refine r_cond_dec rfl (fun _ => ?_) (fun _ => ?_)) | (refine r_cond_true rfl ?_) | (refine r_cond_false rfl ?_) | (refine c_not rfl (fun _ => ?_) (fun _ => ?_)) | (refine r_off rfl rfl rfl ?_) | (refine q_guard rfl rfl (fun _ => ?_) (fun _ => ?_)) | (refine q_guardn rfl rfl (fun _ => ?_) (fun _ => ?_)))
  exact r_fin hT rfl () rfl rfl rfl trivial rfl rfl
theorem dbl_lt : ∀ j, j < 6 → 10 * 2 ^ j < 500 := by decide
theorem bs_size (l : List UInt8) : (⟨l.toArray⟩ : ByteArray).size = l.length := rfl
theorem u8_of (z : Int) (h : 0 ≤ z ∧ z ≤ 255) : (((UInt8.ofNat z.toNat).toNat : Nat) : Int) = z := by
  rw [u8_to _ (by omega)]; omega
theorem dtextF (h : Hp) (pb : Nat) (A : Option Addr) (n c : Nat) (s : DS) (bs : List Int) (hX : Cx h pb A n bs) (hi : s.1 ≤ 800000000) :
    TriS Tryd.prog 159 [.v (pt0 pb)] [] (Wc h pb A n c s) (fun _ : Unit => .v (.string ⟨(txD bs s).1.toArray⟩)) (fun _ => []) (fun _ u' => u' = Wc h pb A n c (txD bs s).2) := by
  have a1 := pk_at bs 30 s
  have c1 := pickF h pb A n c s bs 30 hX (by omega) (by omega)
  unfold txD
  generalize pk bs 30 s = a at *
  dsimp only
  have a2 := pk_at bs 4 a.2
  have c2 := pickF h pb A n c a.2 bs 2 hX (by omega) (by omega)
  have l2 := pk_lt bs (k := 2) a.2 (by decide)
  have c3 := pickF h pb A n c a.2 bs 4 hX (by omega) (by omega)
  generalize pk bs 2 a.2 = y2 at *
  generalize pk bs 4 a.2 = b at *
  have c4 := pickF h pb A n c b.2 bs 4 hX (by omega) (by omega)
  have l4 := pk_lt bs (k := 4) b.2 (by decide)
  have a4 := pk_at bs 4 b.2
  have c5 := pickF h pb A n c b.2 bs 3 hX (by omega) (by omega)
  have l5 := pk_lt bs (k := 3) b.2 (by decide)
  generalize pk bs 4 b.2 = y4 at *
  generalize pk bs 3 b.2 = y5 at *
  refine enterS Tryd.func159 rfl (n := 46) rfl rfl (fun k N => ?_)
  by_cases h0 : a.1 = 0
  · rw [if_pos h0]
    repeat' (first | (refine r_pure hT rfl rfl rfl rfl ?_) | (refine r_new hT rfl rfl rfl rfl ?_) | (refine r_write hT rfl rfl rfl ?_) | (refine r_nil ?_) | (refine q_nil ?_) | ((refine r_call c1 rfl rfl rfl rfl rfl (hC _ rfl) rfl rfl (fun y0 u1 hy => ?_) ; subst hy)) | (refine r_arith rfl rfl rfl rfl rfl rfl rfl (by omega) ?_) | (with_reducible refine r_seq ?_) | (with_reducible refine x_then ?_) | (with_reducible refine r_region ?_) | (refine r_draw hM (by kernel_rfl) ?_) | (with_reducible refine r_skip ?_) | (with_reducible refine r_ret ?_) | (with_reducible refine x_then_ret ?_) | (with_reducible refine r_block ?_) | (with_reducible refine x_block ?_) | (with_reducible refine x_block_ret ?_) | (with_reducible refine r_exit ?_) | (with_reducible refine x_then_exit ?_) | (with_reducible refine x_block_here ?_) | (refine x_block_past rfl ?_) | (refine c_yes rfl (by omega) ?_) | (refine c_no rfl (by omega) ?_) | (refine c_no rfl (fun h => h rfl) ?_) | (refine r_cond_false rfl ?_) | (refine r_cond_true rfl ?_) | (refine r_cond_true rfl ?_) | (refine r_cond_false rfl ?_) | (refine r_off rfl rfl rfl ?_) | (refine q_guard rfl rfl (fun _ => ?_) (fun _ => ?_)) | (refine q_guardn rfl rfl (fun _ => ?_) (fun _ => ?_)))
    refine r_loop (γ := Nat) (fun j => j ≤ 6) (fun j => [(0, .v (pt0 pb)), (3, .v (.string ⟨(dbl j).toArray⟩))]) (fun _ => []) (fun _ => Wc h pb A n c a.2) (fun j => 6 - j)
      0 (by omega) (into rfl ⟨rfl, rfl, trivial⟩ trivial rfl rfl) ?_
    intro j hj
    have hd := dbl_len j
    by_cases hlt : j < 6
    · have hd2 := dbl_lt j hlt
      have hsz : (⟨(dbl j).toArray⟩ : ByteArray).size = (dbl j).length := rfl
      have hc : (((⟨(dbl j).toArray⟩ : ByteArray).size : Nat) : Int) < 500 := by rw [hsz, hd]; omega
      repeat' (first | (refine r_pure hT rfl rfl rfl rfl ?_) | (refine r_new hT rfl rfl rfl rfl ?_) | (refine r_write hT rfl rfl rfl ?_) | (refine r_nil ?_) | (refine q_nil ?_) | (refine c_yes rfl hc ?_) | ((refine r_concat rfl rfl rfl rfl rfl rfl (by rw [hsz, hd]; omega) ?_ ; rw [bytes_app])) | (refine r_arith rfl rfl rfl rfl rfl rfl rfl (by omega) ?_) | (with_reducible refine r_seq ?_) | (with_reducible refine x_then ?_) | (with_reducible refine r_region ?_) | (refine r_draw hM (by kernel_rfl) ?_) | (with_reducible refine r_skip ?_) | (with_reducible refine r_ret ?_) | (with_reducible refine x_then_ret ?_) | (with_reducible refine r_block ?_) | (with_reducible refine x_block ?_) | (with_reducible refine x_block_ret ?_) | (with_reducible refine r_exit ?_) | (with_reducible refine x_then_exit ?_) | (with_reducible refine x_block_here ?_) | (refine x_block_past rfl ?_) | (refine c_yes rfl (by omega) ?_) | (refine c_no rfl (by omega) ?_) | (refine c_no rfl (fun h => h rfl) ?_) | (refine r_cond_false rfl ?_) | (refine r_cond_true rfl ?_) | (refine r_cond_dec rfl (fun _ => ?_) (fun _ => ?_)) | (refine r_cond_true rfl ?_) | (refine r_cond_false rfl ?_) | (refine c_not rfl (fun _ => ?_) (fun _ => ?_)) | (refine r_off rfl rfl rfl ?_) | (refine q_guard rfl rfl (fun _ => ?_) (fun _ => ?_)) | (refine q_guardn rfl rfl (fun _ => ?_) (fun _ => ?_)))
      exact x_round (j + 1) hlt (by omega) (into rfl ⟨rfl, rfl, trivial⟩ trivial rfl rfl)
    · obtain rfl : j = 6 := by omega
      have hc : ¬ (((⟨(dbl 6).toArray⟩ : ByteArray).size : Nat) : Int) < 500 := by rw [bs_size, hd]; decide
      have hl : (⟨(dbl 6).toArray⟩ : ByteArray).size = 640 := by rw [bs_size, hd]
      repeat' (first | (refine r_pure hT rfl rfl rfl rfl ?_) | (refine r_new hT rfl rfl rfl rfl ?_) | (refine r_write hT rfl rfl rfl ?_) | (refine r_nil ?_) | (refine q_nil ?_) | (refine c_no rfl hc ?_) | ((refine r_call c2 rfl rfl rfl rfl rfl (hC _ rfl) rfl rfl (fun y0 u1 hy => ?_) ; subst hy)) | (refine r_arith (c := ((500 - y2.1 : Nat) : Int)) rfl rfl rfl rfl rfl rfl (by show some _ = some _; congr 1; omega) (by omega) ?_) | ((refine r_slstr (lo := 0) (hi := 500 - y2.1) hT rfl rfl rfl rfl rfl rfl rfl rfl ⟨_, rfl⟩ (Nat.zero_le _) (by rw [hl]; omega) ?_ ; rw [ext_take])) | (refine r_arith rfl rfl rfl rfl rfl rfl rfl (by omega) ?_) | (with_reducible refine r_seq ?_) | (with_reducible refine x_then ?_) | (with_reducible refine r_region ?_) | (refine r_draw hM (by kernel_rfl) ?_) | (with_reducible refine r_skip ?_) | (with_reducible refine r_ret ?_) | (with_reducible refine x_then_ret ?_) | (with_reducible refine r_block ?_) | (with_reducible refine x_block ?_) | (with_reducible refine x_block_ret ?_) | (with_reducible refine r_exit ?_) | (with_reducible refine x_then_exit ?_) | (with_reducible refine x_block_here ?_) | (refine x_block_past rfl ?_) | (refine c_yes rfl (by omega) ?_) | (refine c_no rfl (by omega) ?_) | (refine c_no rfl (fun h => h rfl) ?_) | (refine r_cond_false rfl ?_) | (refine r_cond_true rfl ?_) | (refine r_cond_dec rfl (fun _ => ?_) (fun _ => ?_)) | (refine r_cond_true rfl ?_) | (refine r_cond_false rfl ?_) | (refine c_not rfl (fun _ => ?_) (fun _ => ?_)) | (refine r_off rfl rfl rfl ?_) | (refine q_guard rfl rfl (fun _ => ?_) (fun _ => ?_)) | (refine q_guardn rfl rfl (fun _ => ?_) (fun _ => ?_)))
      exact r_fin hT rfl () rfl rfl rfl trivial rfl rfl
  rw [if_neg h0]
  by_cases h1 : b.1 = 0
  · rw [if_pos h1]
    repeat' (first | (refine r_pure hT rfl rfl rfl rfl ?_) | (refine r_new hT rfl rfl rfl rfl ?_) | (refine r_write hT rfl rfl rfl ?_) | (refine r_nil ?_) | (refine q_nil ?_) | ((refine r_call c1 rfl rfl rfl rfl rfl (hC _ rfl) rfl rfl (fun y0 u1 hy => ?_) ; subst hy)) | ((refine r_call c3 rfl rfl rfl rfl rfl (hC _ rfl) rfl rfl (fun y0 u1 hy => ?_) ; subst hy)) | (refine r_arith rfl rfl rfl rfl rfl rfl rfl (by omega) ?_) | (with_reducible refine r_seq ?_) | (with_reducible refine x_then ?_) | (with_reducible refine r_region ?_) | (refine r_draw hM (by kernel_rfl) ?_) | (with_reducible refine r_skip ?_) | (with_reducible refine r_ret ?_) | (with_reducible refine x_then_ret ?_) | (with_reducible refine r_block ?_) | (with_reducible refine x_block ?_) | (with_reducible refine x_block_ret ?_) | (with_reducible refine r_exit ?_) | (with_reducible refine x_then_exit ?_) | (with_reducible refine x_block_here ?_) | (refine x_block_past rfl ?_) | (refine c_yes rfl (by omega) ?_) | (refine c_no rfl (by omega) ?_) | (refine c_no rfl (fun h => h rfl) ?_) | (refine r_cond_false rfl ?_) | (refine r_cond_true rfl ?_) | (refine r_cond_dec rfl (fun _ => ?_) (fun _ => ?_)) | (refine r_cond_true rfl ?_) | (refine r_cond_false rfl ?_) | (refine c_not rfl (fun _ => ?_) (fun _ => ?_)) | (refine r_off rfl rfl rfl ?_) | (refine q_guard rfl rfl (fun _ => ?_) (fun _ => ?_)) | (refine q_guardn rfl rfl (fun _ => ?_) (fun _ => ?_)))
    exact r_fin hT rfl () rfl rfl rfl trivial rfl rfl
  rw [if_neg h1]
  by_cases h2 : b.1 = 1
  · rw [if_pos h2]
    repeat' (first | (refine r_pure hT rfl rfl rfl rfl ?_) | (refine r_new hT rfl rfl rfl rfl ?_) | (refine r_write hT rfl rfl rfl ?_) | (refine r_nil ?_) | (refine q_nil ?_) | ((refine r_call c1 rfl rfl rfl rfl rfl (hC _ rfl) rfl rfl (fun y0 u1 hy => ?_) ; subst hy)) | ((refine r_call c3 rfl rfl rfl rfl rfl (hC _ rfl) rfl rfl (fun y0 u1 hy => ?_) ; subst hy)) | ((refine r_call c4 rfl rfl rfl rfl rfl (hC _ rfl) rfl rfl (fun y0 u1 hy => ?_) ; subst hy)) | (refine r_arith rfl rfl rfl rfl rfl rfl rfl (by omega) ?_) | (with_reducible refine r_seq ?_) | (with_reducible refine x_then ?_) | (with_reducible refine r_region ?_) | (refine r_draw hM (by kernel_rfl) ?_) | (with_reducible refine r_skip ?_) | (with_reducible refine r_ret ?_) | (with_reducible refine x_then_ret ?_) | (with_reducible refine r_block ?_) | (with_reducible refine x_block ?_) | (with_reducible refine x_block_ret ?_) | (with_reducible refine r_exit ?_) | (with_reducible refine x_then_exit ?_) | (with_reducible refine x_block_here ?_) | (refine x_block_past rfl ?_) | (refine c_yes rfl (by omega) ?_) | (refine c_no rfl (by omega) ?_) | (refine c_no rfl (fun h => h rfl) ?_) | (refine r_cond_false rfl ?_) | (refine r_cond_true rfl ?_) | (refine r_cond_true rfl ?_) | (refine r_cond_false rfl ?_) | (refine r_off rfl rfl rfl ?_) | (refine q_guard rfl rfl (fun _ => ?_) (fun _ => ?_)) | (refine q_guardn rfl rfl (fun _ => ?_) (fun _ => ?_)))
    refine r_loop (γ := Nat × (Hp × (Option Addr × Nat))) (fun g => g.1 ≤ y4.1 ∧ Le h g.2.1 ∧ g.2.1 pb = none ∧ Off h g.2.2.1 ∧ Own g.2.1 g.2.2.1 g.1 g.2.2.2 5 1 ((byD bs g.1 y4.2).1.flatMap bc1))
      (fun g => [(0, .v (pt0 pb)), (4, .v (.slice g.2.2.1 g.1 g.2.2.2)), (5, .v (.int .i64 ((y4.1 - g.1 : Nat) : Int)))]) (fun _ => []) (fun g => Wc g.2.1 pb A n c (byD bs g.1 y4.2).2) (fun g => y4.1 - g.1)
      (0, (h, (none, 0))) ⟨Nat.zero_le _, Le.refl h, hX.hp, off_nil, own_nil⟩ (into rfl ⟨rfl, rfl, rfl, trivial⟩ trivial rfl rfl) ?_
    rintro ⟨j, ⟨h1', ⟨Ab, cb⟩⟩⟩ ⟨hj, hle, hp1, hof, hO⟩
    dsimp only at *
    have hat := byD_at bs j y4.2
    by_cases hlt : j < y4.1
    · have hN := nextF h1' pb A n c (byD bs j y4.2).2 bs (hX.le hle hp1) (by omega)
      have hr := nx_rng hX.byt (byD bs j y4.2).2
      have hsn := byD_snoc bs j y4.2
      generalize nx bs (byD bs j y4.2).2 = z at *
      repeat' (first | (refine r_pure hT rfl rfl rfl rfl ?_) | (refine r_new hT rfl rfl rfl rfl ?_) | (refine r_write hT rfl rfl rfl ?_) | (refine r_nil ?_) | (refine q_nil ?_) | (refine c_yes rfl (by omega) ?_) | ((refine r_call hN rfl rfl rfl rfl rfl (hC _ rfl) rfl rfl (fun y0 u1 hy => ?_) ; subst hy)) | (refine r_conv hT rfl rfl rfl rfl rfl rfl rfl rfl (p := z.1) (by simp [IntKind.wrap, IntKind.bits, IntKind.signed]; omega) ?_) | (refine r_bslice (t := 22) hT (ps := [(0, .tmp 35)]) rfl rfl rfl rfl rfl rfl rfl (by simp) rfl rfl (by decide) (fun b3 hb3 => ?_)) | (refine r_append (t := 22) hT (cs := (byD bs j y4.2).1.flatMap bc1) (news := [.int .u8 z.1]) rfl rfl rfl rfl rfl rfl rfl rfl rfl rfl rfl (own_fr ((hO.le fun b o _ ho => (wc_le hp1 _) b o ho)) hb3) (sl_blk (upd_here ..) rfl) (fun v hv => by rw [List.mem_singleton] at hv; subst hv; rfl) (by dsimp only; omega) (by omega) (fun A6 c6 u6 hO6 hG6 => ?_)) | (refine r_arith (c := ((y4.1 - (j + 1) : Nat) : Int)) rfl rfl rfl rfl rfl rfl (by show some _ = some _; congr 1; omega) (by omega) ?_) | (refine r_arith rfl rfl rfl rfl rfl rfl rfl (by omega) ?_) | (with_reducible refine r_seq ?_) | (with_reducible refine x_then ?_) | (with_reducible refine r_region ?_) | (refine r_draw hM (by kernel_rfl) ?_) | (with_reducible refine r_skip ?_) | (with_reducible refine r_ret ?_) | (with_reducible refine x_then_ret ?_) | (with_reducible refine r_block ?_) | (with_reducible refine x_block ?_) | (with_reducible refine x_block_ret ?_) | (with_reducible refine r_exit ?_) | (with_reducible refine x_then_exit ?_) | (with_reducible refine x_block_here ?_) | (refine x_block_past rfl ?_) | (refine c_yes rfl (by omega) ?_) | (refine c_no rfl (by omega) ?_) | (refine c_no rfl (fun h => h rfl) ?_) | (refine r_cond_false rfl ?_) | (refine r_cond_true rfl ?_) | (refine r_cond_dec rfl (fun _ => ?_) (fun _ => ?_)) | (refine r_cond_true rfl ?_) | (refine r_cond_false rfl ?_) | (refine c_not rfl (fun _ => ?_) (fun _ => ?_)) | (refine r_off rfl rfl rfl ?_) | (refine q_guard rfl rfl (fun _ => ?_) (fun _ => ?_)) | (refine q_guardn rfl rfl (fun _ => ?_) (fun _ => ?_)))
      obtain ⟨h3, e3, hp3, hO3, hk3⟩ := wc_app hp1 hO hb3 hG6 hO6
      have hk4 := hk3 h hle hof
      subst e3
      have e6 : z.2 = (byD bs (j + 1) y4.2).2 := by rw [hsn]
      have e7 : (byD bs j y4.2).1.flatMap bc1 ++ [Value.int .u8 z.1] = (byD bs (j + 1) y4.2).1.flatMap bc1 := by
        rw [hsn, List.flatMap_append]
        simp only [List.flatMap_cons, List.flatMap_nil, List.append_nil, bc1, u8_of z.1 hr]
      rw [e7] at hO3
      rw [e6]
      exact x_round (j + 1, (h3, (A6, c6))) ⟨hlt, hk4.1, hp3, hk4.2, hO3⟩ (by dsimp only; omega) (into rfl ⟨rfl, rfl, rfl, trivial⟩ trivial rfl rfl)
    · obtain rfl : j = y4.1 := by omega
      have hS : Sl (Wc h1' pb A n c (byD bs y4.1 y4.2).2) Ab y4.1 1 (byteCells ⟨(byD bs y4.1 y4.2).1.toArray⟩) := by
        rw [bc1_of]; exact (hO.le fun b o _ ho => (wc_le hp1 _) b o ho).sl
      repeat' (first | (refine r_pure hT rfl rfl rfl rfl ?_) | (refine r_new hT rfl rfl rfl rfl ?_) | (refine r_write hT rfl rfl rfl ?_) | (refine r_nil ?_) | (refine q_nil ?_) | (refine c_no rfl (by omega) ?_) | (refine r_str hT rfl rfl rfl rfl rfl rfl rfl rfl rfl rfl rfl hS ?_) | (refine r_arith rfl rfl rfl rfl rfl rfl rfl (by omega) ?_) | (with_reducible refine r_seq ?_) | (with_reducible refine x_then ?_) | (with_reducible refine r_region ?_) | (refine r_draw hM (by kernel_rfl) ?_) | (with_reducible refine r_skip ?_) | (with_reducible refine r_ret ?_) | (with_reducible refine x_then_ret ?_) | (with_reducible refine r_block ?_) | (with_reducible refine x_block ?_) | (with_reducible refine x_block_ret ?_) | (with_reducible refine r_exit ?_) | (with_reducible refine x_then_exit ?_) | (with_reducible refine x_block_here ?_) | (refine x_block_past rfl ?_) | (refine c_yes rfl (by omega) ?_) | (refine c_no rfl (by omega) ?_) | (refine c_no rfl (fun h => h rfl) ?_) | (refine r_cond_false rfl ?_) | (refine r_cond_true rfl ?_) | (refine r_cond_dec rfl (fun _ => ?_) (fun _ => ?_)) | (refine r_cond_true rfl ?_) | (refine r_cond_false rfl ?_) | (refine c_not rfl (fun _ => ?_) (fun _ => ?_)) | (refine r_off rfl rfl rfl ?_) | (refine q_guard rfl rfl (fun _ => ?_) (fun _ => ?_)) | (refine q_guardn rfl rfl (fun _ => ?_) (fun _ => ?_)))
      refine St.weak (upd_mono hle pb (cuO A n c (byD bs y4.1 y4.2).2)) ?_
      exact r_fin hT rfl () rfl rfl rfl trivial rfl rfl
  · rw [if_neg h2]
    have e1 : byteCells ⟨[UInt8.ofNat (97 + y5.1)].toArray⟩ = [Value.int .u8 (97 + (y5.1 : Int))] := by
      rw [bc1_of]
      simp only [List.flatMap_cons, List.flatMap_nil, List.append_nil, bc1]
      rw [u8_to _ (by omega)]
      push_cast
      rfl
    repeat' (first | (refine r_pure hT rfl rfl rfl rfl ?_) | (refine r_new hT rfl rfl rfl rfl ?_) | (refine r_write hT rfl rfl rfl ?_) | (refine r_nil ?_) | (refine q_nil ?_) | ((refine r_call c1 rfl rfl rfl rfl rfl (hC _ rfl) rfl rfl (fun y0 u1 hy => ?_) ; subst hy)) | ((refine r_call c3 rfl rfl rfl rfl rfl (hC _ rfl) rfl rfl (fun y0 u1 hy => ?_) ; subst hy)) | ((refine r_call c5 rfl rfl rfl rfl rfl (hC _ rfl) rfl rfl (fun y0 u1 hy => ?_) ; subst hy)) | (refine r_conv hT rfl rfl rfl rfl rfl rfl rfl rfl (p := 97 + (y5.1 : Int)) (by simp [IntKind.wrap, IntKind.bits, IntKind.signed]; omega) ?_) | (refine r_bslice (t := 22) hT (ps := [(0, .tmp 43)]) rfl rfl rfl rfl rfl rfl rfl (by simp) rfl rfl (by decide) (fun b3 hb3 => ?_)) | (refine r_str (s := ⟨[UInt8.ofNat (97 + y5.1)].toArray⟩) hT rfl rfl rfl rfl rfl rfl rfl rfl rfl rfl rfl (by rw [e1]; exact sl_blk (upd_here ..) rfl) ?_) | (refine r_arith rfl rfl rfl rfl rfl rfl rfl (by omega) ?_) | (with_reducible refine r_seq ?_) | (with_reducible refine x_then ?_) | (with_reducible refine r_region ?_) | (refine r_draw hM (by kernel_rfl) ?_) | (with_reducible refine r_skip ?_) | (with_reducible refine r_ret ?_) | (with_reducible refine x_then_ret ?_) | (with_reducible refine r_block ?_) | (with_reducible refine x_block ?_) | (with_reducible refine x_block_ret ?_) | (with_reducible refine r_exit ?_) | (with_reducible refine x_then_exit ?_) | (with_reducible refine x_block_here ?_) | (refine x_block_past rfl ?_) | (refine c_yes rfl (by omega) ?_) | (refine c_no rfl (by omega) ?_) | (refine c_no rfl (fun h => h rfl) ?_) | (refine r_cond_false rfl ?_) | (refine r_cond_true rfl ?_) | (refine r_cond_dec rfl (fun _ => ?_) (fun _ => ?_)) | (refine r_cond_true rfl ?_) | (refine r_cond_false rfl ?_) | (refine c_not rfl (fun _ => ?_) (fun _ => ?_)) | (refine r_off rfl rfl rfl ?_) | (refine q_guard rfl rfl (fun _ => ?_) (fun _ => ?_)) | (refine q_guardn rfl rfl (fun _ => ?_) (fun _ => ?_)))
    refine St.weak (le_frsh (Le.refl _) hb3) ?_
    exact r_fin hT rfl () rfl rfl rfl trivial rfl rfl
end Go.Proofs.YtkamfnmbidnhdaaDoor
/- The drawer's keys and values; a value led to anew. No condition. -/
namespace Go.Proofs.YtkamfnmbidnhdaaDoor
open Go.Sy
set_option maxRecDepth 100000
set_option maxHeartbeats 4000000
set_option linter.unusedVariables false
set_option linter.unusedSimpArgs false
theorem dkeyF (h : Hp) (pb : Nat) (A : Option Addr) (n c : Nat) (s : DS) (bs : List Int) (hX : Cx h pb A n bs) (hi : s.1 ≤ 700000000) :
    TriS Tryd.prog 127 [.v (pt0 pb)] [] (Wc h pb A n c s) (fun _ : Unit => .ag (kyD bs s).1.sv) (fun _ => []) (fun _ u' => u' = Wc h pb A n c (kyD bs s).2) := by
  have a1 := pk_at bs 4 s
  have c1 := pickF h pb A n c s bs 4 hX (by omega) (by omega)
  unfold kyD
  generalize pk bs 4 s = a at *
  dsimp only
  have c2 := pickF h pb A n c a.2 bs 2 hX (by omega) (by omega)
  have c3 := dtextF h pb A n c a.2 bs hX (by omega)
  have c4 := pickF h pb A n c a.2 bs 6 hX (by omega) (by omega)
  have a4 := pk_at bs 6 a.2
  have c5 := pickF h pb A n c a.2 bs 4 hX (by omega) (by omega)
  generalize pk bs 2 a.2 = y2 at *
  generalize txD bs a.2 = y3 at *
  generalize pk bs 6 a.2 = y4 at *
  generalize pk bs 4 a.2 = y5 at *
  have c6 := dwholeF h pb A n c y4.2 bs hX (by omega)
  have c7 := pickF h pb A n c y4.2 bs 4 hX (by omega) (by omega)
  generalize whl bs y4.2 = y6 at *
  generalize pk bs 4 y4.2 = y7 at *
  refine enterS Tryd.func127 rfl (n := 26) rfl rfl (fun k N => ?_)
  by_cases h0 : a.1 = 0
  · rw [if_pos h0]
    repeat' (first | (refine r_pure hT rfl rfl rfl rfl ?_) | (refine r_new hT rfl rfl rfl rfl ?_) | (refine r_write hT rfl rfl rfl ?_) | (refine r_nil ?_) | (refine q_nil ?_) | ((refine r_call c1 rfl rfl rfl rfl rfl (hC _ rfl) rfl rfl (fun y0 u1 hy => ?_) ; subst hy)) | ((refine r_call c2 rfl rfl rfl rfl rfl (hC _ rfl) rfl rfl (fun y0 u1 hy => ?_) ; subst hy)) | (refine r_build hT rfl rfl rfl (ps := [(0, .const (.int .i64 1)), (1, .tmp 8)]) rfl rfl rfl rfl rfl rfl ?_) | (refine r_arith rfl rfl rfl rfl rfl rfl rfl (by omega) ?_) | (with_reducible refine r_seq ?_) | (with_reducible refine x_then ?_) | (with_reducible refine r_region ?_) | (refine r_draw hM (by kernel_rfl) ?_) | (with_reducible refine r_skip ?_) | (with_reducible refine r_ret ?_) | (with_reducible refine x_then_ret ?_) | (with_reducible refine r_block ?_) | (with_reducible refine x_block ?_) | (with_reducible refine x_block_ret ?_) | (with_reducible refine r_exit ?_) | (with_reducible refine x_then_exit ?_) | (with_reducible refine x_block_here ?_) | (refine x_block_past rfl ?_) | (refine c_yes rfl (by omega) ?_) | (refine c_no rfl (by omega) ?_) | (refine c_no rfl (fun h => h rfl) ?_) | (refine r_cond_false rfl ?_) | (refine r_cond_true rfl ?_) | (refine r_cond_dec rfl (fun _ => ?_) (fun _ => ?_)) | (refine r_cond_true rfl ?_) | (refine r_cond_false rfl ?_) | (refine c_not rfl (fun _ => ?_) (fun _ => ?_)) | (refine r_off rfl rfl rfl ?_) | (refine q_guard rfl rfl (fun _ => ?_) (fun _ => ?_)) | (refine q_guardn rfl rfl (fun _ => ?_) (fun _ => ?_)))
    exact r_fin hT rfl () rfl rfl rfl trivial rfl rfl
  rw [if_neg h0]
  by_cases h1 : a.1 = 1
  · rw [if_pos h1]
    repeat' (first | (refine r_pure hT rfl rfl rfl rfl ?_) | (refine r_new hT rfl rfl rfl rfl ?_) | (refine r_write hT rfl rfl rfl ?_) | (refine r_nil ?_) | (refine q_nil ?_) | ((refine r_call c1 rfl rfl rfl rfl rfl (hC _ rfl) rfl rfl (fun y0 u1 hy => ?_) ; subst hy)) | ((refine r_call c3 rfl rfl rfl rfl rfl (hC _ rfl) rfl rfl (fun y0 u1 hy => ?_) ; subst hy)) | (refine r_build hT rfl rfl rfl (ps := [(0, .const (.int .i64 3)), (2, .tmp 13)]) rfl rfl rfl rfl rfl rfl ?_) | (refine r_arith rfl rfl rfl rfl rfl rfl rfl (by omega) ?_) | (with_reducible refine r_seq ?_) | (with_reducible refine x_then ?_) | (with_reducible refine r_region ?_) | (refine r_draw hM (by kernel_rfl) ?_) | (with_reducible refine r_skip ?_) | (with_reducible refine r_ret ?_) | (with_reducible refine x_then_ret ?_) | (with_reducible refine r_block ?_) | (with_reducible refine x_block ?_) | (with_reducible refine x_block_ret ?_) | (with_reducible refine r_exit ?_) | (with_reducible refine x_then_exit ?_) | (with_reducible refine x_block_here ?_) | (refine x_block_past rfl ?_) | (refine c_yes rfl (by omega) ?_) | (refine c_no rfl (by omega) ?_) | (refine c_no rfl (fun h => h rfl) ?_) | (refine r_cond_false rfl ?_) | (refine r_cond_true rfl ?_) | (refine r_cond_dec rfl (fun _ => ?_) (fun _ => ?_)) | (refine r_cond_true rfl ?_) | (refine r_cond_false rfl ?_) | (refine c_not rfl (fun _ => ?_) (fun _ => ?_)) | (refine r_off rfl rfl rfl ?_) | (refine q_guard rfl rfl (fun _ => ?_) (fun _ => ?_)) | (refine q_guardn rfl rfl (fun _ => ?_) (fun _ => ?_)))
    exact r_fin hT rfl () rfl rfl rfl trivial rfl rfl
  rw [if_neg h1]
  by_cases h2 : a.1 = 2
  · rw [if_pos h2]
    by_cases h3 : y4.1 = 0
    · rw [if_pos h3]
      repeat' (first | (refine r_pure hT rfl rfl rfl rfl ?_) | (refine r_new hT rfl rfl rfl rfl ?_) | (refine r_write hT rfl rfl rfl ?_) | (refine r_nil ?_) | (refine q_nil ?_) | ((refine r_call c1 rfl rfl rfl rfl rfl (hC _ rfl) rfl rfl (fun y0 u1 hy => ?_) ; subst hy)) | ((refine r_call c4 rfl rfl rfl rfl rfl (hC _ rfl) rfl rfl (fun y0 u1 hy => ?_) ; subst hy)) | ((refine r_call c6 rfl rfl rfl rfl rfl (hC _ rfl) rfl rfl (fun y0 u1 hy => ?_) ; subst hy)) | (refine r_build hT rfl rfl rfl (ps := [(0, .const (.int .i64 2)), (1, .tmp 21)]) rfl rfl rfl rfl rfl rfl ?_) | (refine r_arith rfl rfl rfl rfl rfl rfl rfl (by omega) ?_) | (with_reducible refine r_seq ?_) | (with_reducible refine x_then ?_) | (with_reducible refine r_region ?_) | (refine r_draw hM (by kernel_rfl) ?_) | (with_reducible refine r_skip ?_) | (with_reducible refine r_ret ?_) | (with_reducible refine x_then_ret ?_) | (with_reducible refine r_block ?_) | (with_reducible refine x_block ?_) | (with_reducible refine x_block_ret ?_) | (with_reducible refine r_exit ?_) | (with_reducible refine x_then_exit ?_) | (with_reducible refine x_block_here ?_) | (refine x_block_past rfl ?_) | (refine c_yes rfl (by omega) ?_) | (refine c_no rfl (by omega) ?_) | (refine c_no rfl (fun h => h rfl) ?_) | (refine r_cond_false rfl ?_) | (refine r_cond_true rfl ?_) | (refine r_cond_dec rfl (fun _ => ?_) (fun _ => ?_)) | (refine r_cond_true rfl ?_) | (refine r_cond_false rfl ?_) | (refine c_not rfl (fun _ => ?_) (fun _ => ?_)) | (refine r_off rfl rfl rfl ?_) | (refine q_guard rfl rfl (fun _ => ?_) (fun _ => ?_)) | (refine q_guardn rfl rfl (fun _ => ?_) (fun _ => ?_)))
      exact r_fin hT rfl () rfl rfl rfl trivial rfl rfl
    · rw [if_neg h3]
      repeat' (first | (refine r_pure hT rfl rfl rfl rfl ?_) | (refine r_new hT rfl rfl rfl rfl ?_) | (refine r_write hT rfl rfl rfl ?_) | (refine r_nil ?_) | (refine q_nil ?_) | ((refine r_call c1 rfl rfl rfl rfl rfl (hC _ rfl) rfl rfl (fun y0 u1 hy => ?_) ; subst hy)) | ((refine r_call c4 rfl rfl rfl rfl rfl (hC _ rfl) rfl rfl (fun y0 u1 hy => ?_) ; subst hy)) | ((refine r_call c7 rfl rfl rfl rfl rfl (hC _ rfl) rfl rfl (fun y0 u1 hy => ?_) ; subst hy)) | (refine r_build hT rfl rfl rfl (ps := [(0, .const (.int .i64 2)), (1, .tmp 24)]) rfl rfl rfl rfl rfl rfl ?_) | (refine r_arith rfl rfl rfl rfl rfl rfl rfl (by omega) ?_) | (with_reducible refine r_seq ?_) | (with_reducible refine x_then ?_) | (with_reducible refine r_region ?_) | (refine r_draw hM (by kernel_rfl) ?_) | (with_reducible refine r_skip ?_) | (with_reducible refine r_ret ?_) | (with_reducible refine x_then_ret ?_) | (with_reducible refine r_block ?_) | (with_reducible refine x_block ?_) | (with_reducible refine x_block_ret ?_) | (with_reducible refine r_exit ?_) | (with_reducible refine x_then_exit ?_) | (with_reducible refine x_block_here ?_) | (refine x_block_past rfl ?_) | (refine c_yes rfl (by omega) ?_) | (refine c_no rfl (by omega) ?_) | (refine c_no rfl (fun h => h rfl) ?_) | (refine r_cond_false rfl ?_) | (refine r_cond_true rfl ?_) | (refine r_cond_dec rfl (fun _ => ?_) (fun _ => ?_)) | (refine r_cond_true rfl ?_) | (refine r_cond_false rfl ?_) | (refine c_not rfl (fun _ => ?_) (fun _ => ?_)) | (refine r_off rfl rfl rfl ?_) | (refine q_guard rfl rfl (fun _ => ?_) (fun _ => ?_)) | (refine q_guardn rfl rfl (fun _ => ?_) (fun _ => ?_)))
      exact r_fin hT rfl () rfl rfl rfl trivial rfl rfl
  · rw [if_neg h2]
    repeat' (first | (refine r_pure hT rfl rfl rfl rfl ?_) | (refine r_new hT rfl rfl rfl rfl ?_) | (refine r_write hT rfl rfl rfl ?_) | (refine r_nil ?_) | (refine q_nil ?_) | ((refine r_call c1 rfl rfl rfl rfl rfl (hC _ rfl) rfl rfl (fun y0 u1 hy => ?_) ; subst hy)) | ((refine r_call c5 rfl rfl rfl rfl rfl (hC _ rfl) rfl rfl (fun y0 u1 hy => ?_) ; subst hy)) | (refine r_build hT rfl rfl rfl (ps := [(0, .const (.int .i64 2)), (1, .tmp 24)]) rfl rfl rfl rfl rfl rfl ?_) | (refine r_arith rfl rfl rfl rfl rfl rfl rfl (by omega) ?_) | (with_reducible refine r_seq ?_) | (with_reducible refine x_then ?_) | (with_reducible refine r_region ?_) | (refine r_draw hM (by kernel_rfl) ?_) | (with_reducible refine r_skip ?_) | (with_reducible refine r_ret ?_) | (with_reducible refine x_then_ret ?_) | (with_reducible refine r_block ?_) | (with_reducible refine x_block ?_) | (with_reducible refine x_block_ret ?_) | (with_reducible refine r_exit ?_) | (with_reducible refine x_then_exit ?_) | (with_reducible refine x_block_here ?_) | (refine x_block_past rfl ?_) | (refine c_yes rfl (by omega) ?_) | (refine c_no rfl (by omega) ?_) | (refine c_no rfl (fun h => h rfl) ?_) | (refine r_cond_false rfl ?_) | (refine r_cond_true rfl ?_) | (refine r_cond_dec rfl (fun _ => ?_) (fun _ => ?_)) | (refine r_cond_true rfl ?_) | (refine r_cond_false rfl ?_) | (refine c_not rfl (fun _ => ?_) (fun _ => ?_)) | (refine r_off rfl rfl rfl ?_) | (refine q_guard rfl rfl (fun _ => ?_) (fun _ => ?_)) | (refine q_guardn rfl rfl (fun _ => ?_) (fun _ => ?_)))
    exact r_fin hT rfl () rfl rfl rfl trivial rfl rfl
theorem dvalF (h : Hp) (pb : Nat) (A : Option Addr) (n c m : Nat) (s : DS) (bs : List Int) (hX : Cx h pb A n bs) (hi : s.1 ≤ 600000000) (hm : m ≤ 200) :
    TriS Tryd.prog 128 [.v (pt0 pb), .v (.int .i64 (m : Int))] [] (Wc h pb A n c s) (fun _ : Unit => .ag (vaD bs m s).1.sv) (fun _ => []) (fun _ u' => u' = Wc h pb A n c (vaD bs m s).2) := by
  have a1 := pk_at bs 3 s
  have c0 := dkeyF h pb A n c s bs hX (by omega)
  have c1 := pickF h pb A n c s bs 3 hX (by omega) (by omega)
  unfold vaD
  generalize pk bs 3 s = a at *
  dsimp only
  have c2 := dkeyF h pb A n c a.2 bs hX (by omega)
  have c3 := pickF h pb A n c a.2 bs m hX (by omega) (by omega)
  generalize kyD bs s = y0 at *
  generalize kyD bs a.2 = y2 at *
  generalize pk bs m a.2 = y3 at *
  refine enterS Tryd.func128 rfl (n := 18) rfl rfl (fun k N => ?_)
  by_cases h0 : m = 0
  · rw [if_pos h0]
    repeat' (first | (refine r_pure hT rfl rfl rfl rfl ?_) | (refine r_new hT rfl rfl rfl rfl ?_) | (refine r_write hT rfl rfl rfl ?_) | (refine r_nil ?_) | (refine q_nil ?_) | (refine q_guard rfl rfl (fun _ => ?_) (fun hx => absurd (by omega) hx)) | ((refine r_call c0 rfl rfl rfl rfl rfl (hC _ rfl) rfl rfl (fun y0 u1 hy => ?_) ; subst hy)) | (refine r_arith rfl rfl rfl rfl rfl rfl rfl (by omega) ?_) | (with_reducible refine r_seq ?_) | (with_reducible refine x_then ?_) | (with_reducible refine r_region ?_) | (refine r_draw hM (by kernel_rfl) ?_) | (with_reducible refine r_skip ?_) | (with_reducible refine r_ret ?_) | (with_reducible refine x_then_ret ?_) | (with_reducible refine r_block ?_) | (with_reducible refine x_block ?_) | (with_reducible refine x_block_ret ?_) | (with_reducible refine r_exit ?_) | (with_reducible refine x_then_exit ?_) | (with_reducible refine x_block_here ?_) | (refine x_block_past rfl ?_) | (refine c_yes rfl (by omega) ?_) | (refine c_no rfl (by omega) ?_) | (refine c_no rfl (fun h => h rfl) ?_) | (refine r_cond_false rfl ?_) | (refine r_cond_true rfl ?_) | (refine r_cond_dec rfl (fun _ => ?_) (fun _ => ?_)) | (refine r_cond_true rfl ?_) | (refine r_cond_false rfl ?_) | (refine c_not rfl (fun _ => ?_) (fun _ => ?_)) | (refine r_off rfl rfl rfl ?_))
    exact r_fin hT rfl () rfl rfl rfl trivial rfl rfl
  rw [if_neg h0]
  by_cases h1 : a.1 = 0
  · rw [if_pos h1]
    repeat' (first | (refine r_pure hT rfl rfl rfl rfl ?_) | (refine r_new hT rfl rfl rfl rfl ?_) | (refine r_write hT rfl rfl rfl ?_) | (refine r_nil ?_) | (refine q_nil ?_) | (refine q_guard rfl rfl (fun hx => absurd hx (by omega)) (fun _ => ?_)) | ((refine r_call c1 rfl rfl rfl rfl rfl (hC _ rfl) rfl rfl (fun y0 u1 hy => ?_) ; subst hy)) | ((refine r_call c2 rfl rfl rfl rfl rfl (hC _ rfl) rfl rfl (fun y0 u1 hy => ?_) ; subst hy)) | (refine r_arith rfl rfl rfl rfl rfl rfl rfl (by omega) ?_) | (with_reducible refine r_seq ?_) | (with_reducible refine x_then ?_) | (with_reducible refine r_region ?_) | (refine r_draw hM (by kernel_rfl) ?_) | (with_reducible refine r_skip ?_) | (with_reducible refine r_ret ?_) | (with_reducible refine x_then_ret ?_) | (with_reducible refine r_block ?_) | (with_reducible refine x_block ?_) | (with_reducible refine x_block_ret ?_) | (with_reducible refine r_exit ?_) | (with_reducible refine x_then_exit ?_) | (with_reducible refine x_block_here ?_) | (refine x_block_past rfl ?_) | (refine c_yes rfl (by omega) ?_) | (refine c_no rfl (by omega) ?_) | (refine c_no rfl (fun h => h rfl) ?_) | (refine r_cond_false rfl ?_) | (refine r_cond_true rfl ?_) | (refine r_cond_dec rfl (fun _ => ?_) (fun _ => ?_)) | (refine r_cond_true rfl ?_) | (refine r_cond_false rfl ?_) | (refine c_not rfl (fun _ => ?_) (fun _ => ?_)) | (refine r_off rfl rfl rfl ?_))
    exact r_fin hT rfl () rfl rfl rfl trivial rfl rfl
  · rw [if_neg h1]
    repeat' (first | (refine r_pure hT rfl rfl rfl rfl ?_) | (refine r_new hT rfl rfl rfl rfl ?_) | (refine r_write hT rfl rfl rfl ?_) | (refine r_nil ?_) | (refine q_nil ?_) | (refine q_guard rfl rfl (fun hx => absurd hx (by omega)) (fun _ => ?_)) | ((refine r_call c1 rfl rfl rfl rfl rfl (hC _ rfl) rfl rfl (fun y0 u1 hy => ?_) ; subst hy)) | ((refine r_call c3 rfl rfl rfl rfl rfl (hC _ rfl) rfl rfl (fun y0 u1 hy => ?_) ; subst hy)) | (refine r_build hT rfl rfl rfl (ps := [(0, .const (.int .i64 4)), (3, .tmp 16)]) rfl rfl rfl rfl rfl rfl ?_) | (refine r_arith rfl rfl rfl rfl rfl rfl rfl (by omega) ?_) | (with_reducible refine r_seq ?_) | (with_reducible refine x_then ?_) | (with_reducible refine r_region ?_) | (refine r_draw hM (by kernel_rfl) ?_) | (with_reducible refine r_skip ?_) | (with_reducible refine r_ret ?_) | (with_reducible refine x_then_ret ?_) | (with_reducible refine r_block ?_) | (with_reducible refine x_block ?_) | (with_reducible refine x_block_ret ?_) | (with_reducible refine r_exit ?_) | (with_reducible refine x_then_exit ?_) | (with_reducible refine x_block_here ?_) | (refine x_block_past rfl ?_) | (refine c_yes rfl (by omega) ?_) | (refine c_no rfl (by omega) ?_) | (refine c_no rfl (fun h => h rfl) ?_) | (refine r_cond_false rfl ?_) | (refine r_cond_true rfl ?_) | (refine r_cond_dec rfl (fun _ => ?_) (fun _ => ?_)) | (refine r_cond_true rfl ?_) | (refine r_cond_false rfl ?_) | (refine c_not rfl (fun _ => ?_) (fun _ => ?_)) | (refine r_off rfl rfl rfl ?_))
    exact r_fin hT rfl () rfl rfl rfl trivial rfl rfl
theorem dledF (h : Hp) (pb : Nat) (A : Option Addr) (n c m w : Nat) (v : V) (s : DS) (bs : List Int) (hX : Cx h pb A n bs) (hi : s.1 ≤ 600000000) (hm : m ≤ 200) (hw : w = 1 ∨ w = 2) (hv : v.k = 4 → 0 ≤ v.a ∧ v.a ≤ 1000000) :
    TriS Tryd.prog 131 [.v (pt0 pb), .ag v.sv, .v (.int .i64 (m : Int)), .v (.int .i64 (w : Int))] [] (Wc h pb A n c s) (fun _ : Unit => .ag (ledD bs m w v s).1.sv) (fun _ => []) (fun _ u' => u' = Wc h pb A n c (ledD bs m w v s).2) := by
  have c1 := pickF h pb A n c s bs w hX (by omega) (by omega)
  have l1 := pk_lt bs (k := w) s (by omega)
  unfold ledD
  generalize pk bs w s = y at *
  refine enterS Tryd.func131 rfl (n := 22) rfl rfl (fun k N => ?_)
  by_cases h4 : v.k = 4
  · rw [if_pos h4]
    have hva := hv h4
    have hmy : m * y.1 ≤ 400 := by
      have : y.1 ≤ 1 := by omega
      have := Nat.mul_le_mul_left m this
      omega
    have hmi : ((m * y.1 : Nat) : Int) = (m : Int) * (y.1 : Int) := by push_cast; rfl
    have hm0 : 0 ≤ (m : Int) * (y.1 : Int) ∧ (m : Int) * (y.1 : Int) ≤ 400 := by rw [← hmi]; omega
    rw [hmi]
    repeat' (first | (refine r_pure hT rfl rfl rfl rfl ?_) | (refine r_new hT rfl rfl rfl rfl ?_) | (refine r_write hT rfl rfl rfl ?_) | (refine r_nil ?_) | (refine q_nil ?_) | (refine c_yes rfl h4 ?_) | (refine r_many (id := 2) [0, 1, 2, 3, 4] [9] h (wc_le hX.hp s) hM (by kernel_rfl) rfl (by kernel_rfl) rfl rfl rfl (fun β0 => ?_)) | ((refine r_call c1 rfl rfl rfl rfl rfl (hC _ rfl) rfl rfl (fun y0 u1 hy => ?_) ; subst hy)) | (refine r_arith (c := (m : Int) * (y.1 : Int)) rfl rfl rfl rfl rfl rfl rfl (by omega) ?_) | (refine r_arith (c := v.a + (m : Int) * (y.1 : Int)) rfl rfl rfl rfl rfl rfl rfl (by omega) ?_) | (refine m_keep (wc_le hX.hp _) ⟨rfl, rfl, trivial⟩ rfl rfl ?_) | (refine m_late rfl rfl ?_) | (refine r_arith rfl rfl rfl rfl rfl rfl rfl (by omega) ?_) | (with_reducible refine r_seq ?_) | (with_reducible refine x_then ?_) | (with_reducible refine r_region ?_) | (with_reducible refine r_skip ?_) | (with_reducible refine r_ret ?_) | (with_reducible refine x_then_ret ?_) | (with_reducible refine r_block ?_) | (with_reducible refine x_block ?_) | (with_reducible refine x_block_ret ?_) | (with_reducible refine r_exit ?_) | (with_reducible refine x_then_exit ?_) | (with_reducible refine x_block_here ?_) | (refine x_block_past rfl ?_) | (refine c_yes rfl (by omega) ?_) | (refine c_no rfl (by omega) ?_) | (refine c_no rfl (fun h => h rfl) ?_) | (refine r_cond_false rfl ?_) | (refine r_cond_true rfl ?_) | (refine r_cond_dec rfl (fun _ => ?_) (fun _ => ?_)) | (refine r_cond_true rfl ?_) | (refine r_cond_false rfl ?_) | (refine c_not rfl (fun _ => ?_) (fun _ => ?_)) | (refine r_off rfl rfl rfl ?_) | (refine q_guard rfl rfl (fun _ => ?_) (fun _ => ?_)) | (refine q_guardn rfl rfl (fun _ => ?_) (fun _ => ?_)) | (refine s_nil ?_) | (with_reducible refine a_full ?_) | (refine m_step rfl rfl (List.cons_ne_nil _ _) ?_) | (refine allR_cons rfl ?_ ?_) | (exact allR_nil) | (refine m_end rfl rfl rfl ?_))
    exact r_fin hT rfl () rfl rfl rfl trivial rfl rfl
  · rw [if_neg h4]
    repeat' (first | (refine r_pure hT rfl rfl rfl rfl ?_) | (refine r_new hT rfl rfl rfl rfl ?_) | (refine r_write hT rfl rfl rfl ?_) | (refine r_nil ?_) | (refine q_nil ?_) | (refine c_no rfl h4 ?_) | (refine r_arith rfl rfl rfl rfl rfl rfl rfl (by omega) ?_) | (with_reducible refine r_seq ?_) | (with_reducible refine x_then ?_) | (with_reducible refine r_region ?_) | (with_reducible refine r_skip ?_) | (with_reducible refine r_ret ?_) | (with_reducible refine x_then_ret ?_) | (with_reducible refine r_block ?_) | (with_reducible refine x_block ?_) | (with_reducible refine x_block_ret ?_) | (with_reducible refine r_exit ?_) | (with_reducible refine x_then_exit ?_) | (with_reducible refine x_block_here ?_) | (refine x_block_past rfl ?_) | (refine c_yes rfl (by omega) ?_) | (refine c_no rfl (by omega) ?_) | (refine c_no rfl (fun h => h rfl) ?_) | (refine r_cond_false rfl ?_) | (refine r_cond_true rfl ?_) | (refine r_cond_dec rfl (fun _ => ?_) (fun _ => ?_)) | (refine r_cond_true rfl ?_) | (refine r_cond_false rfl ?_) | (refine c_not rfl (fun _ => ?_) (fun _ => ?_)) | (refine r_off rfl rfl rfl ?_) | (refine q_guard rfl rfl (fun _ => ?_) (fun _ => ?_)) | (refine q_guardn rfl rfl (fun _ => ?_) (fun _ => ?_)))
    exact r_fin hT rfl () rfl rfl rfl trivial rfl rfl
end Go.Proofs.YtkamfnmbidnhdaaDoor
