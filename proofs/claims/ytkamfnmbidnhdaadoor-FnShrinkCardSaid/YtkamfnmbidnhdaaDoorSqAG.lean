/- The drawer's whole numbers and texts. No condition. -/
import Derived.Test.YtkamfnmbidnhdaaDoorSqAF
import Derived.Test.YtkamfnmbidnhdaaDoorSqAC
import Derived.Lib.Bytealg
import Derived.Shelf.SlSortCmp.Insertion
set_option linter.unusedVariables false
set_option linter.unusedSimpArgs false
set_option linter.unusedSectionVars false
namespace Go.Sy
def onlyH (pb : Nat) (o : Obj) : Hp := fun x => if x = pb then some o else none
def nbH (h : Hp) (pb : Nat) : Hp := fun x => if x = pb then none else h x
theorem only_here (pb : Nat) (o : Obj) : onlyH pb o pb = some o := if_pos rfl
theorem only_ne {pb x : Nat} {o : Obj} (h : x ≠ pb) : onlyH pb o x = none := if_neg h
theorem nb_here (h : Hp) (pb : Nat) : nbH h pb pb = none := if_pos rfl
theorem nb_ne {h : Hp} {pb x : Nat} (hx : x ≠ pb) : nbH h pb x = h x := if_neg hx
theorem wc_app {h1 u3 : Hp} {pb b3 : Nat} {o o3 : Obj} {Ab A' : Option Addr} {m c m' c' e sz : Nat} {cs cs' : List Value} (hp : h1 pb = none) (hO : Own h1 Ab m c e sz cs) (hb3 : (upd h1 pb o) b3 = none) (hG : Grown (upd (upd h1 pb o) b3 o3) u3 Ab A') (hO3 : Own u3 A' m' c' e sz cs') :
    ∃ h3, u3 = upd h3 pb o ∧ h3 pb = none ∧ Own h3 A' m' c' e sz cs' ∧ ∀ g, Le g h1 → Off g Ab → Le g h3 ∧ Off g A' := by
  have hne : b3 ≠ pb := fun e => by rw [e, upd_here] at hb3; cases hb3
  have hg0 := hG (onlyH pb o) (fun x y hx => by
    by_cases e : x = pb
    · rw [e, only_here] at hx; rw [e, upd_ne (Ne.symm hne), upd_here]; exact hx
    · rw [only_ne e] at hx; cases hx) (fun b hb => by
    refine only_ne fun e => ?_
    cases Ab with
    | none => cases hb
    | some a =>
      obtain ⟨_, arr, g1, _⟩ := hO.row a rfl
      have e2 : a.block = b := Option.some.inj hb
      rw [e2, e, hp] at g1; cases g1)
  have e1 : u3 pb = some o := hg0.1 pb o (only_here pb o)
  have e2 : ∀ b, blk A' = some b → b ≠ pb := fun b hb e => by
    have := hg0.2 b hb
    rw [e, only_here] at this; cases this
  refine ⟨nbH u3 pb, ?_, nb_here u3 pb, hO3.le (fun b x hb hx => by rw [nb_ne (e2 b hb)]; exact hx), fun g h1' h2' => ?_⟩
  · funext x
    by_cases hx : x = pb
    · rw [hx, upd_here, e1]
    · rw [upd_ne hx, nb_ne hx]
  · have := hG g (fun x y hx => by
      have := h1' x y hx
      have n1 : x ≠ pb := fun e => by rw [e, hp] at this; cases this
      have n2 : x ≠ b3 := fun e => by rw [← e, upd_ne n1, this] at hb3; cases hb3
      rw [upd_ne n2, upd_ne n1]; exact this) h2'
    refine ⟨fun x y hx => ?_, this.2⟩
    have n1 : x ≠ pb := fun e => by have := h1' x y hx; rw [e, hp] at this; cases this
    rw [nb_ne n1]; exact this.1 x y hx
theorem upd_mono {h h' : Hp} (hl : Le h h') (b : Nat) (o : Obj) : Le (upd h b o) (upd h' b o) := fun x y hx => by
  unfold upd at *
  split
  · rename_i e; rw [if_pos e] at hx; exact hx
  · rename_i e; rw [if_neg e] at hx; exact hl x y hx
end Go.Sy
namespace Go.Proofs.YtkamfnmbidnhdaaDoor
open Go.Sy
set_option maxRecDepth 100000
set_option maxHeartbeats 4000000
set_option linter.unusedVariables false
set_option linter.unusedSimpArgs false
theorem dwholeF (h : Hp) (pb : Nat) (A : Option Addr) (n c : Nat) (s : DS) (bs : List Int) (hX : Cx h pb A n bs) (hi : s.1 ≤ 800000000) :
    TriS Tryd.prog 160 [.v (pt0 pb)] [] (Wc h pb A n c s) (fun _ : Unit => .v (.int .i64 (whl bs s).1)) (fun _ => []) (fun _ u' => u' = Wc h pb A n c (whl bs s).2) := by
  have a1 := pk_at bs 6 s
  have c1 := pickF h pb A n c s bs 6 hX (by omega) (by omega)
  unfold whl
  generalize pk bs 6 s = a at *
  dsimp only
  have c2 := pickF h pb A n c a.2 bs 3 hX (by omega) (by omega)
  have c3 := pickF h pb A n c a.2 bs 70000 hX (by omega) (by omega)
  have c4 := pickF h pb A n c a.2 bs 12 hX (by omega) (by omega)
  have l2 := pk_lt bs (k := 3) a.2 (by decide)
  have l3 := pk_lt bs (k := 70000) a.2 (by decide)
  have l4 := pk_lt bs (k := 12) a.2 (by decide)
  generalize pk bs 3 a.2 = y2 at *
  generalize pk bs 70000 a.2 = y3 at *
  generalize pk bs 12 a.2 = y4 at *
  refine enterS Tryd.func160 rfl (n := 23) rfl rfl (fun k N => ?_)
  by_cases h0 : a.1 = 0
  · rw [if_pos h0]
    repeat' (first | (refine r_pure hT rfl rfl rfl rfl ?_) | (refine r_new hT rfl rfl rfl rfl ?_) | (refine r_write hT rfl rfl rfl ?_) | (refine r_nil ?_) | (refine q_nil ?_) | ((refine r_call c1 rfl rfl rfl rfl rfl (hC _ rfl) rfl rfl (fun y0 u1 hy => ?_) ; subst hy)) | ((refine r_call c2 rfl rfl rfl rfl rfl (hC _ rfl) rfl rfl (fun y0 u1 hy => ?_) ; subst hy)) | (refine r_arith rfl rfl rfl rfl rfl rfl rfl (by omega) ?_) | (with_reducible refine r_seq ?_) | (with_reducible refine x_then ?_) | (with_reducible refine r_region ?_) | (refine r_draw hM (by kernel_rfl) ?_) | (with_reducible refine r_skip ?_) | (with_reducible refine r_ret ?_) | (with_reducible refine x_then_ret ?_) | (with_reducible refine r_block ?_) | (with_reducible refine x_block ?_) | (with_reducible refine x_block_ret ?_) | (with_reducible refine r_exit ?_) | (with_reducible refine x_then_exit ?_) | (with_reducible refine x_block_here ?_) | (refine x_block_past rfl ?_) | (refine c_yes rfl (by omega) ?_) | (refine c_no rfl (by omega) ?_) | (refine c_no rfl (fun h => h rfl) ?_) | (refine r_cond_false rfl ?_) | (refine r_cond_true rfl ?_) | (refine r_cond_dec rfl (fun _ => ?_) (fun _ => ?_)) | (refine r_cond_true rfl ?_) | (refine r_cond_false rfl ?_) | (refine c_not rfl (fun _ => ?_) (fun _ => ?_)) | (refine r_off rfl rfl rfl ?_) | (refine q_guard rfl rfl (fun _ => ?_) (fun _ => ?_)) | (refine q_guardn rfl rfl (fun _ => ?_) (fun _ => ?_)))
    exact r_fin hT rfl () rfl rfl rfl trivial rfl rfl
  rw [if_neg h0]
  by_cases h1 : a.1 = 1
  · rw [if_pos h1]
    repeat' (first | (refine r_pure hT rfl rfl rfl rfl ?_) | (refine r_new hT rfl rfl rfl rfl ?_) | (refine r_write hT rfl rfl rfl ?_) | (refine r_nil ?_) | (refine q_nil ?_) | ((refine r_call c1 rfl rfl rfl rfl rfl (hC _ rfl) rfl rfl (fun y0 u1 hy => ?_) ; subst hy)) | ((refine r_call c2 rfl rfl rfl rfl rfl (hC _ rfl) rfl rfl (fun y0 u1 hy => ?_) ; subst hy)) | (refine r_arith rfl rfl rfl rfl rfl rfl rfl (by omega) ?_) | (with_reducible refine r_seq ?_) | (with_reducible refine x_then ?_) | (with_reducible refine r_region ?_) | (refine r_draw hM (by kernel_rfl) ?_) | (with_reducible refine r_skip ?_) | (with_reducible refine r_ret ?_) | (with_reducible refine x_then_ret ?_) | (with_reducible refine r_block ?_) | (with_reducible refine x_block ?_) | (with_reducible refine x_block_ret ?_) | (with_reducible refine r_exit ?_) | (with_reducible refine x_then_exit ?_) | (with_reducible refine x_block_here ?_) | (refine x_block_past rfl ?_) | (refine c_yes rfl (by omega) ?_) | (refine c_no rfl (by omega) ?_) | (refine c_no rfl (fun h => h rfl) ?_) | (refine r_cond_false rfl ?_) | (refine r_cond_true rfl ?_) | (refine r_cond_dec rfl (fun _ => ?_) (fun _ => ?_)) | (refine r_cond_true rfl ?_) | (refine r_cond_false rfl ?_) | (refine c_not rfl (fun _ => ?_) (fun _ => ?_)) | (refine r_off rfl rfl rfl ?_) | (refine q_guard rfl rfl (fun _ => ?_) (fun _ => ?_)) | (refine q_guardn rfl rfl (fun _ => ?_) (fun _ => ?_)))
    exact r_fin hT rfl () rfl rfl rfl trivial rfl rfl
  rw [if_neg h1]
  by_cases h2 : a.1 = 2
  · rw [if_pos h2]
    repeat' (first | (refine r_pure hT rfl rfl rfl rfl ?_) | (refine r_new hT rfl rfl rfl rfl ?_) | (refine r_write hT rfl rfl rfl ?_) | (refine r_nil ?_) | (refine q_nil ?_) | ((refine r_call c1 rfl rfl rfl rfl rfl (hC _ rfl) rfl rfl (fun y0 u1 hy => ?_) ; subst hy)) | ((refine r_call c3 rfl rfl rfl rfl rfl (hC _ rfl) rfl rfl (fun y0 u1 hy => ?_) ; subst hy)) | (refine r_arith rfl rfl rfl rfl rfl rfl rfl (by omega) ?_) | (with_reducible refine r_seq ?_) | (with_reducible refine x_then ?_) | (with_reducible refine r_region ?_) | (refine r_draw hM (by kernel_rfl) ?_) | (with_reducible refine r_skip ?_) | (with_reducible refine r_ret ?_) | (with_reducible refine x_then_ret ?_) | (with_reducible refine r_block ?_) | (with_reducible refine x_block ?_) | (with_reducible refine x_block_ret ?_) | (with_reducible refine r_exit ?_) | (with_reducible refine x_then_exit ?_) | (with_reducible refine x_block_here ?_) | (refine x_block_past rfl ?_) | (refine c_yes rfl (by omega) ?_) | (refine c_no rfl (by omega) ?_) | (refine c_no rfl (fun h => h rfl) ?_) | (refine r_cond_false rfl ?_) | (refine r_cond_true rfl ?_) | (refine r_cond_dec rfl (fun _ => ?_) (fun _ => ?_)) | (refine r_cond_true rfl ?_) | (refine r_cond_false rfl ?_) | (refine c_not rfl (fun _ => ?_) (fun _ => ?_)) | (refine r_off rfl rfl rfl ?_) | (refine q_guard rfl rfl (fun _ => ?_) (fun _ => ?_)) | (refine q_guardn rfl rfl (fun _ => ?_) (fun _ => ?_)))
    exact r_fin hT rfl () rfl rfl rfl trivial rfl rfl
  rw [if_neg h2]
  repeat' (first | (refine r_pure hT rfl rfl rfl rfl ?_) | (refine r_new hT rfl rfl rfl rfl ?_) | (refine r_write hT rfl rfl rfl ?_) | (refine r_nil ?_) | (refine q_nil ?_) | ((refine r_call c1 rfl rfl rfl rfl rfl (hC _ rfl) rfl rfl (fun y0 u1 hy => ?_) ; subst hy)) | ((refine r_call c4 rfl rfl rfl rfl rfl (hC _ rfl) rfl rfl (fun y0 u1 hy => ?_) ; subst hy)) | (refine r_arith rfl rfl rfl rfl rfl rfl rfl (by omega) ?_) | (with_reducible refine r_seq ?_) | (with_reducible refine x_then ?_) | (with_reducible refine r_region ?_) | (refine r_draw hM (by kernel_rfl) ?_) | (with_reducible refine r_skip ?_) | (with_reducible refine r_ret ?_) | (with_reducible refine x_then_ret ?_) | (with_reducible refine r_block ?_) | (with_reducible refine x_block ?_) | (with_reducible refine x_block_ret ?_) | (with_reducible refine r_exit ?_) | (with_reducible refine x_then_exit ?_) | (with_reducible refine x_block_here ?_) | (refine x_block_past rfl ?_) | (refine c_yes rfl (by omega) ?_) | (refine c_no rfl (by omega) ?_) | (refine c_no rfl (fun h => h rfl) ?_) | (refine r_cond_false rfl ?_) | (refine r_cond_true rfl ?_) | (refine r_cond_dec rfl (fun _ => ?_) (fun _ => ?_)) | (refine r_cond_true rfl ?_) | (refine r_cond_false rfl ?_) | (refine c_not rfl (fun _ => ?_) (fun _ => ?_)) | (refine r_off rfl rfl rfl ?_) | (refine q_guard rfl rfl (fun _ => ?_) (fun _ => ?_)) | (refine q_guardn rfl rfl (fun _ => ?_) (fun _ => ?_)))
  exact r_fin hT rfl () rfl rfl rfl trivial rfl rfl
theorem dbl_lt : ∀ j, j < 6 → 10 * 2 ^ j < 500 := by decide
theorem bs_size (l : List UInt8) : (⟨l.toArray⟩ : ByteArray).size = l.length := rfl
theorem u8_of (z : Int) (h : 0 ≤ z ∧ z ≤ 255) : (((UInt8.ofNat z.toNat).toNat : Nat) : Int) = z := by
  rw [u8_to _ (by omega)]; omega
theorem dtextF (h : Hp) (pb : Nat) (A : Option Addr) (n c : Nat) (s : DS) (bs : List Int) (hX : Cx h pb A n bs) (hi : s.1 ≤ 800000000) :
    TriS Tryd.prog 159 [.v (pt0 pb)] [] (Wc h pb A n c s) (fun _ : Unit => .v (.string ⟨(txD bs s).1.toArray⟩)) (fun _ => []) (fun _ u' => u' = Wc h pb A n c (txD bs s).2) := by
  have a1 := pk_at bs 30 s
  have c1 := pickF h pb A n c s bs 30 hX (by omega) (by omega)
  unfold txD
  generalize pk bs 30 s = a at *
  dsimp only
  have a2 := pk_at bs 4 a.2
  have c2 := pickF h pb A n c a.2 bs 2 hX (by omega) (by omega)
  have l2 := pk_lt bs (k := 2) a.2 (by decide)
  have c3 := pickF h pb A n c a.2 bs 4 hX (by omega) (by omega)
  generalize pk bs 2 a.2 = y2 at *
  generalize pk bs 4 a.2 = b at *
  have c4 := pickF h pb A n c b.2 bs 4 hX (by omega) (by omega)
  have l4 := pk_lt bs (k := 4) b.2 (by decide)
  have a4 := pk_at bs 4 b.2
  have c5 := pickF h pb A n c b.2 bs 3 hX (by omega) (by omega)
  have l5 := pk_lt bs (k := 3) b.2 (by decide)
  generalize pk bs 4 b.2 = y4 at *
  generalize pk bs 3 b.2 = y5 at *
  refine enterS Tryd.func159 rfl (n := 46) rfl rfl (fun k N => ?_)
  by_cases h0 : a.1 = 0
  · rw [if_pos h0]
    repeat' (first | (refine r_pure hT rfl rfl rfl rfl ?_) | (refine r_new hT rfl rfl rfl rfl ?_) | (refine r_write hT rfl rfl rfl ?_) | (refine r_nil ?_) | (refine q_nil ?_) | ((refine r_call c1 rfl rfl rfl rfl rfl (hC _ rfl) rfl rfl (fun y0 u1 hy => ?_) ; subst hy)) | (refine r_arith rfl rfl rfl rfl rfl rfl rfl (by omega) ?_) | (with_reducible refine r_seq ?_) | (with_reducible refine x_then ?_) | (with_reducible refine r_region ?_) | (refine r_draw hM (by kernel_rfl) ?_) | (with_reducible refine r_skip ?_) | (with_reducible refine r_ret ?_) | (with_reducible refine x_then_ret ?_) | (with_reducible refine r_block ?_) | (with_reducible refine x_block ?_) | (with_reducible refine x_block_ret ?_) | (with_reducible refine r_exit ?_) | (with_reducible refine x_then_exit ?_) | (with_reducible refine x_block_here ?_) | (refine x_block_past rfl ?_) | (refine c_yes rfl (by omega) ?_) | (refine c_no rfl (by omega) ?_) | (refine c_no rfl (fun h => h rfl) ?_) | (refine r_cond_false rfl ?_) | (refine r_cond_true rfl ?_) | (refine r_cond_true rfl ?_) | (refine r_cond_false rfl ?_) | (refine r_off rfl rfl rfl ?_) | (refine q_guard rfl rfl (fun _ => ?_) (fun _ => ?_)) | (refine q_guardn rfl rfl (fun _ => ?_) (fun _ => ?_)))
    refine r_loop (γ := Nat) (fun j => j ≤ 6) (fun j => [(0, .v (pt0 pb)), (3, .v (.string ⟨(dbl j).toArray⟩))]) (fun _ => []) (fun _ => Wc h pb A n c a.2) (fun j => 6 - j)
      0 (by omega) (into rfl ⟨rfl, rfl, trivial⟩ trivial rfl rfl) ?_
    intro j hj
    have hd := dbl_len j
    by_cases hlt : j < 6
    · have hd2 := dbl_lt j hlt
      have hsz : (⟨(dbl j).toArray⟩ : ByteArray).size = (dbl j).length := rfl
      have hc : (((⟨(dbl j).toArray⟩ : ByteArray).size : Nat) : Int) < 500 := by rw [hsz, hd]; omega
      repeat' (first | (refine r_pure hT rfl rfl rfl rfl ?_) | (refine r_new hT rfl rfl rfl rfl ?_) | (refine r_write hT rfl rfl rfl ?_) | (refine r_nil ?_) | (refine q_nil ?_) | (refine c_yes rfl hc ?_) | ((refine r_concat rfl rfl rfl rfl rfl rfl (by rw [hsz, hd]; omega) ?_ ; rw [bytes_app])) | (refine r_arith rfl rfl rfl rfl rfl rfl rfl (by omega) ?_) | (with_reducible refine r_seq ?_) | (with_reducible refine x_then ?_) | (with_reducible refine r_region ?_) | (refine r_draw hM (by kernel_rfl) ?_) | (with_reducible refine r_skip ?_) | (with_reducible refine r_ret ?_) | (with_reducible refine x_then_ret ?_) | (with_reducible refine r_block ?_) | (with_reducible refine x_block ?_) | (with_reducible refine x_block_ret ?_) | (with_reducible refine r_exit ?_) | (with_reducible refine x_then_exit ?_) | (with_reducible refine x_block_here ?_) | (refine x_block_past rfl ?_) | (refine c_yes rfl (by omega) ?_) | (refine c_no rfl (by omega) ?_) | (refine c_no rfl (fun h => h rfl) ?_) | (refine r_cond_false rfl ?_) | (refine r_cond_true rfl ?_) | (refine r_cond_dec rfl (fun _ => ?_) (fun _ => ?_)) | (refine r_cond_true rfl ?_) | (refine r_cond_false rfl ?_) | (refine c_not rfl (fun _ => ?_) (fun _ => ?_)) | (refine r_off rfl rfl rfl ?_) | (refine q_guard rfl rfl (fun _ => ?_) (fun _ => ?_)) | (refine q_guardn rfl rfl (fun _ => ?_) (fun _ => ?_)))
      exact x_round (j + 1) hlt (by omega) (into rfl ⟨rfl, rfl, trivial⟩ trivial rfl rfl)
    · obtain rfl : j = 6 := by omega
      have hc : ¬ (((⟨(dbl 6).toArray⟩ : ByteArray).size : Nat) : Int) < 500 := by rw [bs_size, hd]; decide
      have hl : (⟨(dbl 6).toArray⟩ : ByteArray).size = 640 := by rw [bs_size, hd]
      repeat' (first | (refine r_pure hT rfl rfl rfl rfl ?_) | (refine r_new hT rfl rfl rfl rfl ?_) | (refine r_write hT rfl rfl rfl ?_) | (refine r_nil ?_) | (refine q_nil ?_) | (refine c_no rfl hc ?_) | ((refine r_call c2 rfl rfl rfl rfl rfl (hC _ rfl) rfl rfl (fun y0 u1 hy => ?_) ; subst hy)) | (refine r_arith (c := ((500 - y2.1 : Nat) : Int)) rfl rfl rfl rfl rfl rfl (by show some _ = some _; congr 1; omega) (by omega) ?_) | ((refine r_slstr (lo := 0) (hi := 500 - y2.1) hT rfl rfl rfl rfl rfl rfl rfl rfl ⟨_, rfl⟩ (Nat.zero_le _) (by rw [hl]; omega) ?_ ; rw [ext_take])) | (refine r_arith rfl rfl rfl rfl rfl rfl rfl (by omega) ?_) | (with_reducible refine r_seq ?_) | (with_reducible refine x_then ?_) | (with_reducible refine r_region ?_) | (refine r_draw hM (by kernel_rfl) ?_) | (with_reducible refine r_skip ?_) | (with_reducible refine r_ret ?_) | (with_reducible refine x_then_ret ?_) | (with_reducible refine r_block ?_) | (with_reducible refine x_block ?_) | (with_reducible refine x_block_ret ?_) | (with_reducible refine r_exit ?_) | (with_reducible refine x_then_exit ?_) | (with_reducible refine x_block_here ?_) | (refine x_block_past rfl ?_) | (refine c_yes rfl (by omega) ?_) | (refine c_no rfl (by omega) ?_) | (refine c_no rfl (fun h => h rfl) ?_) | (refine r_cond_false rfl ?_) | (refine r_cond_true rfl ?_) | (refine r_cond_dec rfl (fun _ => ?_) (fun _ => ?_)) | (refine r_cond_true rfl ?_) | (refine r_cond_false rfl ?_) | (refine c_not rfl (fun _ => ?_) (fun _ => ?_)) | (refine r_off rfl rfl rfl ?_) | (refine q_guard rfl rfl (fun _ => ?_) (fun _ => ?_)) | (refine q_guardn rfl rfl (fun _ => ?_) (fun _ => ?_)))
      exact r_fin hT rfl () rfl rfl rfl trivial rfl rfl
  rw [if_neg h0]
  by_cases h1 : b.1 = 0
  · rw [if_pos h1]
    repeat' (first | (refine r_pure hT rfl rfl rfl rfl ?_) | (refine r_new hT rfl rfl rfl rfl ?_) | (refine r_write hT rfl rfl rfl ?_) | (refine r_nil ?_) | (refine q_nil ?_) | ((refine r_call c1 rfl rfl rfl rfl rfl (hC _ rfl) rfl rfl (fun y0 u1 hy => ?_) ; subst hy)) | ((refine r_call c3 rfl rfl rfl rfl rfl (hC _ rfl) rfl rfl (fun y0 u1 hy => ?_) ; subst hy)) | (refine r_arith rfl rfl rfl rfl rfl rfl rfl (by omega) ?_) | (with_reducible refine r_seq ?_) | (with_reducible refine x_then ?_) | (with_reducible refine r_region ?_) | (refine r_draw hM (by kernel_rfl) ?_) | (with_reducible refine r_skip ?_) | (with_reducible refine r_ret ?_) | (with_reducible refine x_then_ret ?_) | (with_reducible refine r_block ?_) | (with_reducible refine x_block ?_) | (with_reducible refine x_block_ret ?_) | (with_reducible refine r_exit ?_) | (with_reducible refine x_then_exit ?_) | (with_reducible refine x_block_here ?_) | (refine x_block_past rfl ?_) | (refine c_yes rfl (by omega) ?_) | (refine c_no rfl (by omega) ?_) | (refine c_no rfl (fun h => h rfl) ?_) | (refine r_cond_false rfl ?_) | (refine r_cond_true rfl ?_) | (refine r_cond_dec rfl (fun _ => ?_) (fun _ => ?_)) | (refine r_cond_true rfl ?_) | (refine r_cond_false rfl ?_) | (refine c_not rfl (fun _ => ?_) (fun _ => ?_)) | (refine r_off rfl rfl rfl ?_) | (refine q_guard rfl rfl (fun _ => ?_) (fun _ => ?_)) | (refine q_guardn rfl rfl (fun _ => ?_) (fun _ => ?_)))
    exact r_fin hT rfl () rfl rfl rfl trivial rfl rfl
  rw [if_neg h1]
  by_cases h2 : b.1 = 1
  · rw [if_pos h2]
    repeat' (first | (refine r_pure hT rfl rfl rfl rfl ?_) | (refine r_new hT rfl rfl rfl rfl ?_) | (refine r_write hT rfl rfl rfl ?_) | (refine r_nil ?_) | (refine q_nil ?_) | ((refine r_call c1 rfl rfl rfl rfl rfl (hC _ rfl) rfl rfl (fun y0 u1 hy => ?_) ; subst hy)) | ((refine r_call c3 rfl rfl rfl rfl rfl (hC _ rfl) rfl rfl (fun y0 u1 hy => ?_) ; subst hy)) | ((refine r_call c4 rfl rfl rfl rfl rfl (hC _ rfl) rfl rfl (fun y0 u1 hy => ?_) ; subst hy)) | (refine r_arith rfl rfl rfl rfl rfl rfl rfl (by omega) ?_) | (with_reducible refine r_seq ?_) | (with_reducible refine x_then ?_) | (with_reducible refine r_region ?_) | (refine r_draw hM (by kernel_rfl) ?_) | (with_reducible refine r_skip ?_) | (with_reducible refine r_ret ?_) | (with_reducible refine x_then_ret ?_) | (with_reducible refine r_block ?_) | (with_reducible refine x_block ?_) | (with_reducible refine x_block_ret ?_) | (with_reducible refine r_exit ?_) | (with_reducible refine x_then_exit ?_) | (with_reducible refine x_block_here ?_) | (refine x_block_past rfl ?_) | (refine c_yes rfl (by omega) ?_) | (refine c_no rfl (by omega) ?_) | (refine c_no rfl (fun h => h rfl) ?_) | (refine r_cond_false rfl ?_) | (refine r_cond_true rfl ?_) | (refine r_cond_true rfl ?_) | (refine r_cond_false rfl ?_) | (refine r_off rfl rfl rfl ?_) | (refine q_guard rfl rfl (fun _ => ?_) (fun _ => ?_)) | (refine q_guardn rfl rfl (fun _ => ?_) (fun _ => ?_)))
    refine r_loop (γ := Nat × (Hp × (Option Addr × Nat))) (fun g => g.1 ≤ y4.1 ∧ Le h g.2.1 ∧ g.2.1 pb = none ∧ Off h g.2.2.1 ∧ Own g.2.1 g.2.2.1 g.1 g.2.2.2 5 1 ((byD bs g.1 y4.2).1.flatMap bc1))
      (fun g => [(0, .v (pt0 pb)), (4, .v (.slice g.2.2.1 g.1 g.2.2.2)), (5, .v (.int .i64 ((y4.1 - g.1 : Nat) : Int)))]) (fun _ => []) (fun g => Wc g.2.1 pb A n c (byD bs g.1 y4.2).2) (fun g => y4.1 - g.1)
      (0, (h, (none, 0))) ⟨Nat.zero_le _, Le.refl h, hX.hp, off_nil, own_nil⟩ (into rfl ⟨rfl, rfl, rfl, trivial⟩ trivial rfl rfl) ?_
    rintro ⟨j, ⟨h1', ⟨Ab, cb⟩⟩⟩ ⟨hj, hle, hp1, hof, hO⟩
    dsimp only at *
    have hat := byD_at bs j y4.2
    by_cases hlt : j < y4.1
    · have hN := nextF h1' pb A n c (byD bs j y4.2).2 bs (hX.le hle hp1) (by omega)
      have hr := nx_rng hX.byt (byD bs j y4.2).2
      have hsn := byD_snoc bs j y4.2
      generalize nx bs (byD bs j y4.2).2 = z at *
      repeat' (first | (refine r_pure hT rfl rfl rfl rfl ?_) | (refine r_new hT rfl rfl rfl rfl ?_) | (refine r_write hT rfl rfl rfl ?_) | (refine r_nil ?_) | (refine q_nil ?_) | (refine c_yes rfl (by omega) ?_) | ((refine r_call hN rfl rfl rfl rfl rfl (hC _ rfl) rfl rfl (fun y0 u1 hy => ?_) ; subst hy)) | (refine r_conv hT rfl rfl rfl rfl rfl rfl rfl rfl (p := z.1) (by simp [IntKind.wrap, IntKind.bits, IntKind.signed]; omega) ?_) | (refine r_bslice (t := 22) hT (ps := [(0, .tmp 35)]) rfl rfl rfl rfl rfl rfl rfl (by simp) rfl rfl (by decide) (fun b3 hb3 => ?_)) | (refine r_append (t := 22) hT (cs := (byD bs j y4.2).1.flatMap bc1) (news := [.int .u8 z.1]) rfl rfl rfl rfl rfl rfl rfl rfl rfl rfl rfl (own_fr ((hO.le fun b o _ ho => (wc_le hp1 _) b o ho)) hb3) (sl_blk (upd_here ..) rfl) (fun v hv => by rw [List.mem_singleton] at hv; subst hv; rfl) (by dsimp only; omega) (by omega) (fun A6 c6 u6 hO6 hG6 => ?_)) | (refine r_arith (c := ((y4.1 - (j + 1) : Nat) : Int)) rfl rfl rfl rfl rfl rfl (by show some _ = some _; congr 1; omega) (by omega) ?_) | (refine r_arith rfl rfl rfl rfl rfl rfl rfl (by omega) ?_) | (with_reducible refine r_seq ?_) | (with_reducible refine x_then ?_) | (with_reducible refine r_region ?_) | (refine r_draw hM (by kernel_rfl) ?_) | (with_reducible refine r_skip ?_) | (with_reducible refine r_ret ?_) | (with_reducible refine x_then_ret ?_) | (with_reducible refine r_block ?_) | (with_reducible refine x_block ?_) | (with_reducible refine x_block_ret ?_) | (with_reducible refine r_exit ?_) | (with_reducible refine x_then_exit ?_) | (with_reducible refine x_block_here ?_) | (refine x_block_past rfl ?_) | (refine c_yes rfl (by omega) ?_) | (refine c_no rfl (by omega) ?_) | (refine c_no rfl (fun h => h rfl) ?_) | (refine r_cond_false rfl ?_) | (refine r_cond_true rfl ?_) | (refine r_cond_dec rfl (fun _ => ?_) (fun _ => ?_)) | (refine r_cond_true rfl ?_) | (refine r_cond_false rfl ?_) | (refine c_not rfl (fun _ => ?_) (fun _ => ?_)) | (refine r_off rfl rfl rfl ?_) | (refine q_guard rfl rfl (fun _ => ?_) (fun _ => ?_)) | (refine q_guardn rfl rfl (fun _ => ?_) (fun _ => ?_)))
      obtain ⟨h3, e3, hp3, hO3, hk3⟩ := wc_app hp1 hO hb3 hG6 hO6
      have hk4 := hk3 h hle hof
      subst e3
      have e6 : z.2 = (byD bs (j + 1) y4.2).2 := by rw [hsn]
      have e7 : (byD bs j y4.2).1.flatMap bc1 ++ [Value.int .u8 z.1] = (byD bs (j + 1) y4.2).1.flatMap bc1 := by
        rw [hsn, List.flatMap_append]
        simp only [List.flatMap_cons, List.flatMap_nil, List.append_nil, bc1, u8_of z.1 hr]
      rw [e7] at hO3
      rw [e6]
      exact x_round (j + 1, (h3, (A6, c6))) ⟨hlt, hk4.1, hp3, hk4.2, hO3⟩ (by dsimp only; omega) (into rfl ⟨rfl, rfl, rfl, trivial⟩ trivial rfl rfl)
    · obtain rfl : j = y4.1 := by omega
      have hS : Sl (Wc h1' pb A n c (byD bs y4.1 y4.2).2) Ab y4.1 1 (byteCells ⟨(byD bs y4.1 y4.2).1.toArray⟩) := by
        rw [bc1_of]; exact (hO.le fun b o _ ho => (wc_le hp1 _) b o ho).sl
      repeat' (first | (refine r_pure hT rfl rfl rfl rfl ?_) | (refine r_new hT rfl rfl rfl rfl ?_) | (refine r_write hT rfl rfl rfl ?_) | (refine r_nil ?_) | (refine q_nil ?_) | (refine c_no rfl (by omega) ?_) | (refine r_str hT rfl rfl rfl rfl rfl rfl rfl rfl rfl rfl rfl hS ?_) | (refine r_arith rfl rfl rfl rfl rfl rfl rfl (by omega) ?_) | (with_reducible refine r_seq ?_) | (with_reducible refine x_then ?_) | (with_reducible refine r_region ?_) | (refine r_draw hM (by kernel_rfl) ?_) | (with_reducible refine r_skip ?_) | (with_reducible refine r_ret ?_) | (with_reducible refine x_then_ret ?_) | (with_reducible refine r_block ?_) | (with_reducible refine x_block ?_) | (with_reducible refine x_block_ret ?_) | (with_reducible refine r_exit ?_) | (with_reducible refine x_then_exit ?_) | (with_reducible refine x_block_here ?_) | (refine x_block_past rfl ?_) | (refine c_yes rfl (by omega) ?_) | (refine c_no rfl (by omega) ?_) | (refine c_no rfl (fun h => h rfl) ?_) | (refine r_cond_false rfl ?_) | (refine r_cond_true rfl ?_) | (refine r_cond_dec rfl (fun _ => ?_) (fun _ => ?_)) | (refine r_cond_true rfl ?_) | (refine r_cond_false rfl ?_) | (refine c_not rfl (fun _ => ?_) (fun _ => ?_)) | (refine r_off rfl rfl rfl ?_) | (refine q_guard rfl rfl (fun _ => ?_) (fun _ => ?_)) | (refine q_guardn rfl rfl (fun _ => ?_) (fun _ => ?_)))
      refine St.weak (upd_mono hle pb (cuO A n c (byD bs y4.1 y4.2).2)) ?_
      exact r_fin hT rfl () rfl rfl rfl trivial rfl rfl
  · rw [if_neg h2]
    have e1 : byteCells ⟨[UInt8.ofNat (97 + y5.1)].toArray⟩ = [Value.int .u8 (97 + (y5.1 : Int))] := by
      rw [bc1_of]
      simp only [List.flatMap_cons, List.flatMap_nil, List.append_nil, bc1]
      rw [u8_to _ (by omega)]
      push_cast
      rfl
    repeat' (first | (refine r_pure hT rfl rfl rfl rfl ?_) | (refine r_new hT rfl rfl rfl rfl ?_) | (refine r_write hT rfl rfl rfl ?_) | (refine r_nil ?_) | (refine q_nil ?_) | ((refine r_call c1 rfl rfl rfl rfl rfl (hC _ rfl) rfl rfl (fun y0 u1 hy => ?_) ; subst hy)) | ((refine r_call c3 rfl rfl rfl rfl rfl (hC _ rfl) rfl rfl (fun y0 u1 hy => ?_) ; subst hy)) | ((refine r_call c5 rfl rfl rfl rfl rfl (hC _ rfl) rfl rfl (fun y0 u1 hy => ?_) ; subst hy)) | (refine r_conv hT rfl rfl rfl rfl rfl rfl rfl rfl (p := 97 + (y5.1 : Int)) (by simp [IntKind.wrap, IntKind.bits, IntKind.signed]; omega) ?_) | (refine r_bslice (t := 22) hT (ps := [(0, .tmp 43)]) rfl rfl rfl rfl rfl rfl rfl (by simp) rfl rfl (by decide) (fun b3 hb3 => ?_)) | (refine r_str (s := ⟨[UInt8.ofNat (97 + y5.1)].toArray⟩) hT rfl rfl rfl rfl rfl rfl rfl rfl rfl rfl rfl (by rw [e1]; exact sl_blk (upd_here ..) rfl) ?_) | (refine r_arith rfl rfl rfl rfl rfl rfl rfl (by omega) ?_) | (with_reducible refine r_seq ?_) | (with_reducible refine x_then ?_) | (with_reducible refine r_region ?_) | (refine r_draw hM (by kernel_rfl) ?_) | (with_reducible refine r_skip ?_) | (with_reducible refine r_ret ?_) | (with_reducible refine x_then_ret ?_) | (with_reducible refine r_block ?_) | (with_reducible refine x_block ?_) | (with_reducible refine x_block_ret ?_) | (with_reducible refine r_exit ?_) | (with_reducible refine x_then_exit ?_) | (with_reducible refine x_block_here ?_) | (refine x_block_past rfl ?_) | (refine c_yes rfl (by omega) ?_) | (refine c_no rfl (by omega) ?_) | (refine c_no rfl (fun h => h rfl) ?_) | (refine r_cond_false rfl ?_) | (refine r_cond_true rfl ?_) | (refine r_cond_dec rfl (fun _ => ?_) (fun _ => ?_)) | (refine r_cond_true rfl ?_) | (refine r_cond_false rfl ?_) | (refine c_not rfl (fun _ => ?_) (fun _ => ?_)) | (refine r_off rfl rfl rfl ?_) | (refine q_guard rfl rfl (fun _ => ?_) (fun _ => ?_)) | (refine q_guardn rfl rfl (fun _ => ?_) (fun _ => ?_)))
    refine St.weak (le_frsh (Le.refl _) hb3) ?_
    exact r_fin hT rfl () rfl rfl rfl trivial rfl rfl
end Go.Proofs.YtkamfnmbidnhdaaDoor
/- The order of keys in plain words; lists of pairs in that order. No program in sight; no condition. -/
namespace Go.Sy
open Go.Sort Go.Proofs
set_option linter.unusedVariables false
/-- The order of texts, byte by byte. -/
def lexB : List UInt8 → List UInt8 → Bool
  | [], [] => false
  | [], _ :: _ => true
  | _ :: _, [] => false
  | a :: l, b :: m => if a = b then lexB l m else decide (a < b)
theorem lexB_irr : ∀ a, lexB a a = false
  | [] => rfl
  | a :: l => by simp [lexB, lexB_irr l]
theorem lexB_tr : ∀ {a b c : List UInt8}, lexB a b = true → lexB b c = true → lexB a c = true
  | [], [], c, h, _ => by simp [lexB] at h
  | [], _ :: _, [], _, h => by simp [lexB] at h
  | [], _ :: _, _ :: _, _, _ => rfl
  | _ :: _, [], _, h, _ => by simp [lexB] at h
  | _ :: _, _ :: _, [], _, h => by simp [lexB] at h
  | a :: l, b :: m, c :: cs, h, g => by
    simp only [lexB] at h g ⊢
    by_cases e1 : a = b
    · subst e1
      rw [if_pos rfl] at h
      by_cases e2 : a = c
      · subst e2
        rw [if_pos rfl] at g ⊢
        exact lexB_tr h g
      · rw [if_neg e2] at g ⊢; exact g
    · rw [if_neg e1] at h
      by_cases e2 : b = c
      · subst e2
        rw [if_neg e1]; exact h
      · rw [if_neg e2] at g
        simp only [decide_eq_true_eq] at h g
        have h3 : a < c := UInt8.lt_trans h g
        rw [if_neg (fun e => by subst e; exact UInt8.lt_irrefl _ h3)]
        simpa using h3
theorem lexB_tot : ∀ {a b : List UInt8}, lexB a b = false → lexB b a = false → a = b
  | [], [], _, _ => rfl
  | [], _ :: _, h, _ => by simp [lexB] at h
  | _ :: _, [], _, h => by simp [lexB] at h
  | a :: l, b :: m, h, g => by
    simp only [lexB] at h g
    by_cases e1 : a = b
    · subst e1
      rw [if_pos rfl] at h g
      rw [lexB_tot h g]
    · rw [if_neg e1] at h
      rw [if_neg (Ne.symm e1)] at g
      simp only [decide_eq_false_iff_not] at h g
      rcases UInt8.lt_or_lt_of_ne e1 with h3 | h3
      · exact absurd h3 h
      · exact absurd h3 g
theorem compare_lex : ∀ (a b : List UInt8), Lib.compareBytes a b = if lexB a b = true then -1 else if lexB b a = true then 1 else 0
  | [], [] => by simp [Lib.compareBytes, lexB]
  | [], b :: m => by simp [Lib.compareBytes, lexB]
  | a :: l, [] => by simp [Lib.compareBytes, lexB]
  | a :: l, b :: m => by
    rw [Lib.compareBytes, compare_lex l m]
    by_cases h : a = b
    · subst h
      simp [lexB, UInt8.lt_irrefl]
    · by_cases h1 : a < b
      · simp [lexB, h, h1]
      · have h2 : b < a := by
          rcases UInt8.lt_or_lt_of_ne h with h3 | h3
          · exact absurd h3 h1
          · exact h3
        have h4 : ¬ b = a := fun e => h e.symm
        simp [lexB, h, h1, h2, h4]
/-- What impl's order says of two values. -/
def kc (x y : V) : Int := if x.k - y.k ≠ 0 then x.k - y.k else if x.n < y.n then -1 else if y.n < x.n then 1 else Lib.compareBytes x.s.data.toList y.s.data.toList
def kl (x y : V) : Bool := decide (kc x y < 0)
theorem kl_iff (x y : V) : kl x y = true ↔ x.k < y.k ∨ (x.k = y.k ∧ (x.n < y.n ∨ (x.n = y.n ∧ lexB x.s.data.toList y.s.data.toList = true))) := by
  unfold kl kc
  rw [decide_eq_true_eq, compare_lex]
  by_cases h1 : x.k - y.k ≠ 0
  · rw [if_pos h1]
    constructor
    · intro h; left; omega
    · rintro (h | ⟨h, _⟩) <;> omega
  · rw [if_neg h1]
    have h1' : x.k = y.k := by omega
    by_cases h2 : x.n < y.n
    · rw [if_pos h2]
      exact ⟨fun _ => .inr ⟨h1', .inl h2⟩, fun _ => by omega⟩
    · rw [if_neg h2]
      by_cases h3 : y.n < x.n
      · rw [if_pos h3]
        constructor
        · intro h; omega
        · rintro (h | ⟨_, h | ⟨h, _⟩⟩) <;> omega
      · rw [if_neg h3]
        by_cases h4 : lexB x.s.data.toList y.s.data.toList = true
        · rw [if_pos h4]
          exact ⟨fun _ => .inr ⟨h1', .inr ⟨by omega, h4⟩⟩, fun _ => by omega⟩
        · rw [if_neg h4]
          constructor
          · intro h; split at h <;> omega
          · rintro (h | ⟨_, h | ⟨_, h⟩⟩)
            · omega
            · omega
            · exact absurd h h4
theorem text_ext {s t : ByteArray} (h : s.data.toList = t.data.toList) : s = t := by
  cases s; cases t
  simp only [ByteArray.mk.injEq]
  exact Array.toList_inj.1 h
theorem kl_irr (x : V) : kl x x = false := by
  cases h : kl x x with
  | false => rfl
  | true =>
    rw [kl_iff, lexB_irr] at h
    rcases h with h | ⟨_, h | ⟨_, h⟩⟩
    · omega
    · omega
    · cases h
theorem kl_tr {x y z : V} (h : kl x y = true) (g : kl y z = true) : kl x z = true := by
  rw [kl_iff] at h g ⊢
  rcases h with h | ⟨e1, h⟩
  · rcases g with g | ⟨e2, g⟩
    · left; omega
    · left; omega
  · rcases g with g | ⟨e2, g⟩
    · left; omega
    · right
      refine ⟨by omega, ?_⟩
      rcases h with h | ⟨e3, h⟩
      · rcases g with g | ⟨e4, g⟩
        · left; omega
        · left; omega
      · rcases g with g | ⟨e4, g⟩
        · left; omega
        · exact .inr ⟨by omega, lexB_tr h g⟩
theorem kl_tot {x y : V} (h : kl x y = false) (g : kl y x = false) : x.k = y.k ∧ x.n = y.n ∧ x.s = y.s := by
  have h' : ¬ kl x y = true := by rw [h]; simp
  have g' : ¬ kl y x = true := by rw [g]; simp
  rw [kl_iff] at h' g'
  have e1 : x.k = y.k := by
    rcases Int.lt_trichotomy x.k y.k with h1 | h1 | h1
    · exact absurd (.inl h1) h'
    · exact h1
    · exact absurd (.inl h1) g'
  have e2 : x.n = y.n := by
    rcases Int.lt_trichotomy x.n y.n with h1 | h1 | h1
    · exact absurd (.inr ⟨e1, .inl h1⟩) h'
    · exact h1
    · exact absurd (.inr ⟨e1.symm, .inl h1⟩) g'
  refine ⟨e1, e2, text_ext (lexB_tot ?_ ?_)⟩
  · cases hl : lexB x.s.data.toList y.s.data.toList with
    | false => rfl
    | true => exact absurd (.inr ⟨e1, .inr ⟨e2, hl⟩⟩) h'
  · cases hl : lexB y.s.data.toList x.s.data.toList with
    | false => rfl
    | true => exact absurd (.inr ⟨e1.symm, .inr ⟨e2.symm, hl⟩⟩) g'
theorem kl_eq {x y z : V} (h : x.k = y.k ∧ x.n = y.n ∧ x.s = y.s) : kl x z = kl y z ∧ kl z x = kl z y := by
  unfold kl kc
  rw [h.1, h.2.1, h.2.2]
  exact ⟨rfl, rfl⟩
theorem kl_ntr {x y z : V} (h : kl x y = false) (g : kl y z = false) : kl x z = false := by
  cases hz : kl x z with
  | false => rfl
  | true =>
    cases hy : kl z y with
    | true => rw [kl_tr hz hy] at h; cases h
    | false =>
      have e := kl_tot g hy
      rw [(kl_eq (z := x) e).2] at h
      rw [hz] at h; cases h
theorem kc_swo {α : Type} (f : α → V) : SWO (ltOf fun x y : α => kc (f x) (f y)) :=
  ⟨fun x => kl_irr (f x), fun x y z h g => kl_tr (x := f x) (y := f y) h g, fun x y z h g => kl_ntr (x := f x) (y := f y) h g⟩
/-- spec's order of two keys. -/
def sl (x y : V) : Bool := if x.k = y.k then (if x.k = 3 then lexB x.s.data.toList y.s.data.toList else decide (x.n < y.n)) else decide (x.k < y.k)
/-- A key in its one form. -/
structure Ky (v : V) : Prop where
  k1 : 1 ≤ v.k
  k3 : v.k ≤ 3
  num : v.k = 3 → v.n = 0
  txt : v.k ≠ 3 → v.s.data.toList = []
  pl : v.a = 0
theorem sl_kl {x y : V} (hx : Ky x) (hy : Ky y) : sl x y = kl x y := by
  have key : sl x y = true ↔ kl x y = true := by
    rw [kl_iff]
    unfold sl
    by_cases h1 : x.k = y.k
    · rw [if_pos h1]
      by_cases h3 : x.k = 3
      · rw [if_pos h3]
        have e1 := hx.num h3
        have e2 := hy.num (h1 ▸ h3)
        exact ⟨fun h => .inr ⟨h1, .inr ⟨by omega, h⟩⟩, fun h => by
          rcases h with h | ⟨_, h | ⟨_, h⟩⟩
          · omega
          · omega
          · exact h⟩
      · rw [if_neg h3, decide_eq_true_eq]
        have e1 := hx.txt h3
        have e2 := hy.txt (h1 ▸ h3)
        rw [e1, e2]
        exact ⟨fun h => .inr ⟨h1, .inl h⟩, fun h => by
          rcases h with h | ⟨_, h | ⟨_, h⟩⟩
          · omega
          · exact h
          · cases h⟩
    · rw [if_neg h1, decide_eq_true_eq]
      exact ⟨fun h => .inl h, fun h => by
        rcases h with h | ⟨h, _⟩
        · exact h
        · exact absurd h h1⟩
  cases h1 : sl x y <;> cases h2 : kl x y <;> simp_all
theorem ky_tot {x y : V} (hx : Ky x) (hy : Ky y) (h : kl x y = false) (g : kl y x = false) : x = y := by
  obtain ⟨e1, e2, e3⟩ := kl_tot h g
  have e4 := hx.pl
  have e5 := hy.pl
  cases x; cases y
  simp only at e1 e2 e3 e4 e5
  rw [e1, e2, e3, e4, e5]
/-! ### lists of pairs in order -/
def Srt (l : List Pr) : Prop := l.Pairwise fun p q => kl q.key p.key = false
theorem srt_ins {A B : List Pr} {p : Pr} (h : Srt (A ++ B)) (hB : ∀ q ∈ B, kl p.key q.key = true) (hA : ∀ q, A.getLast? = some q → kl p.key q.key = false) : Srt (A ++ p :: B) := by
  unfold Srt at h ⊢
  rw [List.pairwise_append] at h ⊢
  refine ⟨h.1, List.pairwise_cons.2 ⟨fun q hq => ?_, h.2.1⟩, fun a ha b hb => ?_⟩
  · cases hz : kl q.key p.key with
    | false => rfl
    | true => have := kl_tr (hB q hq) hz; rw [kl_irr] at this; cases this
  · rcases List.mem_cons.1 hb with rfl | hb
    · rcases List.eq_nil_or_concat A with rfl | ⟨A', z, rfl⟩
      · cases ha
      · rw [List.concat_eq_append] at ha h hA
        have hl := hA z (by simp)
        rcases List.mem_append.1 ha with h1 | h1
        · have h2 := (List.pairwise_append.1 h.1).2.2 a h1 z (by simp)
          exact kl_ntr hl h2
        · simp only [List.mem_singleton] at h1; subst h1; exact hl
    · exact h.2.2 a ha b hb
/-- One order alone, where keys are told apart. -/
theorem srt_uniq {xs ys zs : List Pr} (hk : ∀ p ∈ xs, Ky p.key) (hd : (xs.map Pr.key).Nodup) (h1 : ys.Perm xs) (h2 : zs.Perm xs) (s1 : Srt ys) (s2 : Srt zs) : ys = zs := by
  refine List.Perm.eq_of_pairwise (le := fun p q : Pr => kl q.key p.key = false) (fun a b ha hb h g => ?_) s1 s2 (h1.trans h2.symm)
  have ma := h1.mem_iff.1 ha
  have mb := h2.mem_iff.1 hb
  have e := ky_tot (hk a ma) (hk b mb) g h
  have : ∀ {l : List Pr}, (l.map Pr.key).Nodup → ∀ {a b : Pr}, a ∈ l → b ∈ l → a.key = b.key → a = b := fun {l} => by
    induction l with
    | nil => intro _ a b ha; cases ha
    | cons x r ih =>
      intro hn a b ha hb e
      rw [List.map_cons, List.nodup_cons] at hn
      rcases List.mem_cons.1 ha with rfl | ha
      · rcases List.mem_cons.1 hb with rfl | hb
        · rfl
        · exact absurd (by rw [e]; exact List.mem_map_of_mem hb) hn.1
      · rcases List.mem_cons.1 hb with eb | hb
        · exact absurd (by rw [← eb, ← e]; exact List.mem_map_of_mem ha) hn.1
        · exact ih hn.2 ha hb e
  exact this hd ma mb e
/-- The pairs of a table in the order of their keys. -/
def srt (t : List Pr) : List Pr := t.mergeSort fun p q => !kl q.key p.key
theorem srt_perm (t : List Pr) : (srt t).Perm t := List.mergeSort_perm _ _
theorem srt_srt (t : List Pr) : Srt (srt t) := by
  have h := List.pairwise_mergeSort (le := fun p q : Pr => !kl q.key p.key) (fun a b c h g => by
    simp only [Bool.not_eq_true'] at h g ⊢
    exact kl_ntr g h) (fun a b => by
    cases h1 : kl b.key a.key with
    | false => rfl
    | true =>
      cases h2 : kl a.key b.key with
      | false => rfl
      | true => have := kl_tr h1 h2; rw [kl_irr] at this; cases this) t
  exact h.imp fun {a b} h => by simpa using h
theorem srt_of {xs ys : List Pr} (hk : ∀ p ∈ xs, Ky p.key) (hd : (xs.map Pr.key).Nodup) (h1 : ys.Perm xs) (s1 : Srt ys) : ys = srt xs := srt_uniq hk hd h1 (srt_perm xs) s1 (srt_srt xs)
end Go.Sy
/- The numbering of a graph's tables in the order in which they are met. -/
namespace Go.Sy
set_option linter.unusedVariables false
def go (ts : List (List Pr)) : Nat → List Nat → V → List Nat
  | 0, ord, _ => ord
  | f + 1, ord, v => if v.k = 4 then (if v.a.toNat ∈ ord then ord else (ts.getD v.a.toNat []).foldl (fun o p => go ts f o p.val) (ord ++ [v.a.toNat])) else ord
def goes (ts : List (List Pr)) (f : Nat) (ord : List Nat) (l : List Pr) : List Nat := l.foldl (fun o p => go ts f o p.val) ord
def ren (ord : List Nat) (v : V) : V := if v.k = 4 then ⟨v.k, v.n, v.s, (ord.idxOf v.a.toNat : Nat)⟩ else v
/-- A value that names a table there is. -/
def In (n : Nat) (v : V) : Prop := v.k = 4 → 0 ≤ v.a ∧ v.a < n
def AllIn (ts : List (List Pr)) : Prop := ∀ t ∈ ts, ∀ p ∈ t, In ts.length p.val
structure Nm (n : Nat) (ord : List Nat) : Prop where
  nodup : ord.Nodup
  lt : ∀ a ∈ ord, a < n
theorem Nm.len {n : Nat} {ord : List Nat} (h : Nm n ord) : ord.length ≤ n := by
  obtain ⟨h1, h2⟩ := h
  induction n generalizing ord with
  | zero =>
    cases ord with
    | nil => simp
    | cons a r => exact absurd (h2 a (.head _)) (by omega)
  | succ n ih =>
    by_cases hn : n ∈ ord
    · have := ih (ord := ord.erase n) (h1.erase n) (fun a ha => by
        have h3 := h2 a (List.mem_of_mem_erase ha)
        have : a ≠ n := fun e => by subst e; exact absurd ha (h1.not_mem_erase)
        omega)
      rw [List.length_erase_of_mem hn] at this
      omega
    · have := ih h1 (fun a ha => by
        have h3 := h2 a ha
        have : a ≠ n := fun e => hn (e ▸ ha)
        omega)
      omega
theorem Nm.snoc {n : Nat} {ord : List Nat} (h : Nm n ord) {a : Nat} (ha : a < n) (hn : a ∉ ord) : Nm n (ord ++ [a]) :=
  ⟨List.nodup_append.2 ⟨h.nodup, by simp, fun x hx y hy e => hn (by rw [List.mem_singleton] at hy; rw [← hy, ← e]; exact hx)⟩, fun x hx => by
    rcases List.mem_append.1 hx with hx | hx
    · exact h.lt x hx
    · rw [List.mem_singleton] at hx; omega⟩
theorem goes_snoc (ts : List (List Pr)) (f : Nat) (ord : List Nat) (l : List Pr) (p : Pr) : goes ts f ord (l ++ [p]) = go ts f (goes ts f ord l) p.val := by simp [goes]
theorem go_pre (ts : List (List Pr)) : ∀ (f : Nat) (ord : List Nat) (v : V), ord <+: go ts f ord v
  | 0, ord, v => List.prefix_rfl
  | f + 1, ord, v => by
    simp only [go]
    split
    · split
      · exact List.prefix_rfl
      · have : ∀ (l : List Pr) (o : List Nat), o <+: goes ts f o l := fun l => by
          induction l with
          | nil => exact fun o => List.prefix_rfl
          | cons p r ih => exact fun o => (go_pre ts f o p.val).trans (ih _)
        exact (List.prefix_append _ _).trans (this _ _)
    · exact List.prefix_rfl
theorem goes_pre (ts : List (List Pr)) (f : Nat) : ∀ (l : List Pr) (o : List Nat), o <+: goes ts f o l
  | [], o => List.prefix_rfl
  | p :: r, o => (go_pre ts f o p.val).trans (goes_pre ts f r _)
theorem go_nm {ts : List (List Pr)} (hA : AllIn ts) : ∀ (f : Nat) (ord : List Nat) (v : V), Nm ts.length ord → In ts.length v → Nm ts.length (go ts f ord v)
  | 0, ord, v, h, _ => h
  | f + 1, ord, v, h, hv => by
    simp only [go]
    split
    · rename_i hk
      split
      · exact h
      · rename_i hn
        have hlt : v.a.toNat < ts.length := by have := hv hk; omega
        have key : ∀ (l : List Pr) (o : List Nat), (∀ p ∈ l, In ts.length p.val) → Nm ts.length o → Nm ts.length (goes ts f o l) := fun l => by
          induction l with
          | nil => exact fun o _ h => h
          | cons p r ih => exact fun o hl h => ih _ (fun q hq => hl q (.tail _ hq)) (go_nm hA f o p.val h (hl p (.head _)))
        refine key _ _ (fun p hp => ?_) (h.snoc hlt hn)
        rw [List.getD_eq_getElem?_getD, List.getElem?_eq_getElem hlt] at hp
        exact hA _ (List.getElem_mem hlt) p hp
    · exact h
theorem goes_nm {ts : List (List Pr)} (hA : AllIn ts) (f : Nat) : ∀ (l : List Pr) (o : List Nat), (∀ p ∈ l, In ts.length p.val) → Nm ts.length o → Nm ts.length (goes ts f o l)
  | [], o, _, h => h
  | p :: r, o, hl, h => goes_nm hA f r _ (fun q hq => hl q (.tail _ hq)) (go_nm hA f o p.val h (hl p (.head _)))
theorem go_mem (ts : List (List Pr)) (f : Nat) (ord : List Nat) (v : V) (h4 : v.k = 4) : v.a.toNat ∈ go ts (f + 1) ord v := by
  simp only [go, if_pos h4]
  split
  · assumption
  · exact (goes_pre ts f _ _).subset (by simp)
theorem go_new {ts : List (List Pr)} {f : Nat} {ord : List Nat} {v : V} {t : List Pr} (h4 : v.k = 4) (hn : v.a.toNat ∉ ord) (ht : ts[v.a.toNat]? = some t) : go ts (f + 1) ord v = goes ts f (ord ++ [v.a.toNat]) t := by
  simp only [go, if_pos h4, if_neg hn, goes]
  rw [List.getD_eq_getElem?_getD, ht]; rfl
theorem go_old {ts : List (List Pr)} {f : Nat} {ord : List Nat} {v : V} (h4 : v.k = 4) (hn : v.a.toNat ∈ ord) : go ts (f + 1) ord v = ord := by simp only [go, if_pos h4, if_pos hn]
theorem go_leaf {ts : List (List Pr)} {f : Nat} {ord : List Nat} {v : V} (h4 : v.k ≠ 4) : go ts f ord v = ord := by cases f <;> simp [go, h4]
theorem idx_pre {ord ord' : List Nat} (h : ord <+: ord') {a : Nat} (ha : a ∈ ord) : ord'.idxOf a = ord.idxOf a := by
  obtain ⟨t, rfl⟩ := h
  rw [List.idxOf_append, if_pos ha]
theorem ren_pre {ord ord' : List Nat} (h : ord <+: ord') {v : V} (ha : v.k = 4 → v.a.toNat ∈ ord) : ren ord' v = ren ord v := by
  unfold ren
  split
  · rename_i h4; rw [idx_pre h (ha h4)]
  · rfl
/-- What is new is closed: the tables that it names are in the order. -/
def New (ts : List (List Pr)) (ord ord' : List Nat) : Prop := ∀ a ∈ ord', a ∉ ord → ∀ t, ts[a]? = some t → ∀ p ∈ t, p.val.k = 4 → p.val.a.toNat ∈ ord'
theorem New.refl (ts : List (List Pr)) (ord : List Nat) : New ts ord ord := fun a h h' => absurd h h'
theorem New.trans {ts : List (List Pr)} {a b c : List Nat} (h : New ts a b) (g : New ts b c) (hp : b <+: c) : New ts a c := fun x hx hn t ht p hpt h4 => by
  by_cases hb : x ∈ b
  · exact hp.subset (h x hb hn t ht p hpt h4)
  · exact g x hx hb t ht p hpt h4
theorem go_closed {ts : List (List Pr)} (hA : AllIn ts) : ∀ (f : Nat) (ord : List Nat) (v : V), Nm ts.length ord → In ts.length v → ts.length - ord.length < f → New ts ord (go ts f ord v)
  | 0, ord, v, _, _, h => absurd h (by omega)
  | f + 1, ord, v, hN, hv, hf => by
    by_cases h4 : v.k = 4
    · by_cases hin : v.a.toNat ∈ ord
      · rw [go_old h4 hin]; exact New.refl _ _
      · have hlt : v.a.toNat < ts.length := by have := hv h4; omega
        have hix : ts[v.a.toNat]? = some ts[v.a.toNat] := List.getElem?_eq_getElem hlt
        rw [go_new h4 hin hix]
        have hN1 := hN.snoc hlt hin
        have hl1 := hN1.len
        simp only [List.length_append, List.length_singleton] at hl1
        have key : ∀ (l : List Pr) (o : List Nat), (∀ p ∈ l, In ts.length p.val) → Nm ts.length o → ord.length + 1 ≤ o.length → New ts o (goes ts f o l) ∧ ∀ p ∈ l, p.val.k = 4 → p.val.a.toNat ∈ goes ts f o l := fun l => by
          induction l with
          | nil => exact fun o _ _ _ => ⟨New.refl _ _, fun p hp => by cases hp⟩
          | cons p r ih =>
            intro o hl hN hlen
            have hfo : ts.length - o.length < f := by omega
            have h1 := go_closed hA f o p.val hN (hl p (.head _)) hfo
            have h2 := ih (go ts f o p.val) (fun q hq => hl q (.tail _ hq)) (go_nm hA f o p.val hN (hl p (.head _))) (Nat.le_trans hlen (go_pre ts f o p.val).length_le)
            refine ⟨h1.trans h2.1 (goes_pre ts f r _), fun q hq h4 => ?_⟩
            rcases List.mem_cons.1 hq with rfl | hq
            · obtain ⟨f', rfl⟩ : ∃ f', f = f' + 1 := ⟨f - 1, by omega⟩
              exact (goes_pre ts _ r _).subset (go_mem ts f' o q.val h4)
            · exact h2.2 q hq h4
        obtain ⟨k1, k2⟩ := key ts[v.a.toNat] (ord ++ [v.a.toNat]) (hA _ (List.getElem_mem hlt)) hN1 (by simp)
        intro a ha hn t ht p hp hp4
        by_cases hb : a ∈ ord ++ [v.a.toNat]
        · rcases List.mem_append.1 hb with hb | hb
          · exact absurd hb hn
          · rw [List.mem_singleton] at hb
            subst hb
            rw [hix] at ht; have e := Option.some.inj ht; subst e
            exact k2 p hp hp4
        · exact k1 a ha hb t ht p hp hp4
    · rw [go_leaf h4]; exact New.refl _ _
def nPr (ord : List Nat) (p : Pr) : Pr := ⟨p.key, ren ord p.val⟩
/-- The tables in the order in which they are met, their values renamed. -/
def cTs (ts : List (List Pr)) (ord : List Nat) : List (List Pr) := ord.map fun a => (ts.getD a []).map (nPr ord)
/-- A graph's order. -/
def ordOf (ts : List (List Pr)) (v : V) : List Nat := go ts (ts.length + 1) [] v
theorem nm_nil (n : Nat) : Nm n [] := ⟨List.nodup_nil, fun a h => by cases h⟩
theorem ordOf_nm {ts : List (List Pr)} (hA : AllIn ts) {v : V} (hv : In ts.length v) : Nm ts.length (ordOf ts v) := go_nm hA _ _ _ (nm_nil _) hv
theorem ordOf_in {ts : List (List Pr)} (hA : AllIn ts) {v : V} (hv : In ts.length v) {a : Nat} (ha : a ∈ ordOf ts v) {t : List Pr} (ht : ts[a]? = some t) {p : Pr} (hp : p ∈ t) (h4 : p.val.k = 4) : p.val.a.toNat ∈ ordOf ts v :=
  go_closed hA _ _ _ (nm_nil _) hv (by simp) a ha (by simp) t ht p hp h4
/-- The numbers, as a row: -1 where there is none. -/
def numL (n : Nat) (ord : List Nat) : List Value := (List.range n).map fun a => .int .i64 (if a ∈ ord then (ord.idxOf a : Int) else -1)
theorem numL_len (n : Nat) (ord : List Nat) : (numL n ord).length = n := by simp [numL]
theorem numL_get {n : Nat} {ord : List Nat} {a : Nat} (h : a < n) : (numL n ord)[a]? = some (.int .i64 (if a ∈ ord then (ord.idxOf a : Int) else -1)) := by simp [numL, h]
theorem numL_set {n : Nat} {ord : List Nat} {a : Nat} (h : a < n) (hn : a ∉ ord) : setL (numL n ord) a [.int .i64 (ord.length : Int)] = numL n (ord ++ [a]) := by
  apply List.ext_getElem?
  intro j
  rw [setL_get _ _ _ (by simp [numL_len]; omega)]
  by_cases hj : j < n
  · rw [numL_get hj, numL_get hj]
    by_cases e : j = a
    · subst e
      rw [if_pos (by simp), if_pos (by simp), List.idxOf_append, if_neg hn]
      simp
    · rw [if_neg (by simp; omega)]
      have : j ∈ ord ++ [a] ↔ j ∈ ord := by simp [e]
      simp only [this]
      split
      · rename_i hm; rw [List.idxOf_append, if_pos hm]
      · rfl
  · have h1 : (numL n (ord ++ [a]))[j]? = none := by simp [numL]; omega
    have h2 : (numL n ord)[j]? = none := by simp [numL]; omega
    rw [h1, h2, if_neg (by simp; omega)]
end Go.Sy
