/- The specification's freezer: its state; how often tables are led to. No condition. -/
import Derived.Test.YtkamfnmbidnhdaaDoorSqAG
import Derived.Test.YtkamfnmbidnhdaaDoorSqAE
import Derived.Test.YtkamfnmbidnhdaaDoorSqAD
import Derived.WideLaws
import Derived.Defers
import Derived.Recover
import Derived.Test.YtkamfnmbidnhdaaDoorSqAF
import Derived.Shelf.Small.Strs
import Derived.Test.YtkamfnmbidnhdaaDoorProg
import Derived.Deep.Slices
import Derived.ChangeArms
import Derived.Carry
import Derived.WideShapes
set_option linter.unusedVariables false
set_option linter.unusedSimpArgs false
set_option linter.unusedSectionVars false
namespace Go.Proofs.YtkamfnmbidnhdaaDoor
open Go.Sy
set_option maxRecDepth 100000
set_option maxHeartbeats 4000000
set_option linter.unusedVariables false
set_option linter.unusedSimpArgs false
theorem zero3 : ∀ u : World, (zeroValue 3).run Tryd.prog u = .ok (.int .i64 0) u := fun u => rfl
theorem map85 : Tryd.prog.underlying 143 = some (.map 48 3) := by kernel_rfl
theorem map88 : Tryd.prog.underlying 90 = some (.map 3 3) := by kernel_rfl
theorem implOk (v : V) (ts : List (List Pr)) (A : Option Addr) (n c : Nat) (h : Hp) (hP : Tabs h A n ts) : TriS Tryd.prog 67 [.ag (gsv v A n c)] [] h (fun y : Bool => .v (.bool y)) (fun _ => []) (fun y h' => y = decide (GOk v ts) ∧ Le h h') := by
  obtain rfl := hP.len
  refine enterS Tryd.func67 rfl (n := 73) rfl rfl (fun k N => ?_)
  repeat' (first | (refine r_pure hT rfl rfl rfl rfl ?_) | (refine r_new hT rfl rfl rfl rfl ?_) | (refine r_write hT rfl rfl rfl ?_) | (refine r_nil ?_) | (refine q_nil ?_) | (refine p_call (valOk v ts.length _) rfl rfl rfl rfl rfl (hC _ rfl) rfl rfl rfl ?_) | (refine r_arith rfl rfl rfl rfl rfl rfl rfl (by omega) ?_) | (with_reducible refine r_seq ?_) | (with_reducible refine x_then ?_) | (with_reducible refine r_region ?_) | (refine r_draw hM (by kernel_rfl) ?_) | (with_reducible refine r_skip ?_) | (with_reducible refine r_ret ?_) | (with_reducible refine x_then_ret ?_) | (with_reducible refine r_block ?_) | (with_reducible refine x_block ?_) | (with_reducible refine x_block_ret ?_) | (with_reducible refine r_exit ?_) | (with_reducible refine x_then_exit ?_) | (with_reducible refine x_block_here ?_) | (refine x_block_past rfl ?_) | (refine c_yes rfl (by omega) ?_) | (refine c_no rfl (by omega) ?_) | (refine c_no rfl (fun h => h rfl) ?_) | (refine r_cond_false rfl ?_) | (refine r_cond_true rfl ?_) | (refine r_cond_dec rfl (fun _ => ?_) (fun _ => ?_)) | (refine r_cond_true rfl ?_) | (refine r_cond_false rfl ?_) | (refine c_not rfl (fun _ => ?_) (fun _ => ?_)) | (refine r_off rfl rfl rfl ?_) | (refine q_guard rfl rfl (fun _ => ?_) (fun _ => ?_)) | (refine q_guardn rfl rfl (fun _ => ?_) (fun _ => ?_)))
  · exact r_fin hT rfl _ rfl rfl rfl trivial rfl ⟨gok_not rfl (fun g => by have := g.1; omega), Le.refl _⟩
  · rename_i h1 h2
    exact r_fin hT rfl _ rfl rfl rfl trivial rfl ⟨gok_not rfl (fun g => h2 g.2.1), Le.refl _⟩
  rename_i h1 h2
  refine r_loop (γ := Nat × Hp) (fun g => (g.1 ≤ ts.length ∧ ∀ t ∈ ts.take g.1, TOk t ts.length) ∧ Le h g.2) (fun g => [(1, .p 1 0), (2, .v (.bool false)), (3, .v (.int .i64 ts.length)), (22, .v (.slice A ts.length c)), (23, .v (.int .i64 ts.length)), (24, .v (.int .i64 g.1))])
    (fun _ => [(1, ⟨none, gsv v A ts.length c, 51⟩)]) (fun g => g.2) (fun g => ts.length - g.1) (0, h) ⟨⟨Nat.zero_le _, by simp⟩, Le.refl _⟩ (into rfl ⟨rfl, rfl, rfl, rfl, rfl, rfl, trivial⟩ ⟨rfl, trivial⟩ rfl rfl) ?_
  rintro ⟨i, u⟩ ⟨⟨hi, hg⟩, hle⟩
  dsimp only at *
  by_cases hlt : i < ts.length
  · obtain ⟨b, off, A1, n1, c1, t, rfl, hd, hix, hm, hat, hc1, hp1⟩ := (hP.le hle).elem hlt
    obtain rfl := hp1.1
    repeat' (first | (refine r_pure hT rfl rfl rfl rfl ?_) | (refine r_new hT rfl rfl rfl rfl ?_) | (refine r_write hT rfl rfl rfl ?_) | (refine r_nil ?_) | (refine q_nil ?_) | (refine r_indexN hT rfl rfl rfl rfl rfl rfl rfl rfl rfl (by omega) ?_) | (refine r_load hT hat rfl rfl rfl rfl rfl (Nat.add_zero _).symm rfl rfl rfl rfl rfl ?_) | (refine r_mkmap rfl rfl rfl rfl (fun g hg0 => ?_)) | (refine r_arith rfl rfl rfl rfl rfl rfl rfl (by omega) ?_) | (with_reducible refine r_seq ?_) | (with_reducible refine x_then ?_) | (with_reducible refine r_region ?_) | (refine r_draw hM (by kernel_rfl) ?_) | (with_reducible refine r_skip ?_) | (with_reducible refine r_ret ?_) | (with_reducible refine x_then_ret ?_) | (with_reducible refine r_block ?_) | (with_reducible refine x_block ?_) | (with_reducible refine x_block_ret ?_) | (with_reducible refine r_exit ?_) | (with_reducible refine x_then_exit ?_) | (with_reducible refine x_block_here ?_) | (refine x_block_past rfl ?_) | (refine c_yes rfl (by omega) ?_) | (refine c_no rfl (by omega) ?_) | (refine c_no rfl (fun h => h rfl) ?_) | (refine r_cond_false rfl ?_) | (refine r_cond_true rfl ?_) | (refine r_cond_dec rfl (fun _ => ?_) (fun _ => ?_)) | (refine r_cond_true rfl ?_) | (refine r_cond_false rfl ?_) | (refine c_not rfl (fun _ => ?_) (fun _ => ?_)) | (refine r_off rfl rfl rfl ?_) | (refine q_guard rfl rfl (fun _ => ?_) (fun _ => ?_)) | (refine q_guardn rfl rfl (fun _ => ?_) (fun _ => ?_)))
    · exact r_fin hT rfl _ rfl rfl rfl trivial rfl ⟨gok_not rfl (gok_no_t hm fun g => by have := g.1; omega), hle⟩
    rename_i x1
    have hng : h g = none := by
      cases hh : h g with
      | none => rfl
      | some o => have := hle _ _ hh; rw [hg0] at this; cases this
    refine r_loop (γ := (Nat × Hp) × List (V × Int)) (fun x => (x.1.1 ≤ t.length ∧ (∀ p ∈ t.take x.1.1, POk p ts.length) ∧ ((t.take x.1.1).map (·.key)).Nodup) ∧ Le u x.1.2 ∧ MAt Tryd.prog vKey x.1.2 g x.2 ∧ ∀ y, mget x.2 y = if y ∈ (t.take x.1.1).map (·.key) then 1 else 0)
      (fun x => [(1, .p 1 0), (2, .v (.bool false)), (3, .v (.int .i64 ts.length)), (5, .p 5 0), (6, .v (.map (some g))), (22, .v (.slice (some ⟨b, off, none⟩) ts.length c)), (23, .v (.int .i64 ts.length)), (24, .v (.int .i64 i)),
        (34, .v (.slice A1 t.length c1)), (35, .v (.int .i64 t.length)), (36, .v (.int .i64 x.1.1))])
      (fun _ => [(5, ⟨none, [.v (.slice A1 t.length c1)], 59⟩), (1, ⟨none, gsv v (some ⟨b, off, none⟩) ts.length c, 51⟩)]) (fun x => x.1.2) (fun x => t.length - x.1.1) ((0, upd u g (.map #[] 0)), []) ⟨⟨by simp, by simp, by simp⟩, (Le.refl u).upd hg0, MAt.made .., fun y => by simp [mget]⟩
      (into rfl ⟨rfl, rfl, rfl, rfl, rfl, rfl, rfl, rfl, rfl, rfl, rfl, trivial⟩ ⟨rfl, rfl, trivial⟩ rfl rfl) ?_
    rintro ⟨⟨j, u1⟩, m⟩ ⟨⟨hj, hg2, hnd⟩, hle1, hMm, hmg⟩
    dsimp only at *
    by_cases hlt2 : j < t.length
    · obtain ⟨b2, off2, p, rfl, hd2, hix2, hm2, hat2⟩ := (hp1.le hle1).elem Pr.c_len hlt2
      have hmk := hmg p.key
      have hmk2 : mget m p.key = 0 ∨ mget m p.key = 1 := by rw [hmk]; split <;> simp
      have hleh : Le u u1 := hle1
      repeat' (first | (refine r_pure hT rfl rfl rfl rfl ?_) | (refine r_new hT rfl rfl rfl rfl ?_) | (refine r_write hT rfl rfl rfl ?_) | (refine r_nil ?_) | (refine q_nil ?_) | (refine r_indexN hT rfl rfl rfl rfl rfl rfl rfl rfl rfl (by omega) ?_) | (refine r_load hT hat2 rfl rfl rfl rfl rfl (Nat.add_zero _).symm rfl rfl rfl rfl rfl ?_) | (refine p_call (keyOk p.key _) rfl rfl rfl rfl rfl (hC _ rfl) rfl rfl rfl ?_) | (refine p_call (valOk p.val ts.length _) rfl rfl rfl rfl rfl (hC _ rfl) rfl rfl rfl ?_) | (refine r_cut (γ := Hp) (fun x => MAt Tryd.prog vKey x g (mset m p.key (mget m p.key + 1)) ∧ Le u x) (fun _ => [(1, .p 1 0), (2, .v (.bool false)), (3, .v (.int .i64 ts.length)), (5, .p 5 0), (6, .v (.map (some g))), (8, .p 8 0), (22, .v (.slice (some ⟨b, off, none⟩) ts.length c)), (23, .v (.int .i64 ts.length)), (24, .v (.int .i64 i)), (34, .v (.slice (some ⟨b2, off2, none⟩) t.length c1)), (35, .v (.int .i64 t.length)), (36, .v (.int .i64 j))]) (fun _ => [(8, ⟨none, p.sv, 61⟩), (5, ⟨none, [.v (.slice (some ⟨b2, off2, none⟩) t.length c1)], 59⟩), (1, ⟨none, gsv v (some ⟨b, off, none⟩) ts.length c, 51⟩)]) (fun x => x) (r_many [0, 1, 2] [7] u hleh hM (by kernel_rfl) rfl (by kernel_rfl) rfl rfl rfl (fun β0 => ?_)) (fun u9 hu9 => ?_)) | (refine r_look vKeyOps p.key hMm map85 zero3 rfl rfl rfl rfl rfl rfl rfl ?_) | ((refine r_entry vKeyOps p.key hMm map85 zero3 rfl rfl rfl rfl rfl rfl rfl (fun u2 st m' hS hMm hmg' hu2 => ?_) ; have hleh := hleh.off hg0 hu2)) | ((refine r_estore p.key hS rfl rfl rfl rfl rfl rfl (fun u3 hMm hu3 => ?_) ; have hleh := hleh.off hg0 hu3)) | (refine m_keep hleh ⟨rfl, rfl, rfl, trivial⟩ rfl rfl ?_) | (refine m_late rfl rfl ?_) | (refine x_cut (γ := Hp) u3 ⟨by first | exact hMm | (rw [hmg'] at hMm; exact hMm), hleh⟩ (into rfl ⟨rfl, rfl, rfl, rfl, rfl, rfl, rfl, rfl, rfl, rfl, rfl, rfl, trivial⟩ ⟨rfl, rfl, rfl, trivial⟩ rfl rfl)) | (refine r_look vKeyOps p.key hu9.1 map85 zero3 rfl rfl rfl rfl rfl rfl rfl ?_) | (refine r_arith rfl rfl rfl rfl rfl rfl rfl (by omega) ?_) | (with_reducible refine r_seq ?_) | (with_reducible refine x_then ?_) | (with_reducible refine r_region ?_) | (with_reducible refine r_skip ?_) | (with_reducible refine r_ret ?_) | (with_reducible refine x_then_ret ?_) | (with_reducible refine r_block ?_) | (with_reducible refine x_block ?_) | (with_reducible refine x_block_ret ?_) | (with_reducible refine r_exit ?_) | (with_reducible refine x_then_exit ?_) | (with_reducible refine x_block_here ?_) | (refine x_block_past rfl ?_) | (refine c_yes rfl (by omega) ?_) | (refine c_no rfl (by omega) ?_) | (refine c_no rfl (fun h => h rfl) ?_) | (refine r_cond_false rfl ?_) | (refine r_cond_true rfl ?_) | (refine r_cond_dec rfl (fun _ => ?_) (fun _ => ?_)) | (refine r_cond_true rfl ?_) | (refine r_cond_false rfl ?_) | (refine c_not rfl (fun _ => ?_) (fun _ => ?_)) | (refine r_off rfl rfl rfl ?_) | (refine q_guard rfl rfl (fun _ => ?_) (fun _ => ?_)) | (refine q_guardn rfl rfl (fun _ => ?_) (fun _ => ?_)) | (refine s_nil ?_) | (with_reducible refine a_full ?_) | (refine m_step rfl rfl (List.cons_ne_nil _ _) ?_) | (refine allR_cons rfl ?_ ?_) | (exact allR_nil) | (refine m_end rfl rfl rfl ?_))
      · rename_i y1; exact r_fin hT rfl _ rfl rfl rfl trivial rfl ⟨gok_not rfl (gok_no_t hm (tok_no_p hm2 fun g => y1 g.1)), hle.trans hu9.2⟩
      · rename_i y1 y2; exact r_fin hT rfl _ rfl rfl rfl trivial rfl ⟨gok_not rfl (gok_no_t hm (tok_no_p hm2 fun g => y2 g.2.1)), hle.trans hu9.2⟩
      · rename_i y1 y2 y3; exact r_fin hT rfl _ rfl rfl rfl trivial rfl ⟨gok_not rfl (gok_no_t hm (tok_no_p hm2 fun g => g.2.2 y3)), hle.trans hu9.2⟩
      · rename_i y1 y2 y3 y4
        rw [mget_mset, if_pos rfl, hmk] at y4
        have hin : p.key ∈ (t.take j).map (·.key) := by
          by_cases hh : p.key ∈ (t.take j).map (·.key)
          · exact hh
          · rw [if_neg hh] at y4; omega
        exact r_fin hT rfl _ rfl rfl rfl trivial rfl ⟨gok_not rfl (gok_no_t hm fun g => ((nodup_next hix2).1 (nodup_take g.2.2 (j + 1))).2 hin), hle.trans hu9.2⟩
      · rename_i y1 y2 y3 y4
        rw [mget_mset, if_pos rfl, hmk] at y4
        have hin : p.key ∉ (t.take j).map (·.key) := fun hh => by rw [if_pos hh] at y4; omega
        rw [if_neg hin] at hmk
        refine x_round ((j + 1, u9), mset m p.key (mget m p.key + 1)) ⟨⟨hlt2, tok_take hix2 hg2 ⟨y1, y2, y3⟩, (nodup_next hix2).2 ⟨hnd, hin⟩⟩, hu9.2, hu9.1, fun y => ?_⟩ (by simp; omega) (into rfl ⟨rfl, rfl, rfl, rfl, rfl, rfl, rfl, rfl, rfl, rfl, rfl, trivial⟩ ⟨rfl, rfl, trivial⟩ rfl rfl)
        rw [mget_mset, hmk, keys_take hix2]
        by_cases hy : y = p.key
        · rw [if_pos hy, if_pos (by simp [hy])]; rfl
        · rw [if_neg hy, hmg y]
          have : y ∈ (t.take j).map (·.key) ++ [p.key] ↔ y ∈ (t.take j).map (·.key) := by simp [hy]
          simp only [this]
    · obtain rfl : j = t.length := by omega
      repeat' (first | (refine r_pure hT rfl rfl rfl rfl ?_) | (refine r_new hT rfl rfl rfl rfl ?_) | (refine r_write hT rfl rfl rfl ?_) | (refine r_nil ?_) | (refine q_nil ?_) | (refine r_arith rfl rfl rfl rfl rfl rfl rfl (by omega) ?_) | (with_reducible refine r_seq ?_) | (with_reducible refine x_then ?_) | (with_reducible refine r_region ?_) | (refine r_draw hM (by kernel_rfl) ?_) | (with_reducible refine r_skip ?_) | (with_reducible refine r_ret ?_) | (with_reducible refine x_then_ret ?_) | (with_reducible refine r_block ?_) | (with_reducible refine x_block ?_) | (with_reducible refine x_block_ret ?_) | (with_reducible refine r_exit ?_) | (with_reducible refine x_then_exit ?_) | (with_reducible refine x_block_here ?_) | (refine x_block_past rfl ?_) | (refine c_yes rfl (by omega) ?_) | (refine c_no rfl (by omega) ?_) | (refine c_no rfl (fun h => h rfl) ?_) | (refine r_cond_false rfl ?_) | (refine r_cond_true rfl ?_) | (refine r_cond_dec rfl (fun _ => ?_) (fun _ => ?_)) | (refine r_cond_true rfl ?_) | (refine r_cond_false rfl ?_) | (refine c_not rfl (fun _ => ?_) (fun _ => ?_)) | (refine r_off rfl rfl rfl ?_) | (refine q_guard rfl rfl (fun _ => ?_) (fun _ => ?_)) | (refine q_guardn rfl rfl (fun _ => ?_) (fun _ => ?_)))
      exact x_round (i + 1, u1) ⟨⟨hlt, by
        rw [take_snoc hix]
        intro s hs
        rcases List.mem_append.1 hs with hs | hs
        · exact hg s hs
        · rw [List.mem_singleton] at hs; rw [hs]; exact ⟨by omega, by simpa using hg2, by simpa using hnd⟩⟩, hle.trans hle1⟩ (by simp; omega) (into rfl ⟨rfl, rfl, rfl, rfl, rfl, rfl, trivial⟩ ⟨rfl, trivial⟩ rfl rfl)
  · repeat' (first | (refine r_pure hT rfl rfl rfl rfl ?_) | (refine r_new hT rfl rfl rfl rfl ?_) | (refine r_write hT rfl rfl rfl ?_) | (refine r_nil ?_) | (refine q_nil ?_) | (refine r_arith rfl rfl rfl rfl rfl rfl rfl (by omega) ?_) | (with_reducible refine r_seq ?_) | (with_reducible refine x_then ?_) | (with_reducible refine r_region ?_) | (refine r_draw hM (by kernel_rfl) ?_) | (with_reducible refine r_skip ?_) | (with_reducible refine r_ret ?_) | (with_reducible refine x_then_ret ?_) | (with_reducible refine r_block ?_) | (with_reducible refine x_block ?_) | (with_reducible refine x_block_ret ?_) | (with_reducible refine r_exit ?_) | (with_reducible refine x_then_exit ?_) | (with_reducible refine x_block_here ?_) | (refine x_block_past rfl ?_) | (refine c_yes rfl (by omega) ?_) | (refine c_no rfl (by omega) ?_) | (refine c_no rfl (fun h => h rfl) ?_) | (refine r_cond_false rfl ?_) | (refine r_cond_true rfl ?_) | (refine r_cond_dec rfl (fun _ => ?_) (fun _ => ?_)) | (refine r_cond_true rfl ?_) | (refine r_cond_false rfl ?_) | (refine c_not rfl (fun _ => ?_) (fun _ => ?_)) | (refine r_off rfl rfl rfl ?_) | (refine q_guard rfl rfl (fun _ => ?_) (fun _ => ?_)) | (refine q_guardn rfl rfl (fun _ => ?_) (fun _ => ?_)))
    obtain rfl : i = ts.length := by omega
    exact r_fin hT rfl _ rfl rfl rfl trivial rfl ⟨(decide_eq_true ⟨by omega, h2, by simpa using hg⟩).symm, hle⟩
end Go.Proofs.YtkamfnmbidnhdaaDoor
namespace Go.Proofs.YtkamfnmbidnhdaaDoor
open Go.Sy
set_option maxRecDepth 100000
set_option maxHeartbeats 4000000
set_option linter.unusedVariables false
set_option linter.unusedSimpArgs false
theorem own_at {u : Hp} {b off n c e sz : Nat} {cs : List Value} (h : Own u (some ⟨b, off, none⟩) n c e sz cs) {i : Nat} {v : Value} (hi : cs[i]? = some v) : At u b (off + i * 1) [v] := by
  obtain ⟨_, arr, g1, _, g3⟩ := h.row _ rfl
  refine ⟨arr, _, _, g1, fun j x hj => ?_⟩
  cases j with
  | zero => simp only [List.getElem?_cons_zero] at hj; rw [← hj]; have := g3 i v hi; simpa using this
  | succ j => simp at hj
def ordL (ord : List Nat) : List Value := ord.map fun (a : Nat) => .int .i64 (a : Int)
theorem ordL_snoc (ord : List Nat) (a : Nat) : ordL (ord ++ [a]) = ordL ord ++ [.int .i64 (a : Int)] := by simp [ordL]
def wCells (g : V) (A : Option Addr) (n c bn offn cn : Nat) (Ao : Option Addr) (m co : Nat) : List Value :=
  [.int .i64 g.k, .int .i64 g.n, .string g.s, .int .i64 g.a, .slice A n c, .slice (some ⟨bn, offn, none⟩) n cn, .slice Ao m co]
/-- What the walk of a graph holds: the graph, the numbers, the order. -/
structure WSt (h0 u : Hp) (pb : Nat) (g : V) (A : Option Addr) (c : Nat) (ts : List (List Pr)) (bn offn cn : Nat) (Ao : Option Addr) (co : Nat) (ord : List Nat) : Prop where
  cell : u pb = some (.cells (wCells g A ts.length c bn offn cn Ao ord.length co).toArray 172 (0, 0))
  no : Own u (some ⟨bn, offn, none⟩) ts.length cn 3 1 (numL ts.length ord)
  od : Own u Ao ord.length co 3 1 (ordL ord)
  base : Le h0 u
  hp : h0 pb = none
  hn : h0 bn = none
  ho : Off h0 Ao
  ap : pb ≠ bn ∧ blk Ao ≠ some pb ∧ blk Ao ≠ some bn
  tabs : Tabs h0 A ts.length ts
theorem WSt.at_ {h0 u : Hp} {pb : Nat} {g : V} {A : Option Addr} {c : Nat} {ts : List (List Pr)} {bn offn cn : Nat} {Ao : Option Addr} {co : Nat} {ord : List Nat} (h : WSt h0 u pb g A c ts bn offn cn Ao co ord) : At u pb 0 (wCells g A ts.length c bn offn cn Ao ord.length co) :=
  ⟨_, _, _, h.cell, fun j v hj => by simpa using hj⟩
def WS (pb bn : Nat) (Ao : Option Addr) : Nat → Prop := fun b => b = pb ∨ b = bn ∨ blk Ao = some b
/-- One table more. -/
theorem WSt.push {h0 u u1 u3 : Hp} {pb : Nat} {g : V} {A : Option Addr} {c : Nat} {ts : List (List Pr)} {bn offn cn : Nat} {Ao A' : Option Addr} {co c' : Nat} {ord : List Nat} {a b2 : Nat} {o2 : Obj} (h : WSt h0 u pb g A c ts bn offn cn Ao co ord) (ha : a < ts.length) (hn : a ∉ ord)
    (hno : Own u1 (some ⟨bn, offn, none⟩) ts.length cn 3 1 (setL (numL ts.length ord) a [.int .i64 (ord.length : Int)])) (hu1 : ∀ x, x ≠ bn → u1 x = u x) (hb2 : u1 b2 = none)
    (hO : Own u3 A' (ord.length + 1) c' 3 1 (ordL ord ++ [.int .i64 (a : Int)])) (hG : Grown (upd u1 b2 o2) u3 Ao A') :
    (u3 pb = some (.cells (wCells g A ts.length c bn offn cn Ao ord.length co).toArray 172 (0, 0))) ∧
    WSt h0 (upd u3 pb (.cells (wCells g A ts.length c bn offn cn A' (ord.length + 1) c').toArray 172 (0, 0))) pb g A c ts bn offn cn A' c' (ord ++ [a]) ∧ Keep u (WS pb bn Ao) (upd u3 pb (.cells (wCells g A ts.length c bn offn cn A' (ord.length + 1) c').toArray 172 (0, 0))) (WS pb bn A') := by
  have hK := hG.keep
  have k1 : ∀ x o, u1 x = some o → blk Ao ≠ some x → u3 x = some o ∧ blk A' ≠ some x := fun x o hx hb => hK x o (by rw [upd_ne (fun e => by subst e; rw [hb2] at hx; cases hx)]; exact hx) hb
  have hc1 : u1 pb = _ := (hu1 pb h.ap.1).trans h.cell
  obtain ⟨c3, c4⟩ := k1 pb _ hc1 h.ap.2.1
  obtain ⟨_, arrn, n1, _⟩ := hno.row _ rfl
  obtain ⟨c5, c6⟩ := k1 bn _ n1 h.ap.2.2
  have kk : Keep u (WS pb bn Ao) (upd u3 pb (.cells (wCells g A ts.length c bn offn cn A' (ord.length + 1) c').toArray 172 (0, 0))) (WS pb bn A') := fun x o hx hs => by
    simp only [WS, not_or] at hs ⊢
    obtain ⟨d1, d2⟩ := k1 x o (by rw [hu1 x hs.2.1]; exact hx) hs.2.2
    exact ⟨by rw [upd_ne hs.1]; exact d1, hs.1, hs.2.1, d2⟩
  have hS : ∀ b, WS pb bn Ao b → h0 b = none := fun b hb => by
    rcases hb with rfl | rfl | hb
    · exact h.hp
    · exact h.hn
    · exact h.ho b hb
  obtain ⟨e1, e2⟩ := kk.le h.base hS
  refine ⟨c3, ⟨by rw [upd_here]; simp, ?_, ?_, e1, h.hp, h.hn, fun b hb => e2 b (.inr (.inr hb)), ⟨h.ap.1, c4, c6⟩, h.tabs⟩, kk⟩
  · rw [← numL_set ha hn]
    refine hno.le fun b o hb ho => ?_
    have e := Option.some.inj hb; subst e
    rw [upd_ne (Ne.symm h.ap.1)]
    exact (k1 _ o ho h.ap.2.2).1
  · rw [ordL_snoc]
    have hl : (ord ++ [a]).length = ord.length + 1 := by simp
    rw [hl]
    refine hO.le fun b o hb ho => ?_
    rw [upd_ne (fun e => by subst e; exact c4 hb)]; exact ho
def part (u : Hp) (A : Option Addr) : Hp := fun x => if blk A = some x then none else u x
end Go.Proofs.YtkamfnmbidnhdaaDoor
namespace Go.Proofs.YtkamfnmbidnhdaaDoor
open Go.Sy
set_option maxRecDepth 100000
set_option maxHeartbeats 4000000
set_option linter.unusedVariables false
set_option linter.unusedSimpArgs false
structure FA where
  pb : Nat
  g : V
  A : Option Addr
  c : Nat
  bl : Nat
  ol : Nat
  cl : Nat
  bb : Nat
  ob : Nat
  cb : Nat
def fCells (a : FA) (n : Nat) (nx : Int) (Ao : Option Addr) (m co : Nat) : List Value :=
  [.int .i64 a.g.k, .int .i64 a.g.n, .string a.g.s, .int .i64 a.g.a, .slice a.A n a.c, .slice (some ⟨a.bl, a.ol, none⟩) n a.cl, .slice (some ⟨a.bb, a.ob, none⟩) n a.cb, .int .i64 nx, .slice Ao m co]
/-- What the freezer holds: the graph, the counts, the labels, how many there are, the bytes. -/
structure FSt (h0 u : Hp) (a : FA) (ts : List (List Pr)) (Ao : Option Addr) (co : Nat) (rs L : List Nat) (o : List UInt8) : Prop where
  cell : u a.pb = some (.cells (fCells a ts.length (L.length : Int) Ao o.length co).toArray 140 (0, 0))
  led : Own u (some ⟨a.bl, a.ol, none⟩) ts.length a.cl 3 1 (ledV ts.length rs)
  lab : Own u (some ⟨a.bb, a.ob, none⟩) ts.length a.cb 3 1 (labV ts.length L)
  out : Own u Ao o.length co 5 1 (o.flatMap bc1)
  base : Le h0 u
  hp : h0 a.pb = none
  hl : h0 a.bl = none
  hb : h0 a.bb = none
  ho : Off h0 Ao
  ap : a.pb ≠ a.bl ∧ a.pb ≠ a.bb ∧ a.bl ≠ a.bb ∧ blk Ao ≠ some a.pb ∧ blk Ao ≠ some a.bl ∧ blk Ao ≠ some a.bb
  tabs : Tabs h0 a.A ts.length ts
theorem FSt.at_ {h0 u : Hp} {a : FA} {ts : List (List Pr)} {Ao : Option Addr} {co : Nat} {rs L : List Nat} {o : List UInt8} (h : FSt h0 u a ts Ao co rs L o) : At u a.pb 0 (fCells a ts.length (L.length : Int) Ao o.length co) :=
  ⟨_, _, _, h.cell, fun j v hj => by simpa using hj⟩
theorem FSt.setLed {h0 u u1 : Hp} {a : FA} {ts : List (List Pr)} {Ao : Option Addr} {co : Nat} {rs rs' L : List Nat} {o : List UInt8} (h : FSt h0 u a ts Ao co rs L o) (hO : Own u1 (some ⟨a.bl, a.ol, none⟩) ts.length a.cl 3 1 (ledV ts.length rs')) (hu : ∀ x, x ≠ a.bl → u1 x = u x) : FSt h0 u1 a ts Ao co rs' L o :=
  ⟨by rw [hu _ h.ap.1]; exact h.cell, hO, h.lab.le fun b o hb ho => (by have e := Option.some.inj hb; subst e; rw [hu _ (Ne.symm h.ap.2.2.1)]; exact ho), h.out.le fun b o hb ho => (by rw [hu _ (fun e => h.ap.2.2.2.2.1 (by rw [← e]; exact hb))]; exact ho),
    fun x o hx => by rw [hu x (fun e => by rw [e, h.hl] at hx; cases hx)]; exact h.base x o hx, h.hp, h.hl, h.hb, h.ho, h.ap, h.tabs⟩
end Go.Proofs.YtkamfnmbidnhdaaDoor
/- The specification's freezer: its writer, its values. No condition. -/
namespace Go.Proofs.YtkamfnmbidnhdaaDoor
open Go.Sy
set_option maxRecDepth 100000
set_option maxHeartbeats 8000000
set_option linter.unusedVariables false
set_option linter.unusedSimpArgs false
section
variable {h0 u u1 u2 u3 : Hp} {a : FA} {ts : List (List Pr)} {Ao A' : Option Addr} {co c' : Nat} {rs L : List Nat} {o : List UInt8} {s : ByteArray}
theorem FSt.push (h : FSt h0 u a ts Ao co rs L o) (hO : Own u3 A' (o.length + s.size) c' 5 1 (o.flatMap bc1 ++ byteCells s)) (hG : Grown u u3 Ao A') :
    u3 a.pb = some (.cells (fCells a ts.length (L.length : Int) Ao o.length co).toArray 140 (0, 0)) ∧ FSt h0 (upd u3 a.pb (.cells (fCells a ts.length (L.length : Int) A' (o.length + s.size) c').toArray 140 (0, 0))) a ts A' c' rs L (o ++ s.data.toList) := by
  obtain ⟨g1, g2⟩ := ptw_grown hG (Le.refl u)
  have kk : ∀ x ox, u x = some ox → blk Ao ≠ some x → u3 x = some ox ∧ blk A' ≠ some x := fun x ox hx hne => by
    have h1 : ptw u Ao x = some ox := by unfold ptw; rw [if_neg hne]; exact hx
    exact ⟨g1 x ox h1, fun e => by rw [g2 x e] at h1; cases h1⟩
  obtain ⟨p1, p2, p3, p4, p5, p6⟩ := h.ap
  obtain ⟨c1, c2⟩ := kk _ _ h.cell p4
  obtain ⟨ol, hol⟩ := Option.ne_none_iff_exists'.1 (h.led.live rfl)
  obtain ⟨ob, hob⟩ := Option.ne_none_iff_exists'.1 (h.lab.live rfl)
  have hlb := kk _ _ hol p5
  have hbb := kk _ _ hob p6
  have hlen : (o ++ s.data.toList).length = o.length + s.size := by rw [List.length_append]; rfl
  refine ⟨c1, ⟨?_, ?_, ?_, ?_, ?_, h.hp, h.hl, h.hb, fun b hb => ?_, ⟨p1, p2, p3, c2, hlb.2, hbb.2⟩, h.tabs⟩⟩
  · rw [upd_here, hlen]
  · exact h.led.le fun b o hb ho => by
      have e := Option.some.inj hb; subst e
      rw [upd_ne (Ne.symm p1)]; exact (kk _ _ ho p5).1
  · exact h.lab.le fun b o hb ho => by
      have e := Option.some.inj hb; subst e
      rw [upd_ne (Ne.symm p2)]; exact (kk _ _ ho p6).1
  · rw [hlen, List.flatMap_append, bc1_bytes]
    exact hO.le fun b o hb ho => by rw [upd_ne (fun e => c2 (by rw [← e]; exact hb))]; exact ho
  · intro x ox hx
    rw [upd_ne (fun e => by rw [e, h.hp] at hx; cases hx)]
    exact (kk x ox (h.base x ox hx) (fun e => by rw [h.ho x e] at hx; cases hx)).1
  · cases hh : h0 b with
    | none => rfl
    | some ox => exact absurd hb (kk b ox (h.base b ox hh) (fun e => by rw [h.ho b e] at hh; cases hh)).2
end
end Go.Proofs.YtkamfnmbidnhdaaDoor
/- The specification's freezer: values. No condition. -/
namespace Go.Proofs.YtkamfnmbidnhdaaDoor
open Go.Sy
set_option maxRecDepth 100000
set_option maxHeartbeats 8000000
set_option linter.unusedVariables false
set_option linter.unusedSimpArgs false
def dcN (k : Nat) : List UInt8 := Lib.itoa (k : Int)
theorem dec_list (n : Int) : (dec n).data.toList = Lib.itoa n := rfl
/-- What is asked of the values. -/
def Fit (ts : List (List Pr)) : Prop := ∀ t ∈ ts, ∀ p ∈ t, p.key.fit ∧ p.val.fit
theorem bs_cat (a b : ByteArray) : (a ++ b).data.toList = a.data.toList ++ b.data.toList := by simp
end Go.Proofs.YtkamfnmbidnhdaaDoor
/- The length of a map; labels as a map. -/
namespace Go.Sy
set_option linter.unusedVariables false
set_option linter.unusedSimpArgs false
section
variable {P : Program} {F : Fr} {tm : Tm} {L : Lm} {u : Hp} {Q : Exit → Act → World → Prop} {κ : Type} [DecidableEq κ] {ke : κ → Value}
theorem r_maplen {q : Md} {l : List Oper} {o : Oper} {r : List Oper} {d : Nat} {t : TypeId} {x : Operand} {g : Nat} {m : List (κ × Int)} (hM : MAt P ke u g m) (ht : P.underlying t = some (.map (P.mapKeyOf t) (P.mapElemOf t))) (hl : (m.length : Int) ≤ 9223372036854775807)
    (hw : wantE l tm o = some true) (ho : o.dst = some d) (hn : Nat.blt d F.n.z = true) (hop : o.op = .call { callee := .builtin .len, args := #[x], argTypes := #[t] }) (hx : ev tm x = some (.v (.map (some g))))
    (next : Run P Q F ((d, .v (.int .i64 (m.length : Int))) :: tm) L u q l r) : Run P Q F tm L u q l (o :: r) := by
  refine op_pure hw ho hn (fun β a w ht' hd => ⟨?_, rfl⟩) next
  have h1 : a.eval x = .map (some g) := by rw [ev_ok ht' hx, SV.den]
  obtain ⟨es, clock, hb, he, _⟩ := (hM.imap hd).here
  have hlen : es.size = m.length := by
    have := congrArg List.length he
    simpa using this
  have hrun := run_len_map (P := P) w t o.type g es clock ht hb
  simp [execOp, hop, h1, resolve, invoke, builtin, hrun, hlen, SV.den, goInt]
end
def labF : Nat → List Nat → List (Int × Int)
  | _, [] => []
  | k, a :: r => ((a : Int), ((k + 1 : Nat) : Int)) :: labF (k + 1) r
def labM (L : List Nat) : List (Int × Int) := labF 0 L
theorem labF_get (a : Nat) : ∀ (k : Nat) (L : List Nat), mget (labF k L) (a : Int) = if a ∈ L then ((k + L.idxOf a + 1 : Nat) : Int) else 0
  | k, [] => rfl
  | k, b :: r => by
    have ih := labF_get a (k + 1) r
    by_cases e : a = b
    · subst e
      simp [labF, mget]
    · have e1 : mget (labF k (b :: r)) (a : Int) = mget (labF (k + 1) r) (a : Int) := by
        have : ¬ ((a : Int) = (b : Int)) := by omega
        simp [labF, mget, this]
      have e2 : (b == a) = false := by simp; omega
      rw [e1, ih, List.idxOf_cons, e2]
      simp only [List.mem_cons, e, false_or, cond_false]
      split
      · congr 1; omega
      · rfl
theorem labM_get (L : List Nat) (a : Nat) : mget (labM L) (a : Int) = if a ∈ L then ((L.idxOf a + 1 : Nat) : Int) else 0 := by
  unfold labM
  rw [labF_get]
  simp
theorem labF_snoc (a : Nat) : ∀ (k : Nat) (L : List Nat), labF k (L ++ [a]) = labF k L ++ [((a : Int), ((k + L.length + 1 : Nat) : Int))]
  | k, [] => rfl
  | k, b :: r => by
    rw [List.cons_append, labF, labF_snoc a (k + 1) r, labF, List.cons_append, List.length_cons]
    congr 4
    omega
theorem labF_keys : ∀ (k : Nat) (L : List Nat), (labF k L).map (·.1) = L.map fun a : Nat => (a : Int)
  | _, [] => rfl
  | k, b :: r => by rw [labF, List.map_cons, labF_keys (k + 1) r]; rfl
theorem labM_len (L : List Nat) : (labM L).length = L.length := by
  have := congrArg List.length (labF_keys 0 L)
  simpa [labM] using this
theorem labM_set {L : List Nat} {a : Nat} (h : a ∉ L) : mset (labM L) (a : Int) ((L.length + 1 : Nat) : Int) = labM (L ++ [a]) := by
  have hk : (a : Int) ∉ (labF 0 L).map (·.1) := fun hm => by
    rw [labF_keys] at hm
    obtain ⟨b, hb, e⟩ := List.mem_map.1 hm
    have e2 : b = a := by exact_mod_cast e
    exact h (e2 ▸ hb)
  unfold labM
  rw [mset_new _ _ hk, labF_snoc]
  simp
end Go.Sy
/- The walk by a symbolic frame: in a region that draws its order, operations that only read are taken first at any time. Over any program; no condition. -/
namespace Go.Sy
set_option linter.unusedVariables false
section
variable {P : Program} {T : List (Nat × TI)} {tm : Tm} {L : Lm} {u : Hp}
theorem RelT.moved {n : FN} {β β' : Nat → Nat} {a : Act} (hb : ∀ i, (kget L i).isSome = true → β' i = β i) (ht : RelT n L β tm a) : RelT n L β' tm a :=
  ⟨ht.size, by rw [ht.defers]; exact (dvs_same hb ht.dok).symm, ht.dok, fun t s hs => ⟨by rw [den_same hb s (ht.get t s hs).2]; exact (ht.get t s hs).1, (ht.get t s hs).2⟩⟩
theorem m_stillD {F0 : Fr} {u0 : Hp} {β0 : Nat → Nat} {pres : Nat → Bool} {Z : Act → World → Prop} {l lo : List Oper} {fuel : Nat} {lb lb' : List Bool} (π : List Nat) (hsel : Region.noSelect l.toArray = true) (hlo : selE l π = some lo)
    (hB : preD .any l.toArray pres π lb.toArray = true) (hl : lsB π lb = lb') (hu : Le u0 u) {fuel' : Nat} (hf' : Nat.beq fuel' (fuel + π.length) = true)
    (h : Run P (nf (fun a w => Cls F0 L u β0 w → ExL P l pres (Cls F0 L u0 β0) Z fuel lb' a w)) (fen F0 L β0) tm L u0 .still l lo) : St (fen F0 L β0) tm L u (ExL P l pres (Cls F0 L u0 β0) Z fuel' lb) := by
  obtain rfl := Nat.eq_of_beq_eq_true hf'
  intro β a w hf ht hd
  have hb : ∀ i, (kget L i).isSome = true → β0 i = β i := fun i hi => ((hf i (keysOf_get.2 hi)).1).symm
  have hd0 : Den β0 L u F0.k F0.N w := Den.moved hb hd
  have hfe : Fence (fen F0 L β0) L β0 := fun i hi => ⟨rfl, keysOf_get.1 hi⟩
  have hw : Den β0 L u0 F0.k F0.N w := hd0.weak hu
  have key := h β0 a w hfe (RelT.moved hb ht) hw
  subst hl
  refine wpAnyC_preDW hsel π lo _ a w fuel hlo hB hw (wpStillC_imp (fun a' h' => ?_) key)
  have := h' w hw hd0
  rw [lsB_eq]
  exact this
end
end Go.Sy
/- The walk by a symbolic frame: slices cut, nil compared, min, interfaces, deferred calls, panics. -/
namespace Go.Sy
set_option linter.unusedVariables false
set_option linter.unusedSimpArgs false
def subA (A : Option Addr) (c l sz : Nat) : Option Addr := if c = l then A else A.map (·.add (l * sz))
section
variable {P : Program} {T : List (Nat × TI)} {F : Fr} {tm : Tm} {L : Lm} {u : Hp} {n : FN} {N : World} {β : Nat → Nat} {k : Hp} {a : Act} {w : World} {Q : Exit → Act → World → Prop}
theorem Sl.sub {A : Option Addr} {m c sz l h : Nat} {cs : List Value} (hS : Sl u A m sz cs) (hl : l ≤ h) (hh : h ≤ m) (hc : m ≤ c) : Sl u (subA A c l sz) (h - l) sz ((cs.drop (l * sz)).take ((h - l) * sz)) := by
  have hlen := hS.len
  have hmul : h * sz ≤ m * sz := Nat.mul_le_mul_right _ hh
  have hsub : (h - l) * sz = h * sz - l * sz := Nat.sub_mul _ _ _
  have hml : l * sz ≤ h * sz := Nat.mul_le_mul_right _ hl
  refine ⟨by rw [List.length_take, List.length_drop, hlen]; omega, fun ha => ?_, fun a ha hne => ?_⟩
  · have : A = none := by
      unfold subA at ha
      split at ha
      · exact ha
      · simpa using ha
    have := hS.nil this
    omega
  · unfold subA at ha
    rw [if_neg (by omega)] at ha
    cases A with
    | none => simp at ha
    | some a0 =>
      simp only [Option.map_some, Option.some.injEq] at ha
      obtain ⟨h1, arr, t, fr, h2, h3⟩ := hS.at_ a0 rfl (by omega)
      obtain ⟨b, o, sp⟩ := a0
      simp only at h1; subst h1
      have hadd : (⟨b, o, none⟩ : Addr).add (l * sz) = ⟨b, o + l * sz, none⟩ := by simp only [Addr.add]; split <;> simp_all
      rw [hadd] at ha; subst ha
      refine ⟨rfl, arr, t, fr, h2, fun j v hj => ?_⟩
      rw [List.getElem?_take] at hj
      split at hj
      · rw [List.getElem?_drop] at hj
        have := h3 _ v hj
        rw [← Nat.add_assoc] at this; exact this
      · cases hj
theorem flat_drop {α : Type} {c : α → List Value} {sz : Nat} (hc : ∀ x, (c x).length = sz) : ∀ (i : Nat) (xs : List α), (xs.flatMap c).drop (i * sz) = (xs.drop i).flatMap c
  | 0, xs => by simp
  | i + 1, [] => by simp
  | i + 1, x :: xs => by
    rw [List.flatMap_cons, List.drop_succ_cons, ← flat_drop hc i xs, List.drop_append, List.drop_eq_nil_of_le (by rw [hc, Nat.add_mul]; omega), List.nil_append, hc]
    congr 1; rw [Nat.add_mul]; omega
theorem flat_take {α : Type} {c : α → List Value} {sz : Nat} (hc : ∀ x, (c x).length = sz) : ∀ (i : Nat) (xs : List α), (xs.flatMap c).take (i * sz) = (xs.take i).flatMap c
  | 0, xs => by simp
  | i + 1, [] => by simp
  | i + 1, x :: xs => by
    rw [List.flatMap_cons, List.take_succ_cons, List.flatMap_cons, ← flat_take hc i xs, List.take_append, List.take_of_length_le (by rw [hc, Nat.add_mul]; omega), hc]
    congr 2; rw [Nat.add_mul]; omega
theorem Rd.sub {α : Type} {c : α → List Value} {sz : Nat} (hc : ∀ x, (c x).length = sz) {A : Option Addr} {m cap l h : Nat} {xs : List α} (hS : Rd c sz u A m xs) (hl : l ≤ h) (hh : h ≤ m) (hcap : m ≤ cap) :
    Rd c sz u (subA A cap l sz) (h - l) ((xs.drop l).take (h - l)) := by
  obtain ⟨h1, h2⟩ := hS
  refine ⟨by rw [List.length_take, List.length_drop]; omega, ?_⟩
  have := h2.sub hl hh hcap
  rwa [flat_drop hc, flat_take hc] at this
theorem slice_run (hT : TOK P T) {t e : TypeId} {ti te : TI} (ht : kget T t = some ti) (hk : ti.kind = .slice e) (he : kget T e = some te) {A : Option Addr} {m c l h : Nat} {lo hi : Option Value} (hl : l ≤ h) (hh : h ≤ c)
    (h1 : (lo = none ∧ l = 0) ∨ ∃ kk, lo = some (.int kk (l : Int))) (h2 : (hi = none ∧ h = m) ∨ ∃ kk, hi = some (.int kk (h : Int))) :
    (Instr.sliceAt t (.slice A m c) lo hi none).run P w = .ok (.slice (subA A c l te.size) (h - l) (c - l)) w := by
  have hu := run_und (elem_of hT ht hk) w
  have hsz := run_size (hT e te he) w
  have hb : (Instr.sliceBounds true m c lo hi none).run P w = .ok (l, h, c) w := by
    rcases h1 with ⟨rfl, rfl⟩ | ⟨kk, rfl⟩ <;> rcases h2 with ⟨rfl, rfl⟩ | ⟨kk', rfl⟩ <;> simp [Instr.sliceBounds, Instr.sliceBound, asIntOf, hl, hh]
  unfold Instr.sliceAt Instr.slice
  simp only [Sem.run_bind, hu, Result.andThen_ok, hb, hsz, Sem.run_pure, subA]
/-- x[lo:] -/
theorem r_slice1 (hT : TOK P T) {q : Md} {l : List Oper} {o : Oper} {r : List Oper} {d : Nat} {t e : TypeId} {ti te : TI} {x y : Operand} {A : Option Addr} {m c lo : Nat} {k1 : IntKind}
    (hw : wantE l tm o = some true) (ho : o.dst = some d) (hn : Nat.blt d F.n.z = true) (hop : o.op = .slice t x (some y) none none) (ht : kget T t = some ti) (hk : ti.kind = .slice e) (he : kget T e = some te)
    (hx : ev tm x = some (.v (.slice A m c))) (hy : ev tm y = some (.v (.int k1 (lo : Int)))) (hl : lo ≤ m) (hh : m ≤ c)
    (next : Run P Q F ((d, .v (.slice (subA A c lo te.size) (m - lo) (c - lo))) :: tm) L u q l r) : Run P Q F tm L u q l (o :: r) := by
  refine op_pure hw ho hn (fun β a w ht' hd => ⟨?_, rfl⟩) next
  have := slice_run (P := P) (w := w) hT ht hk he (A := A) (m := m) (c := c) (lo := some (.int k1 (lo : Int))) (hi := none) hl hh (.inr ⟨_, rfl⟩) (.inl ⟨rfl, rfl⟩)
  simp [execOp, hop, ev_ok ht' hx, ev_ok ht' hy, SV.den, this]
/-- x[:hi] -/
theorem r_slice0 (hT : TOK P T) {q : Md} {l : List Oper} {o : Oper} {r : List Oper} {d : Nat} {t e : TypeId} {ti te : TI} {x z : Operand} {A : Option Addr} {m c hi : Nat} {k2 : IntKind}
    (hw : wantE l tm o = some true) (ho : o.dst = some d) (hn : Nat.blt d F.n.z = true) (hop : o.op = .slice t x none (some z) none) (ht : kget T t = some ti) (hk : ti.kind = .slice e) (he : kget T e = some te)
    (hx : ev tm x = some (.v (.slice A m c))) (hz : ev tm z = some (.v (.int k2 (hi : Int)))) (hh : hi ≤ c)
    (next : Run P Q F ((d, .v (.slice (subA A c 0 te.size) (hi - 0) (c - 0))) :: tm) L u q l r) : Run P Q F tm L u q l (o :: r) := by
  refine op_pure hw ho hn (fun β a w ht' hd => ⟨?_, rfl⟩) next
  have := slice_run (P := P) (w := w) hT ht hk he (A := A) (m := m) (c := c) (l := 0) (lo := none) (hi := some (.int k2 (hi : Int))) (Nat.zero_le _) hh (.inl ⟨rfl, rfl⟩) (.inr ⟨_, rfl⟩)
  simp [execOp, hop, ev_ok ht' hx, ev_ok ht' hz, SV.den, this]
theorem eqs_n {t e : TypeId} {A : Option Addr} {m c : Nat} (h : P.underlying t = some (.slice e)) (d : Nat) : (Op.equalIn (d + 1) t (.slice A m c) (.slice none 0 0)).run P w = .ok A.isNone w := by
  cases A <;> simp [Op.equalIn, run_und h]
theorem eq_sn {t e : TypeId} {A : Option Addr} {m c : Nat} (h : P.underlying t = some (.slice e)) : (Op.equal t (.slice A m c) (.slice none 0 0)).run P w = .ok A.isNone w := eqs_n h 9999
theorem exec_bin {ρ : Operand → Value} {o : Oper} {op : BinOp} {t t' : TypeId} {x y : Operand} (h : o.op = .binOp op t x y t') : execOp ρ o = (do let v ← (do eqGuard op t x y (ρ x) (ρ y); binOp op t (ρ x) (ρ y) : Sem Value); pure (Next.value v) : Sem Next) := by
  cases o
  simp only at h
  subst h
  rfl
theorem slnil_run {t e : TypeId} {A : Option Addr} {m c : Nat} (h : P.underlying t = some (.slice e)) (x : Operand) :
    (do eqGuard .eql t x (.const (.slice none 0 0)) (.slice A m c) (.slice none 0 0); binOp .eql t (.slice A m c) (.slice none 0 0) : Sem Value).run P w = .ok (.bool A.isNone) w := by
  have hg : eqGuard .eql t x (.const (.slice none 0 0)) (.slice A m c) (.slice none 0 0) = pure () := rfl
  have he : (Op.equal t (.slice A m c) (.slice none 0 0)).run P w = .ok A.isNone w := eq_sn h
  rw [hg, Sem.run_bind, Sem.run_pure, Result.andThen_ok]
  simp only [binOp, Sem.run_bind, he, Result.andThen_ok, Sem.run_pure]
theorem r_slnil (hT : TOK P T) {q : Md} {l : List Oper} {o : Oper} {r : List Oper} {d : Nat} {t t' e : TypeId} {ti : TI} {x : Operand} {A : Option Addr} {m c : Nat} (hw : wantE l tm o = some true) (ho : o.dst = some d) (hn : Nat.blt d F.n.z = true)
    (hop : o.op = .binOp .eql t x (.const (.slice none 0 0)) t') (ht : kget T t = some ti) (hk : ti.kind = .slice e) (hx : ev tm x = some (.v (.slice A m c)))
    (next : Run P Q F ((d, .v (.bool A.isNone)) :: tm) L u q l r) : Run P Q F tm L u q l (o :: r) := by
  refine op_pure hw ho hn (fun β a w ht' hd => ⟨?_, rfl⟩) next
  have hrun := slnil_run (P := P) (w := w) (A := A) (m := m) (c := c) (elem_of hT ht hk) x
  rw [exec_bin hop, ev_ok ht' hx]
  have hc : ∀ v, a.eval (.const v) = v := fun _ => rfl
  rw [hc, Sem.run_bind]
  erw [hrun]
  rfl
end
end Go.Sy
/- The walk by a symbolic frame: a function that defers one closure, which may recover. -/
namespace Go.Sy
set_option linter.unusedVariables false
set_option linter.unusedSimpArgs false
section
variable {P : Program} {T : List (Nat × TI)} {F : Fr} {tm : Tm} {L : Lm} {u : Hp} {N : World} {β : Nat → Nat} {k : Hp} {a : Act} {w : World} {Q : Exit → Act → World → Prop}
end
end Go.Sy
/- The walk by a symbolic frame: stores into a row of its own, at an element and at a field of one; rows of whole numbers. -/
namespace Go.Sy
set_option linter.unusedVariables false
section
variable {P : Program} {T : List (Nat × TI)} {F : Fr} {tm : Tm} {L : Lm} {u : Hp} {Q : Exit → Act → World → Prop}
theorem r_store_row1 (hT : TOK P T) {l : List Oper} {op : Oper} {r : List Oper} {t e : TypeId} {ti : TI} {x y : Operand} {b off q f1 n c sz : Nat} {s : SV} {cs : List SV} {vs pre l1 l2 : List Value} {w0 : Hp}
    (hO : Own u (some ⟨b, off, none⟩) n c e sz (pre ++ l1)) (hK : ∀ x, x ≠ b → u x = w0 x) (hw : wantE l tm op = some true) (hdst : op.dst = none) (hop : op.op = .store t x y) (hx : ev tm x = some (.v (.pointer (some ⟨b, q + f1, none⟩)))) (hq : q = off + pre.length)
    (hy : ev tm y = some s) (ht : kget T t = some ti) (hc : cellsE ti.kind.agg s = some cs) (hl : lenIs cs ti.size = true) (ho1 : onesE cs = true) (hv : valsE L cs = some vs) (hset : setV f1 l1 vs = some l2)
    (next : ∀ u', Own u' (some ⟨b, off, none⟩) n c e sz (pre ++ l2) → (∀ x, x ≠ b → u' x = w0 x) → Run P Q F tm L u' .seq l r) : Run P Q F tm L u .seq l (op :: r) :=
  r_store_row2 (f1 := f1) (f2 := 0) hT hO hK hw hdst hop hx hq hy ht hc hl ho1 hv hset next
end
/-- A whole number's cell; two. -/
def Ic (x : Int) : List Value := [.int .i64 x]
def Ac (p : Int × Int) : List Value := [.int .i64 p.1, .int .i64 p.2]
theorem Ic_len (x : Int) : (Ic x).length = 1 := rfl
abbrev Ints (u : Hp) (A : Option Addr) (n : Nat) (xs : List Int) : Prop := Rd Ic 1 u A n xs
end Go.Sy
/- strings.Compare by the shelf's own theorem: written by the kit's lay-plain. No condition. -/
namespace Go.Proofs
open Go.Shelf
def Tryd.lays106_ren : Go.Shelf.Ren := ⟨fun | 106 => 124 | 213 => 157 | 265 => 183 | n => n, fun | 9 => 9 | 3 => 3 | n => n, fun | n => n⟩
theorem Tryd.lays106 : Go.Proofs.Lays.n106 Tryd.prog Tryd.lays106_ren := {
  mixed := by kernel_rfl
  f106 := Tryd.func124.trans (congrArg some (by kernel_rfl))
  f213 := Tryd.func157.trans (congrArg some (by kernel_rfl))
  f265 := Tryd.func183.trans (congrArg some (by kernel_rfl))
  t3 := Tryd.underlying3
  a3 := Tryd.isAgg3
  z3 := Tryd.sizeOf3
  v3 := Tryd.zeroValue3
  t9 := Tryd.underlying9
  a9 := Tryd.isAgg9
  z9 := Tryd.sizeOf9
  v9 := Tryd.zeroValue9 }
open Go.RowKit in
/-- strings.Compare -/
theorem Tryd.strings_Compare (a b : ByteArray) (w : World) :
    Calls Tryd.prog 124 #[.string a, .string b] w fun e w' => e = .returned (.int .i64 (Lib.compareBytes a.data.toList b.data.toList)) ∧ w' = w := Any.strings_Compare Tryd.lays106 a b w
end Go.Proofs
/- From the arguments of a row to the heap of the walk, and back. Over any program; no condition. -/
namespace Go.Sy
open Go.ChangeShapes Go.WideShapes Go.RowKit
set_option maxHeartbeats 1000000
def hpOf (W : World) : Hp := fun b => W.heap[b]?
/-- What reads as data at type t is what K says of it. -/
structure Opn (P : Program) (t : TypeId) (sz : Nat) {α : Type} (K : Hp → α → List Value → Prop) : Prop where
  size : P.cellsOf t = sz
  use : ∀ {H : Type} {enc : TypeId × Value → H} {W : World} {n : Nat} {cs : List Value} {x : DataW H × List MemPlace},
    DataW.trod enc P W 0 (fun _ => true) true n t cs = some x → cs.length = sz ∧ ∃ y, K (hpOf W) y cs
def kInt (k : IntKind) : Hp → Int → List Value → Prop := fun _ z cs => cs = [.int k z] ∧ (Lit.int k z).wf = true
def kSl {α : Type} (sz : Nat) (K : Hp → α → List Value → Prop) : Hp → List α → List Value → Prop := fun u l cs =>
  ∃ (A : Option Addr) (c : Nat) (ds : List (List Value)), cs = [.slice A l.length c] ∧ l.length ≤ c ∧ l.length ≤ maxLen ∧ ds.length = l.length ∧ (∀ d ∈ ds, d.length = sz) ∧ (∀ (i : Nat) d y, ds[i]? = some d → l[i]? = some y → K u y d) ∧ Sl u A l.length sz ds.flatten
section
variable {P : Program} {t e : TypeId} {α β : Type} {sz sz' : Nat} {K : Hp → α → List Value → Prop} {K' : Hp → β → List Value → Prop}
theorem opn_int {k : IntKind} (ht : P.underlying t = some (.int k)) (hc : P.cellsOf t = 1) : Opn P t 1 (kInt k) :=
  ⟨hc, fun h => by obtain ⟨n, rfl, _, hw⟩ := DataW.trod_int ht h; exact ⟨rfl, n, rfl, hw⟩⟩
theorem Opn.imp {K2 : Hp → β → List Value → Prop} (f : α → β) (h : Opn P t sz K) (hi : ∀ u y cs, K u y cs → K2 u (f y) cs) : Opn P t sz K2 :=
  ⟨h.size, fun hx => let ⟨h1, y, hK⟩ := h.use hx; ⟨h1, f y, hi _ _ _ hK⟩⟩
theorem cells_hp {W : World} {a : Addr} {v : Value} (h : W.cell? a = some v) : a.spot = none ∧ ∃ arr t fr, hpOf W a.block = some (.cells arr t fr) ∧ arr[a.off]? = some v := by
  unfold World.cell? at h
  split at h
  · rename_i c t fr hb
    split at h
    · cases h
    · rename_i hs
      exact ⟨by simpa using hs, _, _, _, hb, h⟩
  · cases h
theorem add_block (a : Addr) (j : Nat) : (a.add j).block = a.block := by simp only [Addr.add]; split <;> rfl
theorem add_off (a : Addr) (j : Nat) : (a.add j).off = a.off + j := by simp only [Addr.add]; split <;> simp_all
theorem opn_slice (ht : P.underlying t = some (.slice e)) (hc : P.cellsOf t = 1) (hz : sz ≠ 0) (h : Opn P e sz K) : Opn P t 1 (kSl sz K) := by
  refine ⟨hc, ?_⟩
  intro H enc W n cs x hx
  rcases Go.Deep.open_slice ht hx with ⟨rfl, _⟩ | ⟨a, len, cap, m, n', D, Pl, rfl, _, hl, hm, hmm, _, hel⟩
  · exact ⟨rfl, [], none, 0, [], rfl, Nat.le_refl _, by simp [maxLen], rfl, fun d hd => (by cases hd), fun i d y hd => (by simp at hd), ⟨by simp, fun _ => rfl, fun a h => by cases h⟩⟩
  · refine ⟨rfl, ?_⟩
    have hone : ∀ i : _root_.Fin len, ∃ y : α, ∃ c : List Value, c.length = sz ∧ K (hpOf W) y c ∧ ∀ j u, c[j]? = some u → W.cell? (a.add (i.1 * sz + j)) = some u := by
      intro i
      obtain ⟨cs', h1, h2⟩ := hel i.1 (by have := i.2; rw [hmm]; split <;> omega)
      obtain ⟨_, hlen, hcell⟩ := World.cells?_some h1
      obtain ⟨hl', y, hK⟩ := h.use h2
      refine ⟨y, cs', hl', hK, fun j u hu => ?_⟩
      have hj : j < cs'.length := (List.getElem?_eq_some_iff.1 hu).1
      have := hcell j (by omega)
      rw [Go.Deep.add_add, h.size] at this
      rw [this, hu]
    classical
    have hY := fun i => Classical.choose_spec (hone i)
    have hC := fun i => Classical.choose_spec (hY i)
    refine ⟨List.ofFn fun i => Classical.choose (hone i), some a, cap, List.ofFn fun i => Classical.choose (hY i), by rw [List.length_ofFn], by rw [List.length_ofFn]; exact hl, by rw [List.length_ofFn]; omega, by simp, fun d hd => ?_, fun i d y hd hy => ?_, ?_⟩
    · obtain ⟨i, rfl⟩ := List.mem_ofFn.1 hd
      exact (hC i).1
    · obtain ⟨g1, g2⟩ := List.getElem?_eq_some_iff.1 hd
      obtain ⟨g3, g4⟩ := List.getElem?_eq_some_iff.1 hy
      rw [List.getElem_ofFn] at g2 g4
      subst g2; subst g4
      exact (hC _).2.1
    · rw [List.length_ofFn]
      have hlen : (List.ofFn fun i => Classical.choose (hY i)).flatten.length = len * sz := by
        have : ∀ l : List (List Value), (∀ d ∈ l, d.length = sz) → l.flatten.length = l.length * sz := fun l => by
          induction l with
          | nil => simp
          | cons d r ih => intro hd; simp only [List.flatten_cons, List.length_append, List.length_cons, ih (fun x hx => hd x (.tail _ hx)), hd d (.head _), Nat.add_mul]; omega
        rw [this _ (fun d hd => by obtain ⟨i, rfl⟩ := List.mem_ofFn.1 hd; exact (hC i).1), List.length_ofFn]
      have hget : ∀ (j : Nat) v, (List.ofFn fun i => Classical.choose (hY i)).flatten[j]? = some v → W.cell? (a.add j) = some v := fun j v hj => by
        have key : ∀ (l : List (List Value)), (∀ d ∈ l, d.length = sz) → ∀ j v, l.flatten[j]? = some v → ∃ i d, l[i]? = some d ∧ i * sz ≤ j ∧ d[j - i * sz]? = some v := fun l => by
          induction l with
          | nil => intro _ j v hj; simp at hj
          | cons d r ih =>
            intro hd j v hj
            rw [List.flatten_cons] at hj
            have hdl := hd d (.head _)
            by_cases hlt : j < d.length
            · rw [List.getElem?_append_left hlt] at hj
              exact ⟨0, d, rfl, by omega, by simpa using hj⟩
            · rw [List.getElem?_append_right (by omega)] at hj
              obtain ⟨i, d', h1, h2, h3⟩ := ih (fun x hx => hd x (.tail _ hx)) _ v hj
              refine ⟨i + 1, d', by simpa using h1, by rw [Nat.add_mul]; omega, ?_⟩
              rw [show j - (i + 1) * sz = j - d.length - i * sz by rw [Nat.add_mul]; omega]; exact h3
        obtain ⟨i, d, h1, h2, h3⟩ := key _ (fun d hd => by obtain ⟨i, rfl⟩ := List.mem_ofFn.1 hd; exact (hC i).1) j v hj
        obtain ⟨g1, g2⟩ := List.getElem?_eq_some_iff.1 h1
        rw [List.getElem_ofFn] at g2
        subst g2
        rw [List.length_ofFn] at g1
        have := (hC ⟨i, g1⟩).2.2 _ v h3
        rwa [show i * sz + (j - i * sz) = j by omega] at this
      refine ⟨hlen, fun h => (by cases h), fun ad had hne => ?_⟩
      have e1 := Option.some.inj had; subst e1
      have hpos : 0 < len * sz := Nat.mul_pos (by omega) (by omega)
      obtain ⟨v0, hv0⟩ : ∃ v, (List.ofFn fun i => Classical.choose (hY i)).flatten[0]? = some v := ⟨_, List.getElem?_eq_getElem (by omega)⟩
      have h0 := hget 0 v0 hv0
      rw [show a.add 0 = a by simp [Addr.add]] at h0
      obtain ⟨s1, arr, ty, fr, s2, s3⟩ := cells_hp h0
      refine ⟨s1, arr, ty, fr, s2, fun j v hj => ?_⟩
      have hj' := hget j v hj
      obtain ⟨s4, arr', ty', fr', s5, s6⟩ := cells_hp hj'
      rw [add_block, s2] at s5
      have e2 := Option.some.inj s5
      simp only [Obj.cells.injEq] at e2
      rw [add_off, ← e2.1] at s6
      exact s6
end
/-- A call of a law, from any world. -/
theorem row_calls {P : Program} {f : FuncId} {args : List SV} {vs : List Value} {W : World} (hv : valsE [] args = some vs)
    (h : TriS P f args [] (hpOf W) (fun y : Bool => .v (.bool y)) (fun _ => []) (fun y h' => y = true ∧ Le (hpOf W) h')) :
    Calls P f vs.toArray W (fun e W' => e = .returned (.bool true) ∧ Below W.heap.size W W') := by
  refine (h List.nodup_nil (fun b hb => by simp [names] at hb) vs (hpOf W) hv rfl (fun _ => none) W W ⟨fun b o hb => hb, fun b o hb => (by cases hb), Ge.refl W⟩).mono ?_
  rintro e w' ⟨v, h'', rfl, ⟨y, h', h1, h2, h3, rfl, h5⟩, h6⟩
  simp only [addsE, Option.some.injEq] at h2; subst h2
  simp only [valE, Option.some.injEq] at h1; subst h1
  refine ⟨rfl, h6.size.os, h6.size.tape, h6.size.output, h6.size.size, fun k hk => ?_⟩
  have : hpOf W k = some W.heap[k] := by unfold hpOf; simp [hk]
  rw [h6.ext k _ (h5 k _ this)]
  simp [hk]
end Go.Sy
/- A contract of the walk by a symbolic frame, read as the shelf reads one: it answers, it draws, it lays new blocks; nothing else is turned. -/
namespace Go.Sy
open Go.Sort
set_option linter.unusedVariables false
theorem ge_grow {W w' : World} (hg : Ge W w') (hk : ∀ (b : Nat) (o : Obj), W.heap[b]? = some o → w'.heap[b]? = some o) : ∃ q os, w' = grow (W.drewN q) os := by
  refine ⟨w'.drawn - W.drawn, w'.heap.extract W.heap.size w'.heap.size, ?_⟩
  have hh : w'.heap = W.heap ++ w'.heap.extract W.heap.size w'.heap.size := by
    refine Array.ext_getElem? fun i => ?_
    by_cases hi : i < W.heap.size
    · rw [Array.getElem?_append_left hi, Array.getElem?_eq_getElem hi]
      exact hk i _ (Array.getElem?_eq_getElem hi)
    · have hs := hg.size
      rw [Array.getElem?_append_right (by omega), Array.getElem?_extract]
      by_cases hj : i < w'.heap.size
      · rw [if_pos (by omega)]
        congr 1; omega
      · rw [if_neg (by omega), Array.getElem?_eq_none (by omega)]
  have hd := hg.drawn
  cases w'
  cases W
  simp only [grow, World.drewN, World.mk.injEq]
  exact ⟨hh, hg.tape, by simp only at hd ⊢; omega, hg.os, hg.output⟩
theorem le_lays {P : Program} {f : FuncId} {args : List SV} {vs : List Value} {Y : Type} {val : Y → SV} {v : Value} {r : Y} (W : World) (hvs : valsE [] args = some vs) (hv : valE [] (val r) = some v)
    (h : TriS P f args [] (hpOf W) val (fun _ => []) (fun y h' => y = r ∧ Le (hpOf W) h')) : Calls P f vs.toArray W (fun e w' => e = .returned v ∧ ∃ q os, w' = grow (W.drewN q) os) := by
  refine (h List.nodup_nil (fun b hb => by simp [names] at hb) vs (hpOf W) hvs rfl (fun _ => none) W W ⟨fun b o hb => hb, fun b o hb => (by cases hb), Ge.refl W⟩).mono ?_
  rintro e w' ⟨v', h'', rfl, ⟨y, h', h1, h2, h3, rfl, h5⟩, h6⟩
  simp only [addsE, Option.some.injEq] at h2; subst h2
  have e1 : v' = v := Option.some.inj (h1.symm.trans hv)
  exact ⟨by rw [e1], ge_grow h6.size (fun b o hb => h6.ext b o (h5 b o hb))⟩
end Go.Sy
