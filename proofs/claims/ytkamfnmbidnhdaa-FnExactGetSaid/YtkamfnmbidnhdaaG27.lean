/- impl.GraphOk: the walk (a map the call makes), and the contract in the print's form. -/
import Derived.Test.YtkamfnmbidnhdaaMapVal
import Derived.Test.YtkamfnmbidnhdaaKeysP
import Derived.Test.YtkamfnmbidnhdaaLoops
import Derived.StillTailTactics
import Derived.Carry
import Derived.BigRegion
namespace Go.Proofs.Ytkamfnmbidnhdaa.P
open Go.RowKit Go.Proofs.YtkamfnmbidnhdaaW.PrintWords Go.Proofs.YtkamfnmbidnhdaaW.PrintLast Go.Proofs.YtkamfnmbidnhdaaW.PrintMore Go.Proofs.Ytkamfnmbidnhdaa.M Go.MapKept Go.ChangeMaps
set_option linter.unusedVariables false
set_option linter.unusedSimpArgs false
def toV (s : S29) : V := ⟨s.f0, s.f1, s.f2, s.f3⟩
/-- The pairs of one table, behind the keys m. -/
def pairsB (n : Int) : List (V × Int) → List S82 → Bool
  | _, [] => true
  | m, p :: r =>
    let m1 := mset m (toV p.f0) (wrap64 (mget m (toV p.f0) + 1))
    if keyB p.f0.f0 p.f0.f1 p.f0.f2 p.f0.f3 = false then false
    else if valB p.f1.f0 p.f1.f1 p.f1.f2 p.f1.f3 n = false then false
    else if p.f1.f0 = 0 then false
    else if 1 < mget m1 (toV p.f0) then false
    else pairsB n m1 r
def tablesB (n : Int) : List S80 → Bool
  | [] => true
  | t :: r => if 100 < t.f0.length then false else if pairsB n [] t.f0 = false then false else tablesB n r
def graphB (k n : Int) (s : ByteArray) (a : Int) (l : List S80) : Bool :=
  if 200 < l.length then false else if valB k n s a (l.length : Int) = false then false else tablesB (l.length : Int) l
def impl_GraphOk.f (k n : Int) (s : ByteArray) (a : Int) (l : List S80) : Option Bool := some (graphB k n s a l)
theorem wrap_next {x : Int} {n : Nat} (h0 : 0 ≤ x) (h : x < n) (hn : n ≤ 9223372036854775807) : wrap64 (x + 1) = x + 1 := by unfold wrap64; omega
theorem rd80_at (x : List S80) (i : Int) (h0 : 0 ≤ i) (h : i < x.length) : x.drop i.toNat = rd_T80 x i :: x.drop (i + 1).toNat := by
  have h1 : i.toNat < x.length := by omega
  rw [List.drop_eq_getElem_cons h1, rd_T80, show (i + 1).toNat = i.toNat + 1 by omega]
  simp [h1]
theorem rd82_at (x : List S82) (i : Int) (h0 : 0 ≤ i) (h : i < x.length) : x.drop i.toNat = rd_T82 x i :: x.drop (i + 1).toNat := by
  have h1 : i.toNat < x.length := by omega
  rw [List.drop_eq_getElem_cons h1, rd_T82, show (i + 1).toNat = i.toNat + 1 by omega]
  simp [h1]
theorem rd80_nat (x : List S80) (i : Nat) (h : i < x.length) : rd_T80 x (i : Int) = x[i] := by simp [rd_T80, h]
theorem rd82_nat (x : List S82) (i : Nat) (h : i < x.length) : rd_T82 x (i : Int) = x[i] := by simp [rd_T82, h]
set_option maxHeartbeats 4000000 in
set_option maxRecDepth 100000 in
theorem impl_GraphOk.calls (a0_0 : Int) (a0_1 : Int) (a0_2 : ByteArray) (a0_3 : Int) (A0_4 : Option Addr) (c0_4 : Nat) (l0_4 : List (S80)) (r : Bool) (w : World) (hr0_4 : Kd.C k80 w A0_4 l0_4.length l0_4) (hc0_4 : l0_4.length ≤ c0_4) (h : impl_GraphOk.f a0_0 a0_1 a0_2 a0_3 l0_4 = some r) :
    Calls Try.prog 27 #[.agg #[.int .i64 a0_0, .int .i64 a0_1, .string a0_2, .int .i64 a0_3, .slice A0_4 l0_4.length c0_4]] w fun e w' => e = .returned (.bool r) ∧ Below w.heap.size w w' := by
  have hu48 := Try.underlying48
  have hu29 := Try.underlying29
  have hu80 := Try.underlying80
  have hu82 := Try.underlying82
  have hmk := @run_makeMap Try.prog
  have HR := Aside0.mk hr0_4
  clear hr0_4
  replace h : graphB a0_0 a0_1 a0_2 a0_3 l0_4 = r := Option.some.inj h
  unfold graphB at h
  by_cases c1 : 200 < l0_4.length
  · rw [if_pos c1] at h
    subst h
    have c1b : decide (200 < l0_4.length) = true := decide_eq_true c1
    go_enter Try.func27, Try.ntmps27
    go_wp2
    go_ret
    exact ⟨rfl, by repeat (first | exact Below.refl _ _ | (with_reducible apply vo_set) | (with_reducible apply below_alloc))⟩
  · rw [if_neg c1] at h
    have c1c : decide (200 < (l0_4.length : Int)) = false := decide_eq_false (by omega)
    by_cases c2 : valB a0_0 a0_1 a0_2 a0_3 (l0_4.length : Int) = false
    · rw [if_pos c2] at h
      subst h
      go_enter Try.func27, Try.ntmps27
      go_wp2_with (go_at_call 58; refine (impl_valOk.calls a0_0 a0_1 a0_2 a0_3 (l0_4.length : Int) false _ (by rw [impl_valOk.f, vok_says, c2])).mono ?_; rintro e w2 ⟨rfl, hb⟩)
      go_ret
      exact ⟨rfl, below_step (by repeat (first | exact Below.refl _ _ | (with_reducible apply vo_set) | (with_reducible apply below_alloc))) hb⟩
    · rw [if_neg c2] at h
      have HT0 := Aside0.mk h
      clear h
      have HLn := Aside0.mk (Nat.not_lt.mp c1)
      have c2t := (Bool.not_eq_false _).mp c2
      clear c1 c2
      go_enter Try.func27, Try.ntmps27
      go_wp2_with (go_at_call 58; refine (impl_valOk.calls a0_0 a0_1 a0_2 a0_3 (l0_4.length : Int) true _ (by rw [impl_valOk.f, vok_says, c2t])).mono ?_; rintro e w2 ⟨rfl, hb⟩; have HB := Aside0.mk (below_step (w := w) (by repeat (first | exact Below.refl _ _ | (with_reducible apply vo_set) | (with_reducible apply below_alloc))) hb); have hx := blk_cell (blk_below (blk_new _ _) hb) 4; clear hb)
      go_loopg [24] l0_4.length (fun gk v24 wr => ∃ x : Int, v24 = .int .i64 x ∧ Aside0 (0 ≤ x ∧ x.toNat + gk = l0_4.length) ∧ Aside0 (tablesB (l0_4.length : Int) (l0_4.drop x.toNat) = r) ∧ Aside0 (Below w.heap.size w wr))
      case atStart => exact ⟨0, rfl, ⟨by omega, by simp⟩, ⟨HT0.out⟩, HB⟩
      case round =>
        rename Nat => gk1
        rename World => w1
        clear hx HB HT0 c2t c1c
        obtain ⟨x, rfl, HI, HT, HB⟩ := hrel
        by_cases ci : x < (l0_4.length : Int)
        · have cib : decide (x < (l0_4.length : Int)) = true := decide_eq_true ci
          have cj : 0 ≤ x := HI.out.1
          obtain ⟨ad, A1, cc1, rfl, hx, hl1, hi1⟩ := at_T80 HR.out x cj ci
          replace hx := (HB.out.cell (World.block_lt_of_cell? w _ hx)).trans hx
          have HR1 := Aside0.mk hi1
          have HT2 := Aside0.mk ((congrArg (tablesB (l0_4.length : Int)) (rd80_at l0_4 x cj ci)).symm.trans HT.out)
          clear hi1 hl1 HT
          generalize hp : (rd_T80 l0_4 x).f0 = prs at hx HR1
          have cin := eq_true ci
          have cjn := eq_true cj
          clear ci cj
          by_cases c3 : 100 < prs.length
          · have c3b : decide (100 < prs.length) = true := decide_eq_true c3
            have c3c : decide (100 < (prs.length : Int)) = true := decide_eq_true (by omega)
            have HE := Aside0.mk (show r = false by rw [← HT2.out, tablesB, hp, if_pos c3])
            clear HT2 hp c3
            go_wp2
            go_ret
            exact ⟨by rw [HE.out]; rfl, by repeat (first | exact HB.out | (with_reducible apply vo_set) | (with_reducible apply below_alloc))⟩
          · have c3c : decide (100 < (prs.length : Int)) = false := decide_eq_false (by omega)
            have HT3 : Aside0 ((if pairsB (l0_4.length : Int) [] prs = false then false else tablesB (l0_4.length : Int) (l0_4.drop (x + 1).toNat)) = r) := ⟨by rw [← HT2.out, tablesB, hp, if_neg c3]⟩
            have HLp := Aside0.mk (Nat.not_lt.mp c3)
            clear HT2 c3 hp
            go_wp2
            have HM0 : Aside0 (IMap Try.prog vKey ((w1.alloc (.cells #[.slice A1 prs.length cc1] 80)).alloc (.map #[] 0)) (w1.heap.size + 1) []) := ⟨by
              have := IMap.made Try.prog vKey (w1.alloc (.cells #[.slice A1 prs.length cc1] 80))
              simpa using this⟩
            have HB0 : Aside0 (Below w.heap.size w ((w1.alloc (.cells #[.slice A1 prs.length cc1] 80)).alloc (.map #[] 0))) := ⟨below_alloc (below_alloc HB.out _) _⟩
            have HG := Aside0.mk (show w.heap.size ≤ w1.heap.size + 1 from Nat.le_succ_of_le HB.out.size)
            clear hx HB
            generalize w1.heap.size + 1 = gm at HM0 HG ⊢
            go_loopg [36] prs.length (fun gk v36 wr => ∃ (y : Int) (m : List (V × Int)), v36 = .int .i64 y ∧ Aside0 (0 ≤ y ∧ y.toNat + gk = prs.length) ∧ Aside0 (pairsB (l0_4.length : Int) [] prs = pairsB (l0_4.length : Int) m (prs.drop y.toNat)) ∧ Aside0 (IMap Try.prog vKey wr gm m) ∧ Aside0 (Below w.heap.size w wr))
            case atStart => exact ⟨0, [], rfl, ⟨by omega, by simp⟩, ⟨by simp⟩, HM0, HB0⟩
            case round =>
              rename Nat => gk2
              rename World => w2
              clear HM0 HB0
              obtain ⟨y, m, rfl, HJ, HP, HM, HB⟩ := hrel
              by_cases di : y < (prs.length : Int)
              · have dib : decide (y < (prs.length : Int)) = true := decide_eq_true di
                have dj : 0 ≤ y := HJ.out.1
                obtain ⟨ad2, rfl, hy0, hy1, hy2, hy3, hy4, hy5, hy6, hy7⟩ := at_T82 HR1.out y dj di
                replace hy0 := (HB.out.cell (World.block_lt_of_cell? w _ hy0)).trans hy0
                replace hy1 := (HB.out.cell (World.block_lt_of_cell? w _ hy1)).trans hy1
                replace hy2 := (HB.out.cell (World.block_lt_of_cell? w _ hy2)).trans hy2
                replace hy3 := (HB.out.cell (World.block_lt_of_cell? w _ hy3)).trans hy3
                replace hy4 := (HB.out.cell (World.block_lt_of_cell? w _ hy4)).trans hy4
                replace hy5 := (HB.out.cell (World.block_lt_of_cell? w _ hy5)).trans hy5
                replace hy6 := (HB.out.cell (World.block_lt_of_cell? w _ hy6)).trans hy6
                replace hy7 := (HB.out.cell (World.block_lt_of_cell? w _ hy7)).trans hy7
                have HP2 := Aside0.mk (HP.out.trans (congrArg (pairsB (l0_4.length : Int) m) (rd82_at prs y dj di)))
                clear HP
                generalize rd_T82 prs y = p at hy0 hy1 hy2 hy3 hy4 hy5 hy6 hy7 HP2
                obtain ⟨⟨pk, pn, ps, pa⟩, ⟨vk, vn, vs, va⟩⟩ := p
                dsimp only at hy0 hy1 hy2 hy3 hy4 hy5 hy6 hy7
                have din := eq_true di
                have djn := eq_true dj
                clear di dj
                obtain ⟨W1, hW1⟩ : ∃ W1 : World, W1 = w2.alloc (.cells #[.int .i64 pk, .int .i64 pn, .string ps, .int .i64 pa, .int .i64 vk, .int .i64 vn, .string vs, .int .i64 va] 82) := ⟨_, rfl⟩
                have HM1 : IMap Try.prog vKey W1.drew gm m := HM.out.move (by rw [hW1]; exact heap_alloc_old _ _ HM.out.lt)
                have HBx := blk_new w2 (.cells #[.int .i64 pk, .int .i64 pn, .string ps, .int .i64 pa, .int .i64 vk, .int .i64 vn, .string vs, .int .i64 va] 82)
                have HB1 : Below w.heap.size w W1 := by rw [hW1]; exact below_alloc HB.out _
                rw [← hW1] at HBx
                have hne : w2.heap.size ≠ gm := Nat.ne_of_gt HM.out.lt
                have hlk := HM1.lookup vKeyOps Try.underlying85 (fun u => rfl) ⟨pk, pn, ps, pa⟩ false
                obtain ⟨st, o, hen, ho, ⟨mm, HMm, hmm⟩, hst⟩ := HM1.entry vKeyOps Try.underlying85 (fun u => rfl) ⟨pk, pn, ps, pa⟩
                go_upto_region 13 with fail
                rw [← hW1]
                obtain ⟨W2, hW2⟩ : ∃ W2, W2 = setBlock W1.drew gm o := ⟨_, rfl⟩
                have HB2 : Below w.heap.size w W2 := by rw [hW2]; exact below_setBlock (below_drew HB1) HG.out o
                have HBx2 := (setBlock_other (W := W1.drew) hne o).trans HBx
                rw [← hW2] at hen ho HBx2 HMm
                have hl2 := HMm.lookup vKeyOps Try.underlying85 (fun u => rfl) ⟨pk, pn, ps, pa⟩ false
                rw [hmm] at hl2
                obtain ⟨o', hsn, HM3⟩ := hst W2 (IntKind.i64.wrap (mget m ⟨pk, pn, ps, pa⟩ + 1)) ho
                obtain ⟨W3, hW3⟩ : ∃ W3, W3 = setBlock W2 gm o' := ⟨_, rfl⟩
                have HB3 : Below w.heap.size w W3 := by rw [hW3]; exact below_setBlock HB2 HG.out o'
                have HBx3 := (setBlock_other (W := W2) hne o').trans HBx2
                rw [← hW3] at hsn HM3 HBx3
                rw [i64_w] at HM3
                have hz0 : W1.cell? ⟨w2.heap.size, 0, none⟩ = some (.int .i64 pk) := (blk_cell HBx 0).trans rfl
                have hz1 : W1.cell? ⟨w2.heap.size, 1, none⟩ = some (.int .i64 pn) := (blk_cell HBx 1).trans rfl
                have hz2 : W1.cell? ⟨w2.heap.size, 2, none⟩ = some (.string ps) := (blk_cell HBx 2).trans rfl
                have hz3 : W1.cell? ⟨w2.heap.size, 3, none⟩ = some (.int .i64 pa) := (blk_cell HBx 3).trans rfl
                have hz4 : W1.cell? ⟨w2.heap.size, 4, none⟩ = some (.int .i64 vk) := (blk_cell HBx 4).trans rfl
                have hz5 : W1.cell? ⟨w2.heap.size, 5, none⟩ = some (.int .i64 vn) := (blk_cell HBx 5).trans rfl
                have hz6 : W1.cell? ⟨w2.heap.size, 6, none⟩ = some (.string vs) := (blk_cell HBx 6).trans rfl
                have hz7 : W1.cell? ⟨w2.heap.size, 7, none⟩ = some (.int .i64 va) := (blk_cell HBx 7).trans rfl
                have ht0 : W3.cell? ⟨w2.heap.size, 0, none⟩ = some (.int .i64 pk) := (blk_cell HBx3 0).trans rfl
                have ht1 : W3.cell? ⟨w2.heap.size, 1, none⟩ = some (.int .i64 pn) := (blk_cell HBx3 1).trans rfl
                have ht2 : W3.cell? ⟨w2.heap.size, 2, none⟩ = some (.string ps) := (blk_cell HBx3 2).trans rfl
                have ht3 : W3.cell? ⟨w2.heap.size, 3, none⟩ = some (.int .i64 pa) := (blk_cell HBx3 3).trans rfl
                have ht4 : W3.cell? ⟨w2.heap.size, 4, none⟩ = some (.int .i64 vk) := (blk_cell HBx3 4).trans rfl
                have ht5 : W3.cell? ⟨w2.heap.size, 5, none⟩ = some (.int .i64 vn) := (blk_cell HBx3 5).trans rfl
                have ht6 : W3.cell? ⟨w2.heap.size, 6, none⟩ = some (.string vs) := (blk_cell HBx3 6).trans rfl
                have ht7 : W3.cell? ⟨w2.heap.size, 7, none⟩ = some (.int .i64 va) := (blk_cell HBx3 7).trans rfl
                clear HM HB hW1 HBx HB1 hW2 HBx2 HB2 hW3 HBx3 hst ho HM1 HMm hne hmm
                clear hy0 hy1 hy2 hy3 hy4 hy5 hy6 hy7
                generalize w2.heap.size = gp at *
                have HM3a := Aside0.mk HM3
                have HB3a := Aside0.mk HB3
                clear HM3 HB3
                simp only [vKey, goInt, Bool.false_eq_true, if_false] at hlk hl2 hen hsn
                go_cut [46] (fun v46 wc => wc = W3)
                case first =>
                  go_region
                  all_goals (go_wp2_with fail; go_meet; exact rfl)
                case rest =>
                  obtain rfl := hcut
                  clear hlk hl2 hen hsn hz0 hz1 hz2 hz3 hz4 hz5 hz6 hz7
                  generalize hm1 : mset m ⟨pk, pn, ps, pa⟩ (wrap64 (mget m ⟨pk, pn, ps, pa⟩ + 1)) = m1 at HM3a
                  by_cases kB : keyB pk pn ps pa = false
                  · have HE : Aside0 (r = false) := ⟨by rw [← HT3.out, HP2.out, pairsB]; simp [toV, hm1, kB]⟩
                    clear HT3 HP2
                    go_wp2_with (go_at_call 45; refine (impl_keyOk.calls pk pn ps pa false _ (by rw [keyOk_says, kB])).mono ?_; rintro e W4 ⟨rfl, hb⟩; have HB4 := Aside0.mk (below_step HB3a.out hb); clear hb)
                    go_ret
                    exact ⟨by rw [HE.out]; rfl, HB4.out⟩
                  · replace kB := (Bool.not_eq_false _).mp kB
                    by_cases vB : valB vk vn vs va (l0_4.length : Int) = false
                    · have HE : Aside0 (r = false) := ⟨by rw [← HT3.out, HP2.out, pairsB]; simp [toV, hm1, kB, vB]⟩
                      clear HT3 HP2
                      go_wp2_with (first | (go_at_call 45; refine (impl_keyOk.calls pk pn ps pa true _ (by rw [keyOk_says, kB])).mono ?_; rintro e W4 ⟨rfl, hb⟩; have HB4 := Aside0.mk (below_step HB3a.out hb); have HM4 := Aside0.mk (HM3a.out.move (hb.block gm HM3a.out.lt)); have hs0 := (hb.cell (World.block_lt_of_cell? wc _ ht0)).trans ht0; have hs1 := (hb.cell (World.block_lt_of_cell? wc _ ht1)).trans ht1; have hs2 := (hb.cell (World.block_lt_of_cell? wc _ ht2)).trans ht2; have hs3 := (hb.cell (World.block_lt_of_cell? wc _ ht3)).trans ht3; have hs4 := (hb.cell (World.block_lt_of_cell? wc _ ht4)).trans ht4; have hs5 := (hb.cell (World.block_lt_of_cell? wc _ ht5)).trans ht5; have hs6 := (hb.cell (World.block_lt_of_cell? wc _ ht6)).trans ht6; have hs7 := (hb.cell (World.block_lt_of_cell? wc _ ht7)).trans ht7; clear hb ht0 ht1 ht2 ht3 ht4 ht5 ht6 ht7) | (go_at_call 58; refine (impl_valOk.calls vk vn vs va (l0_4.length : Int) false _ (by rw [impl_valOk.f, vok_says, vB])).mono ?_; rintro e W5 ⟨rfl, hb⟩; have HB5 := Aside0.mk (below_step HB4.out hb); clear hb))
                      go_ret
                      exact ⟨by rw [HE.out]; rfl, HB5.out⟩
                    · replace vB := (Bool.not_eq_false _).mp vB
                      by_cases zB : vk = 0
                      · have HE : Aside0 (r = false) := ⟨by rw [← HT3.out, HP2.out, pairsB]; simp [toV, hm1, kB, vB, zB]⟩
                        have zb : (vk == 0) = true := by simp [zB]
                        have zB' := Aside0.mk zB
                        clear HT3 HP2 zB
                        go_wp2_with (first | (go_at_call 45; refine (impl_keyOk.calls pk pn ps pa true _ (by rw [keyOk_says, kB])).mono ?_; rintro e W4 ⟨rfl, hb⟩; have HB4 := Aside0.mk (below_step HB3a.out hb); have HM4 := Aside0.mk (HM3a.out.move (hb.block gm HM3a.out.lt)); have hs0 := (hb.cell (World.block_lt_of_cell? wc _ ht0)).trans ht0; have hs1 := (hb.cell (World.block_lt_of_cell? wc _ ht1)).trans ht1; have hs2 := (hb.cell (World.block_lt_of_cell? wc _ ht2)).trans ht2; have hs3 := (hb.cell (World.block_lt_of_cell? wc _ ht3)).trans ht3; have hs4 := (hb.cell (World.block_lt_of_cell? wc _ ht4)).trans ht4; have hs5 := (hb.cell (World.block_lt_of_cell? wc _ ht5)).trans ht5; have hs6 := (hb.cell (World.block_lt_of_cell? wc _ ht6)).trans ht6; have hs7 := (hb.cell (World.block_lt_of_cell? wc _ ht7)).trans ht7; clear hb ht0 ht1 ht2 ht3 ht4 ht5 ht6 ht7) | (go_at_call 58; refine (impl_valOk.calls vk vn vs va (l0_4.length : Int) true _ (by rw [impl_valOk.f, vok_says, vB])).mono ?_; rintro e W5 ⟨rfl, hb⟩; have HB5 := Aside0.mk (below_step HB4.out hb); have HM5 := HM4.out.move (hb.block gm HM4.out.lt); have hr0 := (hb.cell (World.block_lt_of_cell? W4 _ hs0)).trans hs0; have hr1 := (hb.cell (World.block_lt_of_cell? W4 _ hs1)).trans hs1; have hr2 := (hb.cell (World.block_lt_of_cell? W4 _ hs2)).trans hs2; have hr3 := (hb.cell (World.block_lt_of_cell? W4 _ hs3)).trans hs3; have hr4 := (hb.cell (World.block_lt_of_cell? W4 _ hs4)).trans hs4; have hr5 := (hb.cell (World.block_lt_of_cell? W4 _ hs5)).trans hs5; have hr6 := (hb.cell (World.block_lt_of_cell? W4 _ hs6)).trans hs6; have hr7 := (hb.cell (World.block_lt_of_cell? W4 _ hs7)).trans hs7; clear hb hs0 hs1 hs2 hs3 hs4 hs5 hs6 hs7; have hlk5 := HM5.lookup vKeyOps Try.underlying85 (fun u => rfl) ⟨pk, pn, ps, pa⟩ false; simp only [vKey, Bool.false_eq_true, if_false] at hlk5; have HM5a := Aside0.mk HM5; clear HM5))
                        go_ret
                        exact ⟨by rw [HE.out]; rfl, HB5.out⟩
                      · have zb : (vk == 0) = false := by simp [zB]
                        by_cases gB : 1 < mget m1 ⟨pk, pn, ps, pa⟩
                        · have HE : Aside0 (r = false) := ⟨by rw [← HT3.out, HP2.out, pairsB]; simp [toV, hm1, kB, vB, zB, gB]⟩
                          have gb : decide (1 < mget m1 ⟨pk, pn, ps, pa⟩) = true := decide_eq_true gB
                          clear HT3 HP2 zB gB
                          go_wp2_with (first | (go_at_call 45; refine (impl_keyOk.calls pk pn ps pa true _ (by rw [keyOk_says, kB])).mono ?_; rintro e W4 ⟨rfl, hb⟩; have HB4 := Aside0.mk (below_step HB3a.out hb); have HM4 := Aside0.mk (HM3a.out.move (hb.block gm HM3a.out.lt)); have hs0 := (hb.cell (World.block_lt_of_cell? wc _ ht0)).trans ht0; have hs1 := (hb.cell (World.block_lt_of_cell? wc _ ht1)).trans ht1; have hs2 := (hb.cell (World.block_lt_of_cell? wc _ ht2)).trans ht2; have hs3 := (hb.cell (World.block_lt_of_cell? wc _ ht3)).trans ht3; have hs4 := (hb.cell (World.block_lt_of_cell? wc _ ht4)).trans ht4; have hs5 := (hb.cell (World.block_lt_of_cell? wc _ ht5)).trans ht5; have hs6 := (hb.cell (World.block_lt_of_cell? wc _ ht6)).trans ht6; have hs7 := (hb.cell (World.block_lt_of_cell? wc _ ht7)).trans ht7; clear hb ht0 ht1 ht2 ht3 ht4 ht5 ht6 ht7) | (go_at_call 58; refine (impl_valOk.calls vk vn vs va (l0_4.length : Int) true _ (by rw [impl_valOk.f, vok_says, vB])).mono ?_; rintro e W5 ⟨rfl, hb⟩; have HB5 := Aside0.mk (below_step HB4.out hb); have HM5 := HM4.out.move (hb.block gm HM4.out.lt); have hr0 := (hb.cell (World.block_lt_of_cell? W4 _ hs0)).trans hs0; have hr1 := (hb.cell (World.block_lt_of_cell? W4 _ hs1)).trans hs1; have hr2 := (hb.cell (World.block_lt_of_cell? W4 _ hs2)).trans hs2; have hr3 := (hb.cell (World.block_lt_of_cell? W4 _ hs3)).trans hs3; have hr4 := (hb.cell (World.block_lt_of_cell? W4 _ hs4)).trans hs4; have hr5 := (hb.cell (World.block_lt_of_cell? W4 _ hs5)).trans hs5; have hr6 := (hb.cell (World.block_lt_of_cell? W4 _ hs6)).trans hs6; have hr7 := (hb.cell (World.block_lt_of_cell? W4 _ hs7)).trans hs7; clear hb hs0 hs1 hs2 hs3 hs4 hs5 hs6 hs7; have hlk5 := HM5.lookup vKeyOps Try.underlying85 (fun u => rfl) ⟨pk, pn, ps, pa⟩ false; simp only [vKey, Bool.false_eq_true, if_false] at hlk5; have HM5a := Aside0.mk HM5; clear HM5))
                          go_ret
                          exact ⟨by rw [HE.out]; rfl, HB5.out⟩
                        · have gb : decide (1 < mget m1 ⟨pk, pn, ps, pa⟩) = false := decide_eq_false gB
                          have HP3 : Aside0 (pairsB (l0_4.length : Int) [] prs = pairsB (l0_4.length : Int) m1 (prs.drop (y + 1).toNat)) := ⟨by rw [HP2.out, pairsB]; simp [toV, hm1, kB, vB, zB, gB]⟩
                          have hw := wrap_next (of_eq_true djn) (of_eq_true din) (by have := HLp.out; omega)
                          have HW := Aside0.mk hw
                          clear HP2 zB gB hw
                          go_wp2_with (first | (go_at_call 45; refine (impl_keyOk.calls pk pn ps pa true _ (by rw [keyOk_says, kB])).mono ?_; rintro e W4 ⟨rfl, hb⟩; have HB4 := Aside0.mk (below_step HB3a.out hb); have HM4 := Aside0.mk (HM3a.out.move (hb.block gm HM3a.out.lt)); have hs0 := (hb.cell (World.block_lt_of_cell? wc _ ht0)).trans ht0; have hs1 := (hb.cell (World.block_lt_of_cell? wc _ ht1)).trans ht1; have hs2 := (hb.cell (World.block_lt_of_cell? wc _ ht2)).trans ht2; have hs3 := (hb.cell (World.block_lt_of_cell? wc _ ht3)).trans ht3; have hs4 := (hb.cell (World.block_lt_of_cell? wc _ ht4)).trans ht4; have hs5 := (hb.cell (World.block_lt_of_cell? wc _ ht5)).trans ht5; have hs6 := (hb.cell (World.block_lt_of_cell? wc _ ht6)).trans ht6; have hs7 := (hb.cell (World.block_lt_of_cell? wc _ ht7)).trans ht7; clear hb ht0 ht1 ht2 ht3 ht4 ht5 ht6 ht7) | (go_at_call 58; refine (impl_valOk.calls vk vn vs va (l0_4.length : Int) true _ (by rw [impl_valOk.f, vok_says, vB])).mono ?_; rintro e W5 ⟨rfl, hb⟩; have HB5 := Aside0.mk (below_step HB4.out hb); have HM5 := HM4.out.move (hb.block gm HM4.out.lt); have hr0 := (hb.cell (World.block_lt_of_cell? W4 _ hs0)).trans hs0; have hr1 := (hb.cell (World.block_lt_of_cell? W4 _ hs1)).trans hs1; have hr2 := (hb.cell (World.block_lt_of_cell? W4 _ hs2)).trans hs2; have hr3 := (hb.cell (World.block_lt_of_cell? W4 _ hs3)).trans hs3; have hr4 := (hb.cell (World.block_lt_of_cell? W4 _ hs4)).trans hs4; have hr5 := (hb.cell (World.block_lt_of_cell? W4 _ hs5)).trans hs5; have hr6 := (hb.cell (World.block_lt_of_cell? W4 _ hs6)).trans hs6; have hr7 := (hb.cell (World.block_lt_of_cell? W4 _ hs7)).trans hs7; clear hb hs0 hs1 hs2 hs3 hs4 hs5 hs6 hs7; have hlk5 := HM5.lookup vKeyOps Try.underlying85 (fun u => rfl) ⟨pk, pn, ps, pa⟩ false; simp only [vKey, Bool.false_eq_true, if_false] at hlk5; have HM5a := Aside0.mk HM5; clear HM5))
                          go_roundg (gk2 - 1)
                          case measure => have h1 := HJ.out; have h2 := of_eq_true din; omega
                          case rel => exact ⟨wrap64 (y + 1), m1, by first | rfl | (simp [i64_w]; done), ⟨by rw [HW.out]; have h1 := HJ.out; have h2 := of_eq_true din; omega⟩, ⟨by rw [HW.out]; exact HP3.out⟩, HM5a, HB5⟩
              · have dib : decide (y < (prs.length : Int)) = false := decide_eq_false di
                have HE := Aside0.mk (show pairsB (l0_4.length : Int) [] prs = true by rw [HP.out, List.drop_eq_nil_of_le (by have := HJ.out; omega)]; rfl)
                have HT4 := Aside0.mk (show tablesB (l0_4.length : Int) (l0_4.drop (x + 1).toNat) = r by have := HT3.out; rw [HE.out] at this; simpa using this)
                have HW := Aside0.mk (wrap_next (of_eq_true cjn) (of_eq_true cin) (by have := HLn.out; omega))
                clear HT3 HP
                go_wp2
                go_roundg (gk1 - 1)
                case measure => have h1 := HI.out; have h2 := of_eq_true cin; omega
                case rel => exact ⟨wrap64 (x + 1), by first | rfl | (simp [i64_w]; done), ⟨by rw [HW.out]; have h1 := HI.out; have h2 := of_eq_true cin; omega⟩, ⟨by rw [HW.out]; exact HT4.out⟩, HB⟩
        · have cib : decide (x < (l0_4.length : Int)) = false := decide_eq_false ci
          have HE := Aside0.mk (show r = true by rw [← HT.out, List.drop_eq_nil_of_le (by have := HI.out; omega)]; rfl)
          clear HT
          go_wp2
          go_ret
          exact ⟨by rw [HE.out]; rfl, HB.out⟩
end Go.Proofs.Ytkamfnmbidnhdaa.P
