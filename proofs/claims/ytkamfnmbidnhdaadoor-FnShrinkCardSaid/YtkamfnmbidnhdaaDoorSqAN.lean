/- slices.SortFunc at elements of k cells, for the walk by a symbolic frame: the row is put in order in place, all else stays. -/
import Derived.Test.YtkamfnmbidnhdaaDoorSqAL
import Derived.Shelf.SlSortCmp.NoneTotal
import Derived.Test.YtkamfnmbidnhdaaDoorSqAM
import Derived.Test.YtkamfnmbidnhdaaDoorSqAE
import Derived.Test.YtkamfnmbidnhdaaDoorSqAK
import Derived.Test.YtkamfnmbidnhdaaDoorSqAJ
set_option linter.unusedVariables false
set_option linter.unusedSimpArgs false
set_option linter.unusedSectionVars false
namespace Go.Sy
open Go.Sort Go.Proofs Go.Shelf
set_option linter.unusedVariables false
set_option linter.unusedSectionVars false
variable {α : Type} [Inhabited α]
theorem flatK_get {enc : α → List Value} {k : Nat} (hk : ∀ x, (enc x).length = k) (xs : List α) (j : Nat) : (flatK enc k xs.toArray)[j]? = (xs.flatMap enc)[j]? := by
  have hl := flat_length hk xs
  by_cases hj : j < xs.length * k
  · have k0 : 0 < k := by rcases Nat.eq_zero_or_pos k with h | h; · subst h; simp at hj
                          · exact h
    have hi : j / k < xs.length := Nat.div_lt_of_lt_mul (by rwa [Nat.mul_comm] at hj)
    have hr : j % k < k := Nat.mod_lt _ k0
    have hz : j < (flatK enc k xs.toArray).size := by rw [size_flatK]; simpa using hj
    have h1 := get_flatK enc k xs.toArray j (by simpa using hj)
    have h2 := flat_get hk xs (j / k) xs[j / k] (List.getElem?_eq_getElem hi) (j % k) ((enc xs[j / k])[j % k]'(by rw [hk]; exact hr)) (List.getElem?_eq_getElem (by rw [hk]; exact hr))
    rw [Nat.mul_comm, Nat.div_add_mod] at h2
    rw [h2, Array.getElem?_eq_getElem hz]
    rw [getElem!_pos _ j hz] at h1
    rw [h1, getElem!_pos xs.toArray (j / k) (by simpa using hi), getElem!_pos _ (j % k) (by rw [hk]; exact hr)]
    simp
  · rw [Array.getElem?_eq_none (by simp; omega), List.getElem?_eq_none (by omega)]
theorem putCells_size (off : Nat) (F arr : Array Value) : (putCells id off F arr).size = arr.size := by simp [putCells]
theorem putCells_in (off : Nat) (F arr : Array Value) (j : Nat) (v : Value) (hv : F[j]? = some v) (ha : off + F.size ≤ arr.size) : (putCells id off F arr)[off + j]? = some v := by
  have hj := (Array.getElem?_eq_some_iff.1 hv).1
  have hx : off + j < arr.size := by omega
  simp only [putCells, Array.getElem?_mapIdx, Array.getElem?_eq_getElem hx, Option.map_some]
  rw [if_pos ⟨by omega, by omega⟩]
  have : off + j - off = j := by omega
  rw [this, getElem!_pos F j hj]
  obtain ⟨_, h⟩ := Array.getElem?_eq_some_iff.1 hv
  simp [h]
variable {P : Program} {ρ : Ren}
/-- slices.SortFunc. -/
theorem sort_tri (L : SlLaysF0.n6 P ρ) (k : Nat) (aE : ∀ w, (isAgg (ρ.t 24)).run P w = .ok true w) (zE : ∀ w, (Go.sizeOf (ρ.t 24)).run P w = .ok k w) (enc : α → List Value) (hk : ∀ x, (enc x).length = k) (h1 : ∀ x, ∀ v ∈ enc x, v.oneCell' = true)
    (cf : α → α → Int) (hO : SWO (ltOf cf)) (g : Nat) (cb : Array Value) (eg : ∀ args w, (callFunc g args).run P w = .ok (.enter g args) w)
    (hcmp : ∀ (W : World) (x y : α), Calls P g (#[.agg (enc x).toArray, .agg (enc y).toArray] ++ cb) W fun e w' => e = .returned (.int .i64 (cf x y)) ∧ ∃ q os, w' = grow (W.drewN q) os)
    {h : Hp} {A : Option Addr} {n c : Nat} {e : TypeId} (xs : List α) (hA : Own h A n c e k (xs.flatMap enc)) (hn : n = xs.length) (hsz : n < 4611686018427387904) :
    Tri P (ρ.f 6) #[.slice A n c, .func (.func g) #[] cb] h fun v h' => v = .tuple #[] ∧ ∃ ys : List α, ys.Perm xs ∧ ys.Pairwise (fun x y => ltOf cf y x = false) ∧ Own h' A n c e k (ys.flatMap enc) ∧ ∀ b, blk A ≠ some b → h' b = h b := by
  intro K N w d
  subst hn
  by_cases h0 : xs.length = 0
  · have : xs = [] := List.length_eq_zero_iff.1 h0
    subst this
    refine (AnyF.slices_SortFunc_none L A c (.func (.func g) #[] cb) w).mono ?_
    rintro e w' ⟨rfl, rfl⟩
    exact ⟨_, h, rfl, ⟨rfl, [], List.Perm.refl _, List.Pairwise.nil, hA, fun _ _ => rfl⟩, d⟩
  · cases A with
    | none => have := hA.nil rfl; have := hA.cap; omega
    | some a =>
      obtain ⟨hsp, arr, harr, hsize, hget⟩ := hA.row a rfl
      obtain ⟨b, off, sp⟩ := a
      simp only at hsp harr hsize hget
      subst hsp
      have hw := d.ext b _ harr
      have hblk : b < w.heap.size := (Array.getElem?_eq_some_iff.1 hw).1
      have hcap : xs.length * k ≤ c * k := Nat.mul_le_mul_right k hA.cap
      have hH : HoldsK enc k w b off xs.toArray := fun j hj => by
        have hj' : j < xs.length * k := by simpa using hj
        have hlt : j < (xs.flatMap enc).length := by rw [flat_length hk]; exact hj'
        have e1 := hget j _ (List.getElem?_eq_getElem hlt)
        refine ⟨?_, not_frozen hw⟩
        rw [cell_of hw, e1]
        have e2 := flatK_get hk xs j
        rw [List.getElem?_eq_getElem hlt, Array.getElem?_eq_getElem hj] at e2
        rw [getElem!_pos _ j hj]
        exact e2.symm
      have key := AnyQ.slices_SortFunc L k aE zE enc hk h1 cf hO g cb b off c xs.toArray w eg (fun m os dk _ x y => hcmp _ x y) hH hblk (by simpa using hsz)
      rw [List.size_toArray] at key
      refine key.mono ?_
      rintro e w' ⟨rfl, d', m, os, hp, hs, rfl⟩
      have hds : d'.size = xs.length := by simpa using hp.1
      have hF : off + (flatK enc k d').size ≤ arr.size := by rw [size_flatK, hds]; omega
      have hin : ∀ x, x < w.heap.size → (sortWorldK enc k w b off m d' os).heap[x]? = if b = x then some (.cells (putCells id off (flatK enc k d') arr) e (0, 0)) else w.heap[x]? := fun x hx => by
        show ((w.heap.modify b (onCells (putCells id off (flatK enc k d')))) ++ os)[x]? = _
        rw [Array.getElem?_append_left (by simpa using hx), Array.getElem?_modify]
        by_cases hb : b = x
        · subst hb
          rw [if_pos rfl, if_pos rfl, hw]; rfl
        · rw [if_neg hb, if_neg hb]
      refine ⟨_, upd h b (.cells (putCells id off (flatK enc k d') arr) e (0, 0)), rfl, ⟨rfl, d'.toList, ?_, ?_, ?_, fun x hx => upd_ne (fun e => hx (by rw [e]; rfl))⟩, ⟨fun x o hx => ?_, fun x o hx => ?_, ?_⟩⟩
      · have h3 := hp.2.2
        have e1 : d'.extract 0 xs.length = d' := by rw [← hds]; simp
        have e2 : xs.toArray.extract 0 xs.length = xs.toArray := by simp
        rw [e1, e2] at h3
        simpa using h3
      · rw [List.pairwise_iff_getElem]
        intro i j hi hj hij
        have := hs i j (Nat.zero_le _) hij (by rw [← hds]; simpa using hj)
        rw [getElem!_pos d' i (by simpa using hi), getElem!_pos d' j (by simpa using hj)] at this
        simpa using this
      · refine ⟨by rw [flat_length hk]; simp [hds], hA.cap, fun h => (by cases h), fun a ha => ?_⟩
        have e1 := Option.some.inj ha; subst e1
        refine ⟨rfl, _, upd_here .., by rw [putCells_size]; exact hsize, fun j v hj => ?_⟩
        refine putCells_in off _ _ j v ?_ hF
        have := flatK_get hk d'.toList j
        rw [this]; exact hj
      · by_cases hb : x = b
        · subst hb
          rw [upd_here] at hx
          rw [hin _ hblk, if_pos rfl]; exact hx
        · rw [upd_ne hb] at hx
          have := d.ext x o hx
          rw [hin _ (Array.getElem?_eq_some_iff.1 this).1, if_neg (Ne.symm hb)]; exact this
      · have h2 := d.hid x o hx
        have hb : x ≠ b := fun e => by rw [e, harr] at h2; cases h2.2
        exact ⟨by rw [hin _ (Array.getElem?_eq_some_iff.1 h2.1).1, if_neg (Ne.symm hb)]; exact h2.1, by rw [upd_ne hb]; exact h2.2⟩
      · refine d.size.trans ⟨?_, rfl, rfl, rfl, ?_⟩
        · show w.heap.size ≤ ((w.heap.modify b _) ++ os).size
          simp
        · show w.drawn ≤ w.drawn + m
          omega
theorem sort_tris (L : SlLaysF0.n6 P ρ) (k : Nat) (aE : ∀ w, (isAgg (ρ.t 24)).run P w = .ok true w) (zE : ∀ w, (Go.sizeOf (ρ.t 24)).run P w = .ok k w) (enc : α → List Value) (hk : ∀ x, (enc x).length = k) (h1 : ∀ x, ∀ v ∈ enc x, v.oneCell' = true)
    (cf : α → α → Int) (hO : SWO (ltOf cf)) (g : Nat) (eg : ∀ args w, (callFunc g args).run P w = .ok (.enter g args) w)
    (hcmp : ∀ (W : World) (x y : α), Calls P g #[.agg (enc x).toArray, .agg (enc y).toArray] W fun e w' => e = .returned (.int .i64 (cf x y)) ∧ ∃ q os, w' = grow (W.drewN q) os)
    {h : Hp} {A : Option Addr} {n c : Nat} {e : TypeId} (xs : List α) (hA : Own h A n c e k (xs.flatMap enc)) (hn : n = xs.length) (hsz : n < 4611686018427387904) {f : FuncId} (hf : f = ρ.f 6) (s : SV) (hs : valE [] s = some (.func (.func g) #[] #[])) :
    TriS P f [.v (.slice A n c), s] [] h (fun _ : Unit => .v (.tuple #[])) (fun _ => []) (fun _ h' => ∃ ys : List α, ys.Perm xs ∧ ys.Pairwise (fun x y => ltOf cf y x = false) ∧ Own h' A n c e k (ys.flatMap enc) ∧ ∀ b, blk A ≠ some b → h' b = h b) := by
  intro _ _ vs h0 e1 e2
  simp only [valsE, valE, hs, Option.some.injEq] at e1
  subst e1
  have e : h = h0 := by simpa [addsE] using e2
  subst e
  subst hf
  refine (sort_tri L k aE zE enc hk h1 cf hO g #[] eg (fun W x y => by simpa using hcmp W x y) xs hA hn hsz).mono ?_
  rintro v h' ⟨rfl, hy⟩
  exact ⟨(), h', rfl, rfl, fun b hb => (by simp [names] at hb), hy⟩
end Go.Sy
/- slices.SortFunc over pairs, slices.Clone of pairs, impl.sortedPairs. No condition. -/
namespace Go.Proofs.YtkamfnmbidnhdaaDoor
open Go.Sy
set_option maxRecDepth 100000
set_option maxHeartbeats 4000000
set_option linter.unusedVariables false
set_option linter.unusedSimpArgs false
structure KP where
  val : Pr
  ok : Kd val.key
instance : Inhabited KP := ⟨⟨⟨⟨0, 0, ⟨#[]⟩, 0⟩, ⟨0, 0, ⟨#[]⟩, 0⟩⟩, ⟨Int.le_refl _, by decide⟩⟩⟩
def KP.c (x : KP) : List Value := x.val.c
theorem KP.c_len (x : KP) : x.c.length = 8 := rfl
theorem KP.one (x : KP) : ∀ v ∈ x.c, v.oneCell' = true := fun v hv => by
  simp only [KP.c, Pr.c, List.mem_cons, List.not_mem_nil, or_false] at hv
  rcases hv with rfl | rfl | rfl | rfl | rfl | rfl | rfl | rfl <;> rfl
theorem kp_flat (l : List KP) : l.flatMap KP.c = (l.map KP.val).flatMap Pr.c := by
  induction l with
  | nil => rfl
  | cons x r ih => simp only [List.flatMap_cons, List.map_cons, ih]; rfl
theorem kp_of : ∀ (xs : List Pr), (∀ p ∈ xs, Kd p.key) → ∃ l : List KP, l.map KP.val = xs
  | [], _ => ⟨[], rfl⟩
  | p :: r, h => by
    obtain ⟨l, hl⟩ := kp_of r (fun x hx => h x (.tail _ hx))
    exact ⟨⟨p, h p (.head _)⟩ :: l, by rw [List.map_cons, hl]⟩
theorem sort117 (xs : List Pr) (A : Option Addr) (n c : Nat) (h : Hp) (hO : Own h A n c 61 8 (xs.flatMap Pr.c)) (hk : ∀ p ∈ xs, Kd p.key) (hl : xs.length ≤ 1000000) :
    TriS Tryd.prog 117 [.v (.slice A n c), .v (.func (.func 118) #[] #[])] [] h (fun _ : Unit => .v (.tuple #[])) (fun _ => []) (fun _ h' => ∃ ys : List Pr, ys.Perm xs ∧ Srt ys ∧ Own h' A n c 61 8 (ys.flatMap Pr.c) ∧ ∀ b, blk A ≠ some b → h' b = h b) := by
  obtain ⟨l, rfl⟩ := kp_of xs hk
  rw [← kp_flat] at hO
  have hn : n = l.length := by have := hO.len; rw [flat_length KP.c_len] at this; omega
  have key := sort_tris (Tryd.sortPr) 8 Tryd.isAgg61 Tryd.sizeOf61 KP.c KP.c_len KP.one (fun x y : KP => kc x.1.key y.1.key) (kc_swo fun x : KP => x.1.key) 118 (enters_of Tryd.func118 (by kernel_rfl) rfl)
    (fun W x y => le_lays (val := fun z : Int => .v (.int .i64 z)) (r := kc x.1.key y.1.key) W rfl rfl (cmp118 x.1 y.1 (hpOf W) x.2 y.2)) l hO hn (by rw [List.length_map] at hl; omega) (f := 117) rfl (.v (.func (.func 118) #[] #[])) rfl
  intro e1 e2 vs h0 e3 e4
  refine (key e1 e2 vs h0 e3 e4).mono ?_
  rintro v h'' ⟨y, h', a, b, c, ys, hp, hs, hO', hK⟩
  refine ⟨y, h', a, b, c, ys.map KP.val, hp.map _, ?_, by rw [← kp_flat]; exact hO', hK⟩
  unfold Srt
  rw [List.pairwise_map]
  exact hs
theorem clone116 (xs : List Pr) (A : Option Addr) (n c : Nat) (h : Hp) (hP : Pairs h A n xs) (hl : xs.length ≤ 1000000) :
    TriS Tryd.prog 116 [.v (.slice A n c)] [] h (fun y : Option Addr × Nat => .v (.slice y.1 xs.length y.2)) (fun _ => []) (fun y h' => Own h' y.1 xs.length y.2 61 8 (xs.flatMap Pr.c) ∧ Le h h' ∧ Off h y.1) := by
  obtain rfl := hP.1
  refine enterS Tryd.func116 rfl (n := 8) rfl rfl (fun k N => ?_)
  cases A with
  | none =>
    have h0 := hP.2.nil rfl
    have : xs = [] := List.length_eq_zero_iff.1 h0
    subst this
    repeat' (first | (refine r_pure hT rfl rfl rfl rfl ?_) | (refine r_new hT rfl rfl rfl rfl ?_) | (refine r_write hT rfl rfl rfl ?_) | (refine r_nil ?_) | (refine q_nil ?_) | (refine r_slnil hT rfl rfl rfl rfl rfl rfl rfl ?_) | (refine r_arith rfl rfl rfl rfl rfl rfl rfl (by omega) ?_) | (with_reducible refine r_seq ?_) | (with_reducible refine x_then ?_) | (with_reducible refine r_region ?_) | (refine r_draw hM (by kernel_rfl) ?_) | (with_reducible refine r_skip ?_) | (with_reducible refine r_ret ?_) | (with_reducible refine x_then_ret ?_) | (with_reducible refine r_block ?_) | (with_reducible refine x_block ?_) | (with_reducible refine x_block_ret ?_) | (with_reducible refine r_exit ?_) | (with_reducible refine x_then_exit ?_) | (with_reducible refine x_block_here ?_) | (refine x_block_past rfl ?_) | (refine c_yes rfl (by omega) ?_) | (refine c_no rfl (by omega) ?_) | (refine c_no rfl (fun h => h rfl) ?_) | (refine r_cond_false rfl ?_) | (refine r_cond_true rfl ?_) | (refine r_cond_dec rfl (fun _ => ?_) (fun _ => ?_)) | (refine r_cond_true rfl ?_) | (refine r_cond_false rfl ?_) | (refine c_not rfl (fun _ => ?_) (fun _ => ?_)) | (refine r_off rfl rfl rfl ?_) | (refine q_guard rfl rfl (fun _ => ?_) (fun _ => ?_)) | (refine q_guardn rfl rfl (fun _ => ?_) (fun _ => ?_)))
    exact r_fin hT rfl ((none, 0) : Option Addr × Nat) rfl rfl rfl trivial rfl ⟨own_nil, Le.refl _, off_nil⟩
  | some ad =>
    repeat' (first | (refine r_pure hT rfl rfl rfl rfl ?_) | (refine r_new hT rfl rfl rfl rfl ?_) | (refine r_write hT rfl rfl rfl ?_) | (refine r_nil ?_) | (refine q_nil ?_) | (refine r_slnil hT rfl rfl rfl rfl rfl rfl rfl ?_) | (refine r_bslice hT (ps := []) rfl rfl rfl rfl rfl rfl rfl (by simp) rfl rfl (by decide) (fun b3 hb3 => ?_)) | ((refine r_append hT (cs := []) (news := xs.flatMap Pr.c) rfl rfl rfl rfl rfl rfl rfl rfl rfl rfl rfl ⟨rfl, Nat.le_refl _, fun h => (by cases h), fun a ha => (by have e := Option.some.inj ha; subst e; exact ⟨rfl, _, upd_here .., Nat.le_refl _, fun j v hj => (by simp at hj)⟩)⟩ (hP.2.le ((Le.refl h).upd hb3)) (Pr.one _) (by dsimp only; omega) (by omega) (fun A' c' u3 hO3 hG3 => ?_))) | (refine r_arith rfl rfl rfl rfl rfl rfl rfl (by omega) ?_) | (with_reducible refine r_seq ?_) | (with_reducible refine x_then ?_) | (with_reducible refine r_region ?_) | (refine r_draw hM (by kernel_rfl) ?_) | (with_reducible refine r_skip ?_) | (with_reducible refine r_ret ?_) | (with_reducible refine x_then_ret ?_) | (with_reducible refine r_block ?_) | (with_reducible refine x_block ?_) | (with_reducible refine x_block_ret ?_) | (with_reducible refine r_exit ?_) | (with_reducible refine x_then_exit ?_) | (with_reducible refine x_block_here ?_) | (refine x_block_past rfl ?_) | (refine c_yes rfl (by omega) ?_) | (refine c_no rfl (by omega) ?_) | (refine c_no rfl (fun h => h rfl) ?_) | (refine r_cond_false rfl ?_) | (refine r_cond_true rfl ?_) | (refine r_cond_dec rfl (fun _ => ?_) (fun _ => ?_)) | (refine r_cond_true rfl ?_) | (refine r_cond_false rfl ?_) | (refine c_not rfl (fun _ => ?_) (fun _ => ?_)) | (refine r_off rfl rfl rfl ?_) | (refine q_guard rfl rfl (fun _ => ?_) (fun _ => ?_)) | (refine q_guardn rfl rfl (fun _ => ?_) (fun _ => ?_)))
    have hk := hG3 h ((Le.refl h).upd hb3) (fun b hb => by have e := Option.some.inj hb; subst e; exact hb3)
    have e0 : 0 + xs.length = xs.length := by omega
    rw [e0] at hO3 ⊢
    exact r_fin hT rfl (A', c') rfl rfl rfl trivial rfl ⟨by simpa using hO3, hk.1, hk.2⟩
theorem sorted78 (t : List Pr) (A : Option Addr) (n c : Nat) (h : Hp) (hP : Pairs h A n t) (hk : ∀ p ∈ t, Kd p.key) (hl : t.length ≤ 1000000) :
    TriS Tryd.prog 78 [.ag [.v (.slice A n c)]] [] h (fun y : Option Addr × Nat => .v (.slice y.1 t.length y.2)) (fun _ => []) (fun y h' => ∃ ys : List Pr, ys.Perm t ∧ Srt ys ∧ Own h' y.1 t.length y.2 61 8 (ys.flatMap Pr.c) ∧ Le h h' ∧ Off h y.1) := by
  refine enterS Tryd.func78 rfl (n := 10) rfl rfl (fun k N => ?_)
  repeat' (first | (refine r_pure hT rfl rfl rfl rfl ?_) | (refine r_new hT rfl rfl rfl rfl ?_) | (refine r_write hT rfl rfl rfl ?_) | (refine r_nil ?_) | (refine q_nil ?_) | (refine r_call (clone116 t A n c h hP hl) rfl rfl rfl rfl rfl (hC _ rfl) rfl rfl (fun y h1 hy => ?_)) | (refine r_call (sort117 t y.1 t.length y.2 h1 hy.1 hk hl) rfl rfl rfl rfl rfl (hC _ rfl) rfl rfl (fun z h2 hz => ?_)) | (refine r_arith rfl rfl rfl rfl rfl rfl rfl (by omega) ?_) | (with_reducible refine r_seq ?_) | (with_reducible refine x_then ?_) | (with_reducible refine r_region ?_) | (refine r_draw hM (by kernel_rfl) ?_) | (with_reducible refine r_skip ?_) | (with_reducible refine r_ret ?_) | (with_reducible refine x_then_ret ?_) | (with_reducible refine r_block ?_) | (with_reducible refine x_block ?_) | (with_reducible refine x_block_ret ?_) | (with_reducible refine r_exit ?_) | (with_reducible refine x_then_exit ?_) | (with_reducible refine x_block_here ?_) | (refine x_block_past rfl ?_) | (refine c_yes rfl (by omega) ?_) | (refine c_no rfl (by omega) ?_) | (refine c_no rfl (fun h => h rfl) ?_) | (refine r_cond_false rfl ?_) | (refine r_cond_true rfl ?_) | (refine r_cond_dec rfl (fun _ => ?_) (fun _ => ?_)) | (refine r_cond_true rfl ?_) | (refine r_cond_false rfl ?_) | (refine c_not rfl (fun _ => ?_) (fun _ => ?_)) | (refine r_off rfl rfl rfl ?_) | (refine q_guard rfl rfl (fun _ => ?_) (fun _ => ?_)) | (refine q_guardn rfl rfl (fun _ => ?_) (fun _ => ?_)))
  obtain ⟨h3, h4, h5⟩ := hy
  obtain ⟨ys, g1, g2, g3, g4⟩ := hz
  refine r_fin hT rfl y rfl rfl rfl trivial rfl ⟨ys, g1, g2, g3, fun b o hb => ?_, h5⟩
  rw [g4 b (fun e => by rw [h5 b e] at hb; cases hb)]
  exact h4 b o hb
end Go.Proofs.YtkamfnmbidnhdaaDoor
/- The walk by a symbolic frame: a block of the frame, which may name itself, handed to the heap at large. -/
namespace Go.Sy
section
variable {P : Program} {F : Fr} {tm : Tm} {L : Lm} {u : Hp} {Q : Exit → Act → World → Prop}
/-- A block that may name itself. -/
theorem r_pub {l r : List Oper} (i : Nat) {B : Blk} (vs : Nat → List Value) (hK : F.K = []) (hB : kget L i = some B) (hv : ∀ b, valsE [] (SV.pubs i b B.cells) = some (vs b))
    (next : ∀ b, u b = none → Run P Q F (pubT i b tm) (pubL i b L) (upd u b (.cells (vs b).toArray B.ty (0, 0))) .seq l r) (hD : F.n.D = [] := by rfl) : Run P Q F tm L u .seq l r := by
  intro β a w hf ht hd
  obtain ⟨h1, h2, h3⟩ := hd.loc i B hB
  have hi : (kget L i).isSome = true := by rw [hB]; rfl
  have hu : u (β i) = none := by
    cases h : u (β i) with
    | none => rfl
    | some o => exact absurd rfl ((hd.ext _ o h).2 i hi)
  rw [← pubs_den (b := β i) rfl, valsE_den (L := []) (fun j B b h => by simp [kget] at h) (hv (β i))] at h1
  refine next (β i) hu β a w (fun j hj => by rw [hK] at hj; cases hj) ⟨ht.size, ht.defers, by rw [hD]; rfl, fun t s hs => ?_⟩ ⟨fun j B' hB' => ?_, fun x y hx hy => ?_, fun x o hx => ?_, fun x o hx => ⟨(hd.hid x o hx).1, ?_, fun j hj => ?_⟩, hd.size⟩
  · obtain ⟨s0, g1, rfl⟩ := pubT_get hs
    rw [pub_den rfl]
    exact ⟨(ht.get t s0 g1).1, pub_ok s0 (ht.get t s0 g1).2⟩
  · obtain ⟨_, B0, g1, rfl⟩ := pubL_get hB'
    obtain ⟨x1, x2, x3⟩ := hd.loc j B0 g1
    exact ⟨by rw [pubs_den rfl]; exact x1, x2, pubs_ok _ x3⟩
  · obtain ⟨Bx, hBx⟩ := Option.isSome_iff_exists.1 hx
    obtain ⟨By, hBy⟩ := Option.isSome_iff_exists.1 hy
    obtain ⟨_, _, g1, _⟩ := pubL_get hBx
    obtain ⟨_, _, g2, _⟩ := pubL_get hBy
    exact hd.inj x y (by rw [g1]; rfl) (by rw [g2]; rfl)
  · have hne : ∀ j, (kget (pubL i (β i) L) j).isSome = true → j ≠ i ∧ (kget L j).isSome = true := fun j hj => by
      obtain ⟨Bj, hBj⟩ := Option.isSome_iff_exists.1 hj
      obtain ⟨g0, _, g1, _⟩ := pubL_get hBj
      exact ⟨g0, by rw [g1]; rfl⟩
    by_cases hxb : x = β i
    · subst hxb
      rw [upd_here] at hx; have e := Option.some.inj hx; subst e
      exact ⟨h1, fun j hj e => (hne j hj).1 (hd.inj j i (hne j hj).2 hi e)⟩
    · rw [upd_ne hxb] at hx
      exact ⟨(hd.ext x o hx).1, fun j hj => (hd.ext x o hx).2 j (hne j hj).2⟩
  · rw [upd_ne (fun e => (hd.hid x o hx).2.2 i hi e.symm)]; exact (hd.hid x o hx).2.1
  · obtain ⟨Bj, hBj⟩ := Option.isSome_iff_exists.1 hj
    obtain ⟨_, _, g1, _⟩ := pubL_get hBj
    exact (hd.hid x o hx).2.2 j (by rw [g1]; rfl)
end
theorem up_none {u : Hp} {b x : Nat} {o : Obj} (h : upd u b o x = none) : x ≠ b ∧ u x = none := by
  by_cases e : x = b
  · subst e; rw [upd_here] at h; cases h
  · exact ⟨e, by rwa [upd_ne e] at h⟩
end Go.Sy
/- The specification's freezing, whole. No condition. -/
namespace Go.Proofs.YtkamfnmbidnhdaaDoor
open Go.Sy
set_option maxRecDepth 100000
set_option maxHeartbeats 8000000
set_option linter.unusedVariables false
set_option linter.unusedSimpArgs false
end Go.Proofs.YtkamfnmbidnhdaaDoor
namespace Go.Proofs.YtkamfnmbidnhdaaDoor
open Go.Sy
set_option maxRecDepth 100000
set_option maxHeartbeats 4000000
set_option linter.unusedVariables false
set_option linter.unusedSimpArgs false
theorem WSt.le {h0 u u' : Hp} {pb : Nat} {g : V} {A : Option Addr} {c : Nat} {ts : List (List Pr)} {bn offn cn : Nat} {Ao : Option Addr} {co : Nat} {ord : List Nat} (h : WSt h0 u pb g A c ts bn offn cn Ao co ord) (hl : Le u u') : WSt h0 u' pb g A c ts bn offn cn Ao co ord :=
  ⟨hl _ _ h.cell, h.no.le fun b o _ => hl b o, h.od.le fun b o _ => hl b o, h.base.trans hl, h.hp, h.hn, h.ho, h.ap, h.tabs⟩
theorem valOld {h0 u : Hp} {pb : Nat} {g : V} {A : Option Addr} {c : Nat} {ts : List (List Pr)} {bn offn cn : Nat} {Ao : Option Addr} {co : Nat} {ord : List Nat} (hW : WSt h0 u pb g A c ts bn offn cn Ao co ord) (v : V) (hv : In ts.length v) (hio : v.k = 4 → v.a.toNat ∈ ord) :
    Pur Tryd.prog 130 [.v (.pointer (some ⟨pb, 0, none⟩)), .ag v.sv] u (fun r : V => .ag r.sv) (ren ord v) := by
  refine enterS Tryd.func130 rfl (n := 73) rfl rfl (fun k N => ?_)
  by_cases h4 : v.k = 4
  · have hva := hv h4
    have hlt : v.a.toNat < ts.length := by omega
    have hin := hio h4
    have hx := numL_get (ord := ord) hlt
    rw [if_pos hin] at hx
    have hatW := hW.at_
    have hatn := own_at hW.no hx
    repeat' (first | (refine r_pure hT rfl rfl rfl rfl ?_) | (refine r_new hT rfl rfl rfl rfl ?_) | (refine r_write hT rfl rfl rfl ?_) | (refine r_nil ?_) | (refine q_nil ?_) | (refine r_draw (id := 3) hM (by kernel_rfl) ?_) | (refine r_load hT hatW rfl rfl rfl rfl rfl rfl rfl rfl rfl rfl rfl ?_) | (refine r_index hT rfl rfl rfl rfl rfl rfl rfl rfl rfl hva.1 hva.2 ?_) | (refine r_load hT hatn rfl rfl rfl rfl rfl (Nat.add_zero _).symm rfl rfl rfl rfl rfl ?_) | (refine c_no rfl (fun h => h h4) ?_) | (refine r_many (id := 11) [0, 1, 2, 3, 4, 5, 6, 7, 8] [9] u (Le.refl u) hM (by kernel_rfl) rfl (by kernel_rfl) rfl rfl rfl (fun β0 => ?_)) | (refine m_late rfl rfl ?_) | (refine r_arith rfl rfl rfl rfl rfl rfl rfl (by omega) ?_) | (with_reducible refine r_seq ?_) | (with_reducible refine x_then ?_) | (with_reducible refine r_region ?_) | (with_reducible refine r_skip ?_) | (with_reducible refine r_ret ?_) | (with_reducible refine x_then_ret ?_) | (with_reducible refine r_block ?_) | (with_reducible refine x_block ?_) | (with_reducible refine x_block_ret ?_) | (with_reducible refine r_exit ?_) | (with_reducible refine x_then_exit ?_) | (with_reducible refine x_block_here ?_) | (refine x_block_past rfl ?_) | (refine c_yes rfl (by omega) ?_) | (refine c_no rfl (by omega) ?_) | (refine c_no rfl (fun h => h rfl) ?_) | (refine r_cond_false rfl ?_) | (refine r_cond_true rfl ?_) | (refine r_cond_dec rfl (fun _ => ?_) (fun _ => ?_)) | (refine r_cond_true rfl ?_) | (refine r_cond_false rfl ?_) | (refine c_not rfl (fun _ => ?_) (fun _ => ?_)) | (refine r_off rfl rfl rfl ?_) | (refine q_guard rfl rfl (fun _ => ?_) (fun _ => ?_)) | (refine q_guardn rfl rfl (fun _ => ?_) (fun _ => ?_)) | (refine s_nil ?_) | (with_reducible refine a_full ?_) | (refine m_step rfl rfl (List.cons_ne_nil _ _) ?_) | (refine allR_cons rfl ?_ ?_) | (exact allR_nil) | (refine m_end rfl rfl rfl ?_))
    exact r_fin hT rfl (⟨v.k, v.n, v.s, (ord.idxOf v.a.toNat : Nat)⟩ : V) rfl rfl rfl trivial rfl ⟨by simp only [ren, if_pos h4], rfl⟩
  · repeat' (first | (refine r_pure hT rfl rfl rfl rfl ?_) | (refine r_new hT rfl rfl rfl rfl ?_) | (refine r_write hT rfl rfl rfl ?_) | (refine r_nil ?_) | (refine q_nil ?_) | (refine c_yes rfl h4 ?_) | (refine r_arith rfl rfl rfl rfl rfl rfl rfl (by omega) ?_) | (with_reducible refine r_seq ?_) | (with_reducible refine x_then ?_) | (with_reducible refine r_region ?_) | (refine r_draw hM (by kernel_rfl) ?_) | (with_reducible refine r_skip ?_) | (with_reducible refine r_ret ?_) | (with_reducible refine x_then_ret ?_) | (with_reducible refine r_block ?_) | (with_reducible refine x_block ?_) | (with_reducible refine x_block_ret ?_) | (with_reducible refine r_exit ?_) | (with_reducible refine x_then_exit ?_) | (with_reducible refine x_block_here ?_) | (refine x_block_past rfl ?_) | (refine c_yes rfl (by omega) ?_) | (refine c_no rfl (by omega) ?_) | (refine c_no rfl (fun h => h rfl) ?_) | (refine r_cond_false rfl ?_) | (refine r_cond_true rfl ?_) | (refine r_cond_dec rfl (fun _ => ?_) (fun _ => ?_)) | (refine r_cond_true rfl ?_) | (refine r_cond_false rfl ?_) | (refine c_not rfl (fun _ => ?_) (fun _ => ?_)) | (refine r_off rfl rfl rfl ?_) | (refine q_guard rfl rfl (fun _ => ?_) (fun _ => ?_)) | (refine q_guardn rfl rfl (fun _ => ?_) (fun _ => ?_)))
    exact r_fin hT rfl v rfl rfl rfl trivial rfl ⟨by simp only [ren, if_neg h4], rfl⟩
theorem numL_nil (n : Nat) : (List.range n).flatMap (fun _ => [Value.int .i64 (-1)]) = numL n [] := by
  simp [numL, List.flatMap_def, List.map_const', List.flatten_replicate_singleton]
theorem part_keep {u u' : Hp} {A A' : Option Addr} (h : Grown u u' A A') : Le (part u A) (part u' A') := fun b o hb => by
  unfold part at hb
  split at hb
  · cases hb
  · rename_i hne
    obtain ⟨h1, h2⟩ := h.keep b o hb hne
    rw [part_at h2]; exact h1
theorem sl_all {u : Hp} {b m sz : Nat} {vs : List Value} {t : TypeId} (h : u b = some (.cells vs.toArray t (0, 0))) (hl : vs.length = m * sz) : Sl u (some ⟨b, 0, none⟩) m sz vs :=
  ⟨hl, fun h => (by cases h), fun a ha _ => by have e := Option.some.inj ha; subst e; exact ⟨rfl, _, _, _, h, fun j x hj => by simpa using hj⟩⟩
theorem pr_ones {p : Pr} : ∀ v ∈ Pr.c p, Go.Sy.one v = true := fun v hv => by
  simp only [Pr.c, List.mem_cons, List.not_mem_nil, or_false] at hv
  rcases hv with rfl | rfl | rfl | rfl | rfl | rfl | rfl | rfl <;> rfl
theorem le_fresh {h u : Hp} {b : Nat} {o : Obj} (hl : Le h u) (hb : u b = none) : Le h (upd u b o) := fun x o' hx => by
  rw [upd_ne (fun e => by subst e; rw [hl _ _ hx] at hb; cases hb)]; exact hl x o' hx
theorem l2canon (v : V) (ts : List (List Pr)) (A : Option Addr) (n c : Nat) (h : Hp) (hP : Tabs h A n ts) (hA : AllIn ts) (hv : In ts.length v) (hn : ts.length ≤ 1000000) (hc : ∀ t ∈ ts, t.length ≤ 1000000) :
    TriS Tryd.prog 91 [.ag (gsv v A n c)] [] h (fun y : Option Addr × Nat => .ag (gsv (ren (ordOf ts v) v) y.1 (ordOf ts v).length y.2)) (fun _ => []) (fun y h' => Tabs h' y.1 (ordOf ts v).length (cTs ts (ordOf ts v)) ∧ Le h h') := by
  obtain rfl := hP.len
  refine enterS Tryd.func91 rfl (n := 85) rfl rfl (fun k N => ?_)
  repeat' (first | (refine r_pure hT rfl rfl rfl rfl ?_) | (refine r_new hT rfl rfl rfl rfl ?_) | (refine r_write hT rfl rfl rfl ?_) | (refine r_nil ?_) | (refine q_nil ?_) | (refine r_many (id := 1) [0, 1, 2, 3] [] h (Le.refl h) hM (by kernel_rfl) rfl (by kernel_rfl) rfl rfl rfl (fun β0 => ?_)) | ((refine r_makeN hT rfl rfl rfl rfl rfl rfl rfl (by simp) rfl rfl (by dsimp only; omega) (by omega) (fun b0 hb0 => ?_) ; have hle0 := (Le.refl h).upd (o := .cells (reps ts.length [Value.int .i64 0]).toArray 3 (0, 0)) hb0)) | (refine r_build hT rfl rfl rfl (ps := [(0, .tmp 11), (1, .tmp 15)]) rfl rfl rfl rfl rfl rfl ?_) | (refine m_keep hle0 ⟨rfl, rfl, trivial⟩ rfl rfl ?_) | (refine m_keep (Le.refl h) ⟨rfl, rfl, trivial⟩ rfl rfl ?_) | (refine r_arith rfl rfl rfl rfl rfl rfl rfl (by omega) ?_) | (with_reducible refine r_seq ?_) | (with_reducible refine x_then ?_) | (with_reducible refine r_region ?_) | (with_reducible refine r_skip ?_) | (with_reducible refine r_ret ?_) | (with_reducible refine x_then_ret ?_) | (with_reducible refine r_block ?_) | (with_reducible refine x_block ?_) | (with_reducible refine x_block_ret ?_) | (with_reducible refine r_exit ?_) | (with_reducible refine x_then_exit ?_) | (with_reducible refine x_block_here ?_) | (refine x_block_past rfl ?_) | (refine c_yes rfl (by omega) ?_) | (refine c_no rfl (by omega) ?_) | (refine c_no rfl (fun h => h rfl) ?_) | (refine r_cond_false rfl ?_) | (refine r_cond_true rfl ?_) | (refine r_cond_dec rfl (fun _ => ?_) (fun _ => ?_)) | (refine r_cond_true rfl ?_) | (refine r_cond_false rfl ?_) | (refine c_not rfl (fun _ => ?_) (fun _ => ?_)) | (refine r_off rfl rfl rfl ?_) | (refine q_guard rfl rfl (fun _ => ?_) (fun _ => ?_)) | (refine q_guardn rfl rfl (fun _ => ?_) (fun _ => ?_)) | (refine s_nil ?_) | (with_reducible refine a_full ?_) | (refine m_step rfl rfl (List.cons_ne_nil _ _) ?_) | (refine allR_cons rfl ?_ ?_) | (exact allR_nil) | (refine m_end rfl rfl rfl ?_))
  refine St.pub 17 rfl rfl rfl (fun pb hpb => ?_)
  have hpb0 : pb ≠ b0 := fun e => by subst e; rw [upd_here] at hpb; cases hpb
  have hpbh : h pb = none := by rwa [upd_ne hpb0] at hpb
  have hO0 : Own (upd (upd h b0 (.cells (reps ts.length [Value.int .i64 0]).toArray 3 (0, 0))) pb (.cells (wCells v A ts.length c b0 0 ts.length none 0 0).toArray 172 (0, 0))) (some ⟨b0, 0, none⟩) ts.length ts.length 3 1 (reps ts.length [Value.int .i64 0]) :=
    Own.le (own_made (u := h) (b := b0) (m := ts.length) (e := 3) (z := [Value.int .i64 0]) rfl) (fun b o hb ho => by have e : b0 = b := Option.some.inj hb; subst e; rw [upd_ne (Ne.symm hpb0)]; exact ho)
  refine r_loop (γ := Nat × Hp) (fun x => x.1 ≤ ts.length ∧ Own x.2 (some ⟨b0, 0, none⟩) ts.length ts.length 3 1 (((List.range ts.length).take x.1).flatMap (fun _ => [Value.int .i64 (-1)]) ++ reps (ts.length - x.1) [.int .i64 0]) ∧
      x.2 pb = some (.cells (wCells v A ts.length c b0 0 ts.length none 0 0).toArray 172 (0, 0)) ∧ Le h x.2)
    (fun x => [(1, .p 1 0), (2, .p 2 0), (3, .v (.pointer (some ⟨pb, 0, none⟩))), (22, .v (.int .i64 ts.length)), (23, .v (.int .i64 x.1))])
    (fun _ => [(2, ⟨none, [.v (ZV.val (.int .i64)), .v (ZV.val (.int .i64)), .v (ZV.val .str), .v (ZV.val (.int .i64)), .v (ZV.val .sl)], 51⟩), (1, ⟨none, gsv v A ts.length c, 51⟩)]) (fun x => x.2) (fun x => ts.length - x.1)
    (0, upd (upd h b0 (.cells (reps ts.length [Value.int .i64 0]).toArray 3 (0, 0))) pb (.cells (wCells v A ts.length c b0 0 ts.length none 0 0).toArray 172 (0, 0)))
    ⟨Nat.zero_le _, by simp only [List.take_zero, List.flatMap_nil, List.nil_append, Nat.sub_zero]; exact hO0, upd_here .., hle0.upd hpbh⟩
    (into rfl ⟨rfl, rfl, rfl, rfl, rfl, trivial⟩ ⟨rfl, rfl, trivial⟩ rfl rfl) ?_
  rintro ⟨i, u⟩ ⟨hi, hOn, hcl, hle⟩
  dsimp only at *
  have hatW : At u pb 0 (wCells v A ts.length c b0 0 ts.length none 0 0) := ⟨_, _, _, hcl, fun j x hj => by simpa using hj⟩
  by_cases hlt : i < ts.length
  · repeat' (first | (refine r_pure hT rfl rfl rfl rfl ?_) | (refine r_new hT rfl rfl rfl rfl ?_) | (refine r_write hT rfl rfl rfl ?_) | (refine r_nil ?_) | (refine q_nil ?_) | (refine r_load hT hatW rfl rfl rfl rfl rfl rfl rfl rfl rfl rfl rfl ?_) | (refine r_indexN hT rfl rfl rfl rfl rfl rfl rfl rfl rfl (by omega) ?_) | (refine r_store_own (o := i * 1) hT hOn rfl rfl rfl rfl rfl rfl rfl rfl rfl rfl rfl (by rw [hOn.len]; show i * 1 + 1 ≤ ts.length * 1; omega) (fun u' hO' hu' => ?_)) | (refine r_arith rfl rfl rfl rfl rfl rfl rfl (by omega) ?_) | (with_reducible refine r_seq ?_) | (with_reducible refine x_then ?_) | (with_reducible refine r_region ?_) | (refine r_draw hM (by kernel_rfl) ?_) | (with_reducible refine r_skip ?_) | (with_reducible refine r_ret ?_) | (with_reducible refine x_then_ret ?_) | (with_reducible refine r_block ?_) | (with_reducible refine x_block ?_) | (with_reducible refine x_block_ret ?_) | (with_reducible refine r_exit ?_) | (with_reducible refine x_then_exit ?_) | (with_reducible refine x_block_here ?_) | (refine x_block_past rfl ?_) | (refine c_yes rfl (by omega) ?_) | (refine c_no rfl (by omega) ?_) | (refine c_no rfl (fun h => h rfl) ?_) | (refine r_cond_false rfl ?_) | (refine r_cond_true rfl ?_) | (refine r_cond_dec rfl (fun _ => ?_) (fun _ => ?_)) | (refine r_cond_true rfl ?_) | (refine r_cond_false rfl ?_) | (refine c_not rfl (fun _ => ?_) (fun _ => ?_)) | (refine r_off rfl rfl rfl ?_) | (refine q_guard rfl rfl (fun _ => ?_) (fun _ => ?_)) | (refine q_guardn rfl rfl (fun _ => ?_) (fun _ => ?_)))
    have hsn := set_next (c := fun _ : Nat => [Value.int .i64 (-1)]) (sz := 1) (fun _ => rfl) (z := [Value.int .i64 0]) rfl (xs := List.range ts.length) (i := i) (x := i) (by simp [hlt]) (n := ts.length) (by simp)
    rw [hsn] at hO'
    exact x_round (i + 1, u') ⟨hlt, hO', by show u' pb = _; rw [hu' pb hpb0]; exact hcl, fun x o hx => by show u' x = some o; rw [hu' x (fun e => by subst e; rw [hb0] at hx; cases hx)]; exact hle x o hx⟩ (by simp; omega) (into rfl ⟨rfl, rfl, rfl, rfl, rfl, trivial⟩ ⟨rfl, rfl, trivial⟩ rfl rfl)
  obtain rfl : i = ts.length := by omega
  rw [List.take_of_length_le (by simp), numL_nil, Nat.sub_self] at hOn
  simp only [reps, List.append_nil] at hOn
  have hW0 : WSt h u pb v A c ts b0 0 ts.length none 0 [] := ⟨hcl, hOn, own_nil, hle, hpbh, hb0, off_nil, ⟨hpb0, by simp [blk], by simp [blk]⟩, hP⟩
  repeat' (first | (refine r_pure hT rfl rfl rfl rfl ?_) | (refine r_new hT rfl rfl rfl rfl ?_) | (refine r_write hT rfl rfl rfl ?_) | (refine r_nil ?_) | (refine q_nil ?_) | (refine r_call (valW h pb v A c ts b0 0 ts.length hA hn hc (ts.length + 1) [] v _ u none 0 hW0 (nm_nil _) hv (by simp) rfl) rfl rfl rfl rfl rfl (hC _ rfl) rfl rfl (fun y u1 hy => ?_)) | (refine r_arith rfl rfl rfl rfl rfl rfl rfl (by omega) ?_) | (with_reducible refine r_seq ?_) | (with_reducible refine x_then ?_) | (with_reducible refine r_region ?_) | (refine r_draw hM (by kernel_rfl) ?_) | (with_reducible refine r_skip ?_) | (with_reducible refine r_ret ?_) | (with_reducible refine x_then_ret ?_) | (with_reducible refine r_block ?_) | (with_reducible refine x_block ?_) | (with_reducible refine x_block_ret ?_) | (with_reducible refine r_exit ?_) | (with_reducible refine x_then_exit ?_) | (with_reducible refine x_block_here ?_) | (refine x_block_past rfl ?_) | (refine c_yes rfl (by omega) ?_) | (refine c_no rfl (by omega) ?_) | (refine c_no rfl (fun h => h rfl) ?_) | (refine r_cond_false rfl ?_) | (refine r_cond_true rfl ?_) | (refine r_cond_dec rfl (fun _ => ?_) (fun _ => ?_)) | (refine r_cond_true rfl ?_) | (refine r_cond_false rfl ?_) | (refine c_not rfl (fun _ => ?_) (fun _ => ?_)) | (refine r_off rfl rfl rfl ?_) | (refine q_guard rfl rfl (fun _ => ?_) (fun _ => ?_)) | (refine q_guardn rfl rfl (fun _ => ?_) (fun _ => ?_)))
  obtain ⟨hW1, hK1⟩ := hy
  obtain ⟨Ao, co⟩ := y
  dsimp only at *
  have hNO := ordOf_nm hA hv
  have hOl := hNO.len
  have hle1 : Le h u1 := hW1.base
  change WSt h u1 pb v A c ts b0 0 ts.length Ao co (ordOf ts v) at hW1
  generalize hO : ordOf ts v = O at *
  change ordOf ts v = O at hO
  have hgo : go ts (ts.length + 1) [] v = O := hO
  rw [hgo]
  refine r_loop (γ := (Nat × Hp) × (Option Addr × Nat) × List Hd) (fun x => x.1.1 ≤ O.length ∧ Le u1 (part x.1.2 x.2.1.1) ∧ Own x.1.2 x.2.1.1 x.1.1 x.2.1.2 59 1 (x.2.2.flatMap Hd.v) ∧ x.2.2.length = x.1.1 ∧
      ∀ (j : Nat) (y : Hd) (t : List Pr), x.2.2[j]? = some y → (cTs ts O)[j]? = some t → y.n ≤ y.c ∧ Pairs (part x.1.2 x.2.1.1) y.A y.n t)
    (fun x => [(1, .p 1 0), (2, .p 2 0), (3, .v (.pointer (some ⟨pb, 0, none⟩))), (5, .p 5 0), (6, .v (.int .i64 x.1.1))])
    (fun x => [(5, ⟨none, gsv (ren O v) x.2.1.1 x.1.1 x.2.1.2, 51⟩), (2, ⟨none, [.v (ZV.val (.int .i64)), .v (ZV.val (.int .i64)), .v (ZV.val .str), .v (ZV.val (.int .i64)), .v (ZV.val .sl)], 51⟩), (1, ⟨none, gsv v A ts.length c, 51⟩)])
    (fun x => x.1.2) (fun x => O.length - x.1.1) ((0, u1), (none, 0), []) ⟨Nat.zero_le _, Le.refl u1, own_nil, rfl, fun j y t hj => by simp at hj⟩
    (into rfl ⟨rfl, rfl, rfl, rfl, rfl, trivial⟩ ⟨rfl, rfl, rfl, trivial⟩ rfl rfl) ?_
  rintro ⟨⟨i, u⟩, ⟨Aq, cq⟩, hs⟩ ⟨hi, hle, hOq, hlen, hrows⟩
  dsimp only at *
  have hleu : Le u1 u := hle.trans (part_le u Aq)
  have hW := hW1.le hleu
  have hatW := hW.at_
  by_cases hlt : i < O.length
  · have hg1 : (ordL O)[i]? = some (.int .i64 ((O[i] : Nat) : Int)) := by simp [ordL, hlt]
    obtain ⟨bo, offo, rfl⟩ := own_some hW.od hlt
    have hato := own_at hW.od hg1
    have ha : O[i] < ts.length := hNO.lt _ (List.getElem_mem hlt)
    obtain ⟨bt, offt, A1, n1, c1, t, rfl, hd, hix, hm, hat, hc1, hp1⟩ := hP.elem ha
    obtain rfl := hp1.1
    have hatt := hat.le (hle1.trans hleu)
    have htl := hc t hm
    have hinp : ∀ p ∈ t, In ts.length p.val := hA t hm
    have hino : ∀ p ∈ t, p.val.k = 4 → p.val.a.toNat ∈ O := fun p hp h4 => by rw [← hO]; exact ordOf_in hA hv (by rw [hO]; exact List.getElem_mem hlt) hix hp h4
    repeat' (first | (refine r_pure hT rfl rfl rfl rfl ?_) | (refine r_new hT rfl rfl rfl rfl ?_) | (refine r_write hT rfl rfl rfl ?_) | (refine r_nil ?_) | (refine q_nil ?_) | (refine r_draw (id := 13) hM (by kernel_rfl) ?_) | (refine r_load hT hatW rfl rfl rfl rfl rfl rfl rfl rfl rfl rfl rfl ?_) | (refine r_indexN hT rfl rfl rfl rfl rfl rfl rfl rfl rfl (by omega) ?_) | (refine r_load hT hato rfl rfl rfl rfl rfl (Nat.add_zero _).symm rfl rfl rfl rfl rfl ?_) | (refine r_load hT hatt rfl rfl rfl rfl rfl (Nat.add_zero _).symm rfl rfl rfl rfl rfl ?_) | (refine r_arith rfl rfl rfl rfl rfl rfl rfl (by omega) ?_) | (with_reducible refine r_seq ?_) | (with_reducible refine x_then ?_) | (with_reducible refine r_region ?_) | (with_reducible refine r_skip ?_) | (with_reducible refine r_ret ?_) | (with_reducible refine x_then_ret ?_) | (with_reducible refine r_block ?_) | (with_reducible refine x_block ?_) | (with_reducible refine x_block_ret ?_) | (with_reducible refine r_exit ?_) | (with_reducible refine x_then_exit ?_) | (with_reducible refine x_block_here ?_) | (refine x_block_past rfl ?_) | (refine c_yes rfl (by omega) ?_) | (refine c_no rfl (by omega) ?_) | (refine c_no rfl (fun h => h rfl) ?_) | (refine r_cond_false rfl ?_) | (refine r_cond_true rfl ?_) | (refine r_cond_dec rfl (fun _ => ?_) (fun _ => ?_)) | (refine r_cond_true rfl ?_) | (refine r_cond_false rfl ?_) | (refine c_not rfl (fun _ => ?_) (fun _ => ?_)) | (refine r_off rfl rfl rfl ?_) | (refine q_guard rfl rfl (fun _ => ?_) (fun _ => ?_)) | (refine q_guardn rfl rfl (fun _ => ?_) (fun _ => ?_)))
    refine r_loop (γ := (Nat × Hp) × (Option Addr × Nat)) (fun x => x.1.1 ≤ t.length ∧ Le (part u Aq) x.1.2 ∧ Off (part u Aq) x.2.1 ∧ Own x.1.2 Aq i cq 59 1 (hs.flatMap Hd.v) ∧ (∀ b, blk Aq = some b → blk x.2.1 ≠ some b) ∧
        Own x.1.2 x.2.1 x.1.1 x.2.2 61 8 (((t.take x.1.1).map (nPr O)).flatMap Pr.c))
      (fun x => [(1, .p 1 0), (2, .p 2 0), (3, .v (.pointer (some ⟨pb, 0, none⟩))), (5, .p 5 0), (6, .v (.int .i64 i)), (7, .p 7 0), (58, .v (.slice A1 t.length c1)), (59, .v (.int .i64 t.length)), (60, .v (.int .i64 x.1.1))])
      (fun x => [(7, ⟨none, [.v (.slice x.2.1 x.1.1 x.2.2)], 59⟩), (5, ⟨none, gsv (ren O v) Aq i cq, 51⟩), (2, ⟨none, [.v (ZV.val (.int .i64)), .v (ZV.val (.int .i64)), .v (ZV.val .str), .v (ZV.val (.int .i64)), .v (ZV.val .sl)], 51⟩), (1, ⟨none, gsv v (some ⟨bt, offt, none⟩) ts.length c, 51⟩)])
      (fun x => x.1.2) (fun x => t.length - x.1.1) ((0, u), (none, 0)) ⟨Nat.zero_le _, part_le u Aq, off_nil, hOq, fun b _ => (by simp [blk]), own_nil⟩
      (into rfl ⟨rfl, rfl, rfl, rfl, rfl, rfl, rfl, rfl, rfl, trivial⟩ ⟨rfl, rfl, rfl, rfl, trivial⟩ rfl rfl) ?_
    rintro ⟨⟨j, uj⟩, ⟨Ap, cp⟩⟩ ⟨hj, hkj, hof, hOqj, hdis, hOp⟩
    dsimp only at *
    have hWj := hW1.le (hle.trans hkj)
    by_cases hltj : j < t.length
    · obtain ⟨b2, off2, p, rfl, hd2, hix2, hm2, hat2⟩ := (hp1.le (hle1.trans (hle.trans hkj))).elem Pr.c_len hltj
      repeat' (first | (refine r_pure hT rfl rfl rfl rfl ?_) | (refine r_new hT rfl rfl rfl rfl ?_) | (refine r_write hT rfl rfl rfl ?_) | (refine r_nil ?_) | (refine q_nil ?_) | (refine r_indexN hT rfl rfl rfl rfl rfl rfl rfl rfl rfl (by omega) ?_) | (refine r_load hT hat2 rfl rfl rfl rfl rfl (Nat.add_zero _).symm rfl rfl rfl rfl rfl ?_) | (refine p_call (valOld hWj p.val (hinp p hm2) (hino p hm2)) rfl rfl rfl rfl rfl (hC _ rfl) rfl rfl rfl ?_) | (refine r_build hT rfl rfl rfl (ps := [(0, .tmp 71), (1, .tmp 72)]) rfl rfl rfl rfl rfl rfl ?_) | ((refine r_bslice hT (ps := [(0, .tmp 73)]) rfl rfl rfl rfl rfl rfl rfl (by simp) rfl rfl (by decide) (fun b3 hb3 => ?_))) | ((refine r_append hT (cs := ((t.take j).map (nPr O)).flatMap Pr.c) (news := Pr.c (nPr O p)) rfl rfl rfl rfl rfl rfl rfl rfl rfl rfl rfl (hOp.le fun b o hb ho => by rw [upd_ne (fun e => by subst e; rw [hb3] at ho; cases ho)]; exact ho) (sl_all (upd_here ..) rfl) pr_ones (by dsimp only; omega) (by omega) (fun A' c' u3 hO3 hG3 => ?_))) | (refine r_arith rfl rfl rfl rfl rfl rfl rfl (by omega) ?_) | (with_reducible refine r_seq ?_) | (with_reducible refine x_then ?_) | (with_reducible refine r_region ?_) | (refine r_draw hM (by kernel_rfl) ?_) | (with_reducible refine r_skip ?_) | (with_reducible refine r_ret ?_) | (with_reducible refine x_then_ret ?_) | (with_reducible refine r_block ?_) | (with_reducible refine x_block ?_) | (with_reducible refine x_block_ret ?_) | (with_reducible refine r_exit ?_) | (with_reducible refine x_then_exit ?_) | (with_reducible refine x_block_here ?_) | (refine x_block_past rfl ?_) | (refine c_yes rfl (by omega) ?_) | (refine c_no rfl (by omega) ?_) | (refine c_no rfl (fun h => h rfl) ?_) | (refine r_cond_false rfl ?_) | (refine r_cond_true rfl ?_) | (refine r_cond_dec rfl (fun _ => ?_) (fun _ => ?_)) | (refine r_cond_true rfl ?_) | (refine r_cond_false rfl ?_) | (refine c_not rfl (fun _ => ?_) (fun _ => ?_)) | (refine r_off rfl rfl rfl ?_) | (refine q_guard rfl rfl (fun _ => ?_) (fun _ => ?_)) | (refine q_guardn rfl rfl (fun _ => ?_) (fun _ => ?_)))
      have hk3 := hG3 _ (le_fresh hkj hb3) hof
      have hq3 : ∀ b o, blk Aq = some b → uj b = some o → u3 b = some o ∧ blk A' ≠ some b := fun b o hb ho => hG3.keep b o (by rw [upd_ne (fun e => by subst e; rw [hb3] at ho; cases ho)]; exact ho) (hdis b hb)
      refine x_round ((j + 1, u3), (A', c')) ⟨hltj, hk3.1, hk3.2, hOqj.le (fun b o hb ho => (hq3 b o hb ho).1), fun b hb => ?_, ?_⟩ (by simp; omega) (into rfl ⟨rfl, rfl, rfl, rfl, rfl, rfl, rfl, rfl, rfl, trivial⟩ ⟨rfl, rfl, rfl, rfl, trivial⟩ rfl rfl)
      · cases ho : uj b with
        | none => exact absurd ho (hOqj.live hb)
        | some o => exact (hq3 b o hb ho).2
      · show Own u3 A' (j + 1) c' 61 8 (((t.take (j + 1)).map (nPr O)).flatMap Pr.c)
        rw [take_snoc hix2, List.map_append, List.flatMap_append]
        simpa using hO3
    · obtain rfl : j = t.length := by omega
      rw [List.take_length] at hOp
      repeat' (first | (refine r_pure hT rfl rfl rfl rfl ?_) | (refine r_new hT rfl rfl rfl rfl ?_) | (refine r_write hT rfl rfl rfl ?_) | (refine r_nil ?_) | (refine q_nil ?_) | ((refine r_bslice hT (ps := [(0, .tmp 80)]) rfl rfl rfl rfl rfl rfl rfl (by simp) rfl rfl (by decide) (fun b3 hb3 => ?_))) | ((refine r_append hT (cs := hs.flatMap Hd.v) (news := Hd.v ⟨Ap, t.length, cp⟩) rfl rfl rfl rfl rfl rfl rfl rfl rfl rfl rfl (hOqj.le fun b o hb ho => by rw [upd_ne (fun e => by subst e; rw [hb3] at ho; cases ho)]; exact ho) (sl_all (upd_here ..) rfl) (by intro x hx; simp [Hd.v] at hx; subst hx; rfl) (by dsimp only; omega) (by omega) (fun A' c' u3 hO3 hG3 => ?_))) | (refine r_arith rfl rfl rfl rfl rfl rfl rfl (by omega) ?_) | (with_reducible refine r_seq ?_) | (with_reducible refine x_then ?_) | (with_reducible refine r_region ?_) | (refine r_draw hM (by kernel_rfl) ?_) | (with_reducible refine r_skip ?_) | (with_reducible refine r_ret ?_) | (with_reducible refine x_then_ret ?_) | (with_reducible refine r_block ?_) | (with_reducible refine x_block ?_) | (with_reducible refine x_block_ret ?_) | (with_reducible refine r_exit ?_) | (with_reducible refine x_then_exit ?_) | (with_reducible refine x_block_here ?_) | (refine x_block_past rfl ?_) | (refine c_yes rfl (by omega) ?_) | (refine c_no rfl (by omega) ?_) | (refine c_no rfl (fun h => h rfl) ?_) | (refine r_cond_false rfl ?_) | (refine r_cond_true rfl ?_) | (refine r_cond_dec rfl (fun _ => ?_) (fun _ => ?_)) | (refine r_cond_true rfl ?_) | (refine r_cond_false rfl ?_) | (refine c_not rfl (fun _ => ?_) (fun _ => ?_)) | (refine r_off rfl rfl rfl ?_) | (refine q_guard rfl rfl (fun _ => ?_) (fun _ => ?_)) | (refine q_guardn rfl rfl (fun _ => ?_) (fun _ => ?_)))
      have hpk := part_keep hG3
      have hk4 : Le (part u Aq) (part uj Aq) := fun b o hb => by
        have hne : blk Aq ≠ some b := fun e => by rw [part_off u Aq b e] at hb; cases hb
        rw [part_at hne]; exact hkj b o hb
      have hk5 : Le (part uj Aq) (part (upd uj b3 (.cells (Hd.v ⟨Ap, t.length, cp⟩).toArray 59 (0, 0))) Aq) := fun b o hb => by
        have hne : blk Aq ≠ some b := fun e => by rw [part_off uj Aq b e] at hb; cases hb
        rw [part_at hne] at hb ⊢
        rw [upd_ne (fun e => by subst e; rw [hb3] at hb; cases hb)]; exact hb
      have hk6 := hk5.trans hpk
      refine x_round ((i + 1, u3), (A', c'), hs ++ [⟨Ap, t.length, cp⟩]) ⟨hlt, (hle.trans hk4).trans hk6, ?_, by simp [hlen], fun j y t' hj ht' => ?_⟩ (by simp; omega) (into rfl ⟨rfl, rfl, rfl, rfl, rfl, trivial⟩ ⟨rfl, rfl, rfl, trivial⟩ rfl rfl)
      · show Own u3 A' (i + 1) c' 59 1 ((hs ++ [(⟨Ap, t.length, cp⟩ : Hd)]).flatMap Hd.v)
        rw [List.flatMap_append]; simpa using hO3
      · by_cases hjl : j < hs.length
        · dsimp only at hj
          rw [List.getElem?_append_left hjl] at hj
          exact ⟨(hrows j y t' hj ht').1, (hrows j y t' hj ht').2.le (hk4.trans hk6)⟩
        · dsimp only at hj
          have h1 : j < (hs ++ [(⟨Ap, t.length, cp⟩ : Hd)]).length := (List.getElem?_eq_some_iff.1 hj).1
          simp at h1
          have hjj : j = hs.length := by omega
          subst hjj
          simp at hj; subst hj
          have htt : t' = t.map (nPr O) := by
            rw [hlen] at ht'
            simp only [cTs, List.getElem?_map, List.getElem?_eq_getElem hlt, Option.map_some] at ht'
            rw [List.getD_eq_getElem?_getD, hix] at ht'
            exact (Option.some.inj ht').symm
          subst htt
          refine ⟨hOp.cap, by simp, Sl.le (Own.sl (hOp.le fun b o hb ho => ?_)) hk6⟩
          rw [part_at (fun e => hdis b e hb)]; exact ho
  · obtain rfl : i = O.length := by omega
    repeat' (first | (refine r_pure hT rfl rfl rfl rfl ?_) | (refine r_new hT rfl rfl rfl rfl ?_) | (refine r_write hT rfl rfl rfl ?_) | (refine r_nil ?_) | (refine q_nil ?_) | (refine r_load hT hatW rfl rfl rfl rfl rfl rfl rfl rfl rfl rfl rfl ?_) | (refine r_arith rfl rfl rfl rfl rfl rfl rfl (by omega) ?_) | (with_reducible refine r_seq ?_) | (with_reducible refine x_then ?_) | (with_reducible refine r_region ?_) | (refine r_draw hM (by kernel_rfl) ?_) | (with_reducible refine r_skip ?_) | (with_reducible refine r_ret ?_) | (with_reducible refine x_then_ret ?_) | (with_reducible refine r_block ?_) | (with_reducible refine x_block ?_) | (with_reducible refine x_block_ret ?_) | (with_reducible refine r_exit ?_) | (with_reducible refine x_then_exit ?_) | (with_reducible refine x_block_here ?_) | (refine x_block_past rfl ?_) | (refine c_yes rfl (by omega) ?_) | (refine c_no rfl (by omega) ?_) | (refine c_no rfl (fun h => h rfl) ?_) | (refine r_cond_false rfl ?_) | (refine r_cond_true rfl ?_) | (refine r_cond_dec rfl (fun _ => ?_) (fun _ => ?_)) | (refine r_cond_true rfl ?_) | (refine r_cond_false rfl ?_) | (refine c_not rfl (fun _ => ?_) (fun _ => ?_)) | (refine r_off rfl rfl rfl ?_) | (refine q_guard rfl rfl (fun _ => ?_) (fun _ => ?_)) | (refine q_guardn rfl rfl (fun _ => ?_) (fun _ => ?_)))
    exact r_fin hT rfl (Aq, cq) rfl rfl rfl trivial rfl ⟨⟨hs, by rw [hlen]; simp [cTs], ⟨by omega, hOq.sl⟩, fun j y t hj ht => ⟨(hrows j y t hj ht).1, (hrows j y t hj ht).2.le (part_le u Aq)⟩⟩, hle1.trans hleu⟩
end Go.Proofs.YtkamfnmbidnhdaaDoor
namespace Go.Proofs.YtkamfnmbidnhdaaDoor
open Go.Sy
set_option maxRecDepth 100000
set_option maxHeartbeats 4000000
set_option linter.unusedVariables false
set_option linter.unusedSimpArgs false
theorem vok_in {v : V} {n : Nat} (h : VOk v n) : In n v := fun h4 => by
  unfold VOk at h; rcases h with h | h | h | h | h <;> omega
theorem gok_in {v : V} {ts : List (List Pr)} (h : GOk v ts) : AllIn ts ∧ In ts.length v ∧ ts.length ≤ 200 ∧ ∀ t ∈ ts, t.length ≤ 100 :=
  ⟨fun t ht p hp => vok_in ((h.2.2 t ht).2.1 p hp).2.1, vok_in h.2.1, h.1, fun t ht => (h.2.2 t ht).1⟩
def V0 : V := ⟨0, 0, ⟨⟨[]⟩⟩, 0⟩
/-- What Canon answers. -/
def cV (v : V) (ts : List (List Pr)) : V := if GOk v ts then ren (ordOf ts v) v else V0
def cT (v : V) (ts : List (List Pr)) : List (List Pr) := if GOk v ts then cTs ts (ordOf ts v) else []
theorem tabs_nil (u : Hp) : Tabs u none 0 [] := ⟨[], rfl, ⟨rfl, own_nil.sl (e := 0)⟩, fun i h t hi => by simp at hi⟩
end Go.Proofs.YtkamfnmbidnhdaaDoor
/- The specification's freezing: the plain text of a graph that is well made; spec.Freeze. No condition. -/
namespace Go.Proofs.YtkamfnmbidnhdaaDoor
open Go.Sy
set_option maxRecDepth 100000
set_option maxHeartbeats 8000000
set_option linter.unusedVariables false
set_option linter.unusedSimpArgs false
def Rng (v : V) : Prop := -9223372036854775808 ≤ v.n ∧ v.n ≤ 9223372036854775807
def RngG (v : V) (ts : List (List Pr)) : Prop := Rng v ∧ ∀ t ∈ ts, ∀ p ∈ t, Rng p.key ∧ Rng p.val
theorem vok_size {v : V} {n : Nat} (h : VOk v n) : v.s.size ≤ 500 := by
  have h0 : v.s.toList = [] → v.s.size ≤ 500 := fun e => by
    have := text_eq.1 (e.trans nil_list.symm)
    rw [this]; show 0 ≤ 500; omega
  rcases h with h | h | h | h | h
  · exact h0 h.2.2.1
  · exact h0 h.2.2.1
  · exact h0 h.2.1
  · exact h.2.2.2
  · exact h0 h.2.2.1
theorem itoa_len {n : Int} (h0 : -9223372036854775808 ≤ n) (h1 : n ≤ 9223372036854775807) : (Lib.itoa n).length ≤ 21 := by
  by_cases hz : n = 0
  · rw [hz, itoa_zero]; simp
  · rw [itoa_rdg n hz, List.length_append, List.length_reverse]
    have := rdg_len 20 n.natAbs (by omega)
    split <;> simp <;> omega
theorem plT_len {v : V} (hs : v.s.size ≤ 500) (hr : Rng v) : (plT v).length ≤ 1502 := by
  unfold plT
  split
  · split <;> simp
  · split
    · have := itoa_len hr.1 hr.2; omega
    · split
      · have := qt_len v.s.data.toList
        have e : v.s.data.toList.length = v.s.size := rfl
        omega
      · simp
theorem gok_fit {v : V} {ts : List (List Pr)} (h : GOk v ts) (hr : RngG v ts) : FzOk ts plT dcN 1502 ∧ Fit ts ∧ v.fit ∧ (plT v).length ≤ 1502 := by
  obtain ⟨i1, i2, i3, i4⟩ := gok_in h
  have hv := vok_size h.2.1
  refine ⟨⟨i1, i4, fun t ht p hp => ?_, fun k hk => by have := itoa_len (n := (k : Int)) (by omega) (by omega); unfold dcN; omega⟩, fun t ht p hp => ?_, ⟨hr.1, by omega⟩, plT_len hv hr.1⟩
  · have hp1 := (h.2.2 t ht).2.1 p hp
    obtain ⟨r1, r2⟩ := hr.2 t ht p hp
    exact ⟨plT_len (vok_size hp1.1.2) r1, plT_len (vok_size hp1.2.1) r2⟩
  · have hp1 := (h.2.2 t ht).2.1 p hp
    obtain ⟨r1, r2⟩ := hr.2 t ht p hp
    have e1 := vok_size hp1.1.2
    have e2 := vok_size hp1.2.1
    exact ⟨⟨r1, by omega⟩, ⟨r2, by omega⟩⟩
end Go.Proofs.YtkamfnmbidnhdaaDoor
/- Maps with texts as keys, a Builder's text (that may be empty), the text of a value. No condition. -/

namespace Go.Proofs.YtkamfnmbidnhdaaDoor
open Go.Sy
set_option maxRecDepth 100000
set_option maxHeartbeats 4000000
set_option linter.unusedVariables false
set_option linter.unusedSimpArgs false
def sKey (x : ByteArray) : Value := .string x
theorem beq_text (x y : ByteArray) : (x == y) = decide (x = y) := by
  cases x with | mk d =>
  cases y with | mk f =>
  show (d == f) = decide (ByteArray.mk d = ByteArray.mk f)
  by_cases h : d = f
  · subst h; simp
  · have : ¬ ByteArray.mk d = ByteArray.mk f := fun e => h (ByteArray.mk.inj e)
    rw [decide_eq_false this]
    simpa using h
theorem s_now (x : ByteArray) : ∀ (l : List ByteArray) (es : List MapEntry) (i : Nat), es.map (·.key) = l.map sKey →
    Instr.findNow .string (sKey x) es i = some (match l.findIdx? (fun y => decide (x = y)) with | some j => (es[j]?).map (fun e => (i + j, e.val)) | none => none)
  | [], es, i, h => by
    have : es = [] := by simpa using h
    subst this; rfl
  | y :: l, [], i, h => by simp at h
  | y :: l, e :: es, i, h => by
    simp only [List.map_cons, List.cons.injEq] at h
    obtain ⟨h1, h2⟩ := h
    have ih := s_now x l es (i + 1) h2
    by_cases hx : x = y
    · simp [Instr.findNow, h1, sKey, Instr.sameNow, List.findIdx?_cons, hx, text_self]
    · simp only [Instr.findNow, h1, Instr.sameNow, sKey, beq_text, decide_eq_false hx, List.findIdx?_cons]
      simp only [sKey] at ih
      rw [ih]
      cases l.findIdx? (fun y => decide (x = y)) with
      | none => rfl
      | some j => simp [Nat.add_assoc, Nat.add_comm 1 j]
theorem sKey_check (em : Bool) (m : Nat) (w : World) (x : ByteArray) : (Instr.checkKey em (m + 1) 9 (sKey x)).run Tryd.prog w = .ok () w := by
  simp [Instr.checkKey, sKey, run_underlying Tryd.underlying9]
theorem sKeyOps : KeyOps Tryd.prog 9 sKey where
  check w em x := sKey_check em 9999 w x
  find w x l es h := by
    have := s_now x l es 0 h
    simp [Instr.findKey, run_underlying Tryd.underlying9, this]
    cases l.findIdx? (fun y => decide (x = y)) <;> rfl
  stays w x := by simp [Instr.keyThatStays, Instr.sameBits, sKey, text_self]
theorem map154 : Tryd.prog.underlying 154 = some (.map 9 3) := by kernel_rfl
theorem map154L : Tryd.prog.underlying 154 = some (.map (Tryd.prog.mapKeyOf 154) (Tryd.prog.mapElemOf 154)) := by kernel_rfl
theorem stringE (h0 u : Hp) (pb : Nat) (e : TypeId) (pre post : List Value) (ad : Value) (c : Nat) (hB : BSt h0 u pb e pre post ad none c []) :
    Pur Tryd.prog 72 [.v (.pointer (some ⟨pb, pre.length, none⟩))] u (fun _ : Unit => .v (.string ⟨#[]⟩)) () := by
  have hat := hB.at_
  refine enterS Tryd.func72 rfl (n := 14) rfl rfl (fun k N => ?_)
  repeat' (first | (refine r_pure hT rfl rfl rfl rfl ?_) | (refine r_new hT rfl rfl rfl rfl ?_) | (refine r_write hT rfl rfl rfl ?_) | (refine r_nil ?_) | (refine q_nil ?_) | (refine r_many (id := 1) [0, 1, 2, 3, 5, 6, 7, 8, 9] [] u (Le.refl u) hM (by kernel_rfl) rfl (by kernel_rfl) rfl rfl rfl (fun β0 => ?_)) | (refine r_load hT hat rfl rfl rfl rfl rfl rfl rfl rfl rfl rfl rfl ?_) | (refine r_sldata0 rfl rfl rfl rfl rfl ?_) | (refine m_keep (Le.refl u) trivial rfl rfl ?_) | (refine r_ustring0 rfl rfl rfl rfl rfl rfl ?_) | (refine r_arith rfl rfl rfl rfl rfl rfl rfl (by omega) ?_) | (with_reducible refine r_seq ?_) | (with_reducible refine x_then ?_) | (with_reducible refine r_region ?_) | (with_reducible refine r_skip ?_) | (with_reducible refine r_ret ?_) | (with_reducible refine x_then_ret ?_) | (with_reducible refine r_block ?_) | (with_reducible refine x_block ?_) | (with_reducible refine x_block_ret ?_) | (with_reducible refine r_exit ?_) | (with_reducible refine x_then_exit ?_) | (with_reducible refine x_block_here ?_) | (refine x_block_past rfl ?_) | (refine c_yes rfl (by omega) ?_) | (refine c_no rfl (by omega) ?_) | (refine c_no rfl (fun h => h rfl) ?_) | (refine r_cond_false rfl ?_) | (refine r_cond_true rfl ?_) | (refine r_cond_dec rfl (fun _ => ?_) (fun _ => ?_)) | (refine r_cond_true rfl ?_) | (refine r_cond_false rfl ?_) | (refine c_not rfl (fun _ => ?_) (fun _ => ?_)) | (refine r_off rfl rfl rfl ?_) | (refine q_guard rfl rfl (fun _ => ?_) (fun _ => ?_)) | (refine q_guardn rfl rfl (fun _ => ?_) (fun _ => ?_)) | (refine s_nil ?_) | (with_reducible refine a_full ?_) | (refine m_step rfl rfl (List.cons_ne_nil _ _) ?_) | (refine allR_cons rfl ?_ ?_) | (exact allR_nil) | (refine m_end rfl rfl rfl ?_))
  exact r_fin hT rfl () rfl rfl rfl trivial rfl ⟨rfl, rfl⟩
/-- The text that was written; nothing else is turned but the Builder's own bytes. -/
theorem stringA (h0 u : Hp) (pb : Nat) (e : TypeId) (pre post : List Value) (ad : Value) (A : Option Addr) (c : Nat) (o : List UInt8) (hB : BSt h0 u pb e pre post ad A c o) (hz : o = [] → A = none) (hs : o.length ≤ 1000000000) :
    TriS Tryd.prog 72 [.v (.pointer (some ⟨pb, pre.length, none⟩))] [] u (fun _ : Unit => .v (.string (bs o))) (fun _ => []) (fun _ u' => ∀ z ox, blk A ≠ some z → u z = some ox → u' z = some ox) := by
  by_cases hne : o = []
  · have hA := hz hne
    subst hne
    subst hA
    intro e1 e2 vs h1 e3 e4
    refine (stringE h0 u pb e pre post ad c hB e1 e2 vs h1 e3 e4).mono ?_
    rintro v h'' ⟨y, h', a, b, d, f, g⟩
    exact ⟨(), h', a, b, d, fun z ox _ hu => by rw [g]; exact hu⟩
  · exact stringB h0 u pb e pre post ad A c o hB hne hs
abbrev comma : ByteArray := ⟨#[44]⟩
abbrev colon : ByteArray := ⟨#[58]⟩
/-- A value's text, as the program puts it together. -/
def txB (v : V) : ByteArray := ((((((dec v.k ++ comma) ++ dec v.n) ++ comma) ++ dec v.a) ++ comma) ++ dec (v.s.size : Int)) ++ colon ++ v.s
theorem txB_list (v : V) : (txB v).data.toList = tx1 v := by
  unfold txB tx1
  simp only [bs_cat, dec, comma, colon]
  simp
theorem dec_size {n : Int} (h0 : -9223372036854775808 ≤ n) (h1 : n ≤ 9223372036854775807) : (dec n).size ≤ 21 := itoa_len h0 h1
theorem BSt.weak {h0 h1 u : Hp} {pb : Nat} {e : TypeId} {pre post : List Value} {ad : Value} {A : Option Addr} {c : Nat} {o : List UInt8} (h : BSt h1 u pb e pre post ad A c o) (hl : Le h0 h1) : BSt h0 u pb e pre post ad A c o := by
  have hn : ∀ b, h1 b = none → h0 b = none := fun b hb => by
    cases hh : h0 b with
    | none => rfl
    | some ox => have := hl b ox hh; rw [hb] at this; cases this
  exact ⟨h.cell, h.own, h.hd, h.adr, fun x o hx => h.base x o (hl x o hx), hn _ h.hp, fun b hb => hn _ (h.ho b hb), h.ap⟩
/-- A new block is laid beside a Builder. -/
theorem BSt.beside {h0 u : Hp} {pb : Nat} {e : TypeId} {pre post : List Value} {ad : Value} {A : Option Addr} {c : Nat} {o : List UInt8} (h : BSt h0 u pb e pre post ad A c o) {b : Nat} (ob : Obj) (hb : u b = none) : BSt (upd h0 b ob) (upd u b ob) pb e pre post ad A c o := by
  have hpb : pb ≠ b := fun x => by have := h.cell; rw [x, hb] at this; cases this
  have hA : blk A ≠ some b := fun x => by
    cases A with
    | none => cases x
    | some a =>
      obtain ⟨_, arr, h2, _⟩ := h.own.row a rfl
      have e1 : a.block = b := Option.some.inj x
      rw [e1, hb] at h2; cases h2
  refine ⟨by rw [upd_ne hpb]; exact h.cell, own_fr h.own hb, h.hd, h.adr, fun x o hx => ?_, by rw [upd_ne hpb]; exact h.hp, fun z hz => ?_, h.ap⟩
  · by_cases hxb : x = b
    · subst hxb
      rw [upd_here] at hx ⊢; exact hx
    · rw [upd_ne hxb] at hx ⊢; exact h.base x o hx
  · rw [upd_ne (fun x => hA (by rw [← x]; exact hz))]; exact h.ho z hz
end Go.Proofs.YtkamfnmbidnhdaaDoor
