/- Rings of tables: they look the same; a ring shrunk; where a marked ring parts from one. Plain; no condition. -/
import Derived.Test.YtkamfnmbidnhdaaDoorSqAN
import Derived.Test.YtkamfnmbidnhdaaDoorSqAO
import Derived.Test.YtkamfnmbidnhdaaDoorSqAJ
import Derived.Test.YtkamfnmbidnhdaaDoorSqAF
import Derived.Test.YtkamfnmbidnhdaaDoorSqAH
import Derived.Test.YtkamfnmbidnhdaaDoorSqAM
set_option linter.unusedVariables false
set_option linter.unusedSimpArgs false
set_option linter.unusedSectionVars false
namespace Go.Proofs.YtkamfnmbidnhdaaDoor
open Go.Sy
set_option linter.unusedVariables false
set_option linter.unusedSimpArgs false
def rgT (n i : Nat) : List Pr := [⟨inV 1, taV ((i + 1) % n)⟩]
def rg (n : Nat) : List (List Pr) := (List.range n).map (rgT n)
def mkT : List Pr := [⟨inV 1, taV 0⟩, ⟨inV 2, inV 2⟩]
def rgm (n : Nat) : List (List Pr) := (List.range (n - 1)).map (rgT n) ++ [mkT]
theorem rg_len (n : Nat) : (rg n).length = n := by simp [rg]
theorem rgm_len {n : Nat} (h : 1 ≤ n) : (rgm n).length = n := by simp [rgm]; omega
theorem rg_at {n i : Nat} (h : i < n) : tabA (rg n) i = rgT n i := by
  rw [tabA_get (by rw [rg_len]; exact h)]; simp [rg]
theorem rgm_at {n i : Nat} (h : i < n - 1) : tabA (rgm n) i = rgT n i := by
  unfold tabA rgm
  rw [List.getD_eq_getElem?_getD, List.getElem?_append_left (by simp; exact h)]
  simp [h]
theorem rgm_last {n : Nat} (h : 1 ≤ n) : tabA (rgm n) (n - 1) = mkT := by
  unfold tabA rgm
  rw [List.getD_eq_getElem?_getD, List.getElem?_append_right (by simp)]
  simp
theorem in_dk (n : Int) (h : -9223372036854775808 ≤ n ∧ n ≤ 9223372036854775807) : DK (inV n) := ⟨.inr (.inl ⟨n, rfl, h⟩)⟩
theorem rgT_ok {n i : Nat} (h : 1 ≤ n) : DT n (rgT n i) := by
  refine ⟨fun p hp => ?_, by simp [rgT]⟩
  simp only [rgT, List.mem_singleton] at hp
  subst hp
  exact ⟨in_dk 1 (by omega), .inr ⟨_, rfl, Nat.mod_lt _ (by omega)⟩⟩
theorem inV_ne : inV 1 ≠ inV 2 := fun e => by
  have := congrArg V.n e
  simp [inV] at this
theorem mkT_ok {n : Nat} (h : 1 ≤ n) : DT n mkT := by
  refine ⟨fun p hp => ?_, ?_⟩
  · simp only [mkT, List.mem_cons, List.not_mem_nil, or_false] at hp
    rcases hp with rfl | rfl
    · exact ⟨in_dk 1 (by omega), .inr ⟨0, rfl, by omega⟩⟩
    · exact ⟨in_dk 2 (by omega), .inl (in_dk 2 (by omega))⟩
  · simp only [mkT, List.map_cons, List.map_nil, List.nodup_cons, List.mem_singleton, List.not_mem_nil, not_false_eq_true, List.nodup_nil, and_true]
    exact inV_ne
theorem gok_dt {a : Nat} {ts : List (List Pr)} (h1 : ts.length ≤ 200) (ha : a < ts.length) (hd : ∀ t ∈ ts, DT ts.length t ∧ t.length ≤ 100) : GOk (taV a) ts ∧ RngG (taV a) ts := by
  refine ⟨⟨h1, (ta_ok ha).1, fun t ht => ?_⟩, (ta_ok ha).2.1, fun t ht p hp => ?_⟩
  · obtain ⟨g1, g2⟩ := hd t ht
    exact ⟨g2, fun p hp => ⟨(dk_ok (g1.ok p hp).1).1, (dv_ok (g1.ok p hp).2).1, (dv_ok (g1.ok p hp).2).2.2⟩, g1.nod⟩
  · obtain ⟨g1, g2⟩ := hd t ht
    exact ⟨(dk_ok (g1.ok p hp).1).2.1, (dv_ok (g1.ok p hp).2).2.1⟩
theorem rg_ok {n : Nat} (h : 1 ≤ n) (h2 : n ≤ 60) : GOk (taV 0) (rg n) ∧ RngG (taV 0) (rg n) := by
  refine gok_dt (by rw [rg_len]; omega) (by rw [rg_len]; omega) fun t ht => ?_
  rw [rg_len]
  obtain ⟨i, _, rfl⟩ := List.mem_map.1 ht
  exact ⟨rgT_ok h, by simp [rgT]⟩
theorem rgm_ok {n : Nat} (h : 1 ≤ n) (h2 : n ≤ 60) : GOk (taV 0) (rgm n) ∧ RngG (taV 0) (rgm n) := by
  refine gok_dt (by rw [rgm_len h]; omega) (by rw [rgm_len h]; omega) fun t ht => ?_
  rw [rgm_len h]
  unfold rgm at ht
  rcases List.mem_append.1 ht with ht | ht
  · obtain ⟨i, _, rfl⟩ := List.mem_map.1 ht
    exact ⟨rgT_ok h, by simp [rgT]⟩
  · rw [List.mem_singleton] at ht; subst ht
    exact ⟨mkT_ok h, by simp [mkT]⟩
/-! ### rings look the same -/
theorem srt_one (p : Pr) : srt [p] = [p] := by unfold srt; simp
theorem rg_beh {n m : Nat} (hn : 1 ≤ n) (hm : 1 ≤ m) : ∀ (p : List V) (i j : Nat), i < n → j < m → beh (sS (rg n)) p (taV i) = beh (sS (rg m)) p (taV j) := by
  have e1 : ∀ x : Nat, (taV x).a.toNat = x := fun x => by simp only [taV]; omega
  have ht : ∀ {n i : Nat}, i < n → tabA (sS (rg n)) i = rgT n i := fun {n i} h => by
    rw [tabA_srt, rg_at h]; exact srt_one _
  intro p
  induction p with
  | nil =>
    intro i j hi hj
    simp only [beh, if_pos (show (taV i).k = 4 from rfl), if_pos (show (taV j).k = 4 from rfl), e1, ht hi, ht hj]
    rfl
  | cons k p ih =>
    intro i j hi hj
    simp only [beh, if_pos (show (taV i).k = 4 from rfl), if_pos (show (taV j).k = 4 from rfl), e1, ht hi, ht hj, rgT, fndO]
    by_cases hk : vEq (inV 1) k = true
    · rw [if_pos hk, if_pos hk]
      exact ih _ _ (Nat.mod_lt _ (by omega)) (Nat.mod_lt _ (by omega))
    · rw [if_neg hk, if_neg hk]; rfl
theorem rg_beq {n m : Nat} (hn : 1 ≤ n) (hm : 1 ≤ m) : Beq (sS (rg n)) (sS (rg m)) (taV 0) (taV 0) := fun p => rg_beh hn hm p 0 0 (by omega) (by omega)
theorem rg_same {n m : Nat} (hn : 1 ≤ n ∧ n ≤ 60) (hm : 1 ≤ m ∧ m ≤ 60) : sameB (taV 0) (taV 0) (rg n) (rg m) = true := (same_iff (rg_ok hn.1 hn.2).1 (rg_ok hm.1 hm.2).1).2 (rg_beq hn.1 hm.1)
/-! ### a ring, shrunk -/
theorem rg_one : rg 1 = [[⟨inV 1, taV 0⟩]] := rfl
theorem k_rg1 : kV (taV 0) (rg 1) = taV 0 ∧ kT (taV 0) (rg 1) = [[⟨inV 1, taV 0⟩]] := by
  have hg := (rg_ok (n := 1) (by omega) (by omega)).1
  have hs : sS (rg 1) = [[⟨inV 1, taV 0⟩]] := by rw [rg_one]; simp [sS, srt_one]
  have hc : cls (sS (rg 1)) = [0] := by
    have h := cls_ring (st := sS (rg 1)) (K := inV 1) (fun t ht => ⟨0, by rw [hs, List.mem_singleton] at ht; exact ht⟩)
    rw [h, hs]; rfl
  have hT : shT (cls (sS (rg 1))) (rg 1) = [[⟨inV 1, taV 0⟩]] := by rw [shT_eq, hc, hs]; rfl
  have hv : lk (cls (sS (rg 1))) (taV 0) = taV 0 := by rw [hc]; rfl
  have ho : ordOf [[⟨inV 1, taV 0⟩]] (taV 0) = [0] := rfl
  obtain ⟨e1, e2⟩ := k_eq hg
  rw [hT, hv, ho] at e1 e2
  rw [e1, e2]
  exact ⟨rfl, rfl⟩
theorem k_rg {n : Nat} (hn : 1 ≤ n ∧ n ≤ 60) : kV (taV 0) (rg n) = taV 0 ∧ kT (taV 0) (rg n) = [[⟨inV 1, taV 0⟩]] := by
  have := k_uniq (rg_ok hn.1 hn.2).1 (rg_ok (n := 1) (by omega) (by omega)).1 (rg_beq hn.1 (by omega))
  rw [this.1, this.2]; exact k_rg1
/-! ### where a marked ring parts from a ring -/
theorem runI_inl' {a b : List (List Pr)} {f i : Nat} {L : List AE} {e : AE} {p : List V} (h : L[i]? = some e) (hs : stI (tabA a e.1.1) (tabA b e.1.2) e.2 (ukey (tabA a e.1.1) (tabA b e.1.2)) L = .inl p) : runI a b (f + 1) L i = p := by
  simp only [runI, h, hs]
theorem runI_inr' {a b : List (List Pr)} {f i : Nat} {L L' : List AE} {e : AE} (h : L[i]? = some e) (hs : stI (tabA a e.1.1) (tabA b e.1.2) e.2 (ukey (tabA a e.1.1) (tabA b e.1.2)) L = .inr L') : runI a b (f + 1) L i = runI a b f L' (i + 1) := by
  simp only [runI, h, hs]
/-- The first i pairs that are met. -/
def ringL (i : Nat) : List AE := (List.range i).map fun j => ((j, j), List.replicate j (inV 1))
theorem ringL_get {i j : Nat} (h : j < i) : (ringL i)[j]? = some ((j, j), List.replicate j (inV 1)) := by simp [ringL, h]
theorem ringL_succ (i : Nat) : ringL (i + 1) = ringL i ++ [((i, i), List.replicate i (inV 1))] := by simp [ringL, List.range_succ]
theorem ringL_in {i x : Nat} : inL (ringL i) x x = true ↔ x < i := by
  unfold inL ringL
  rw [List.any_eq_true]
  constructor
  · rintro ⟨e, he, h⟩
    obtain ⟨j, hj, rfl⟩ := List.mem_map.1 he
    simp only [Bool.and_eq_true, beq_iff_eq] at h
    rw [List.mem_range] at hj
    omega
  · intro h
    exact ⟨_, List.mem_map.2 ⟨x, List.mem_range.2 h, rfl⟩, by simp⟩
theorem kl12 : kl (inV 1) (inV 2) = true := by rw [kl_iff]; exact .inr ⟨rfl, .inl (by simp [inV])⟩
theorem kl21 : kl (inV 2) (inV 1) = false := by
  cases h : kl (inV 2) (inV 1) with
  | false => rfl
  | true => have := kl_tr kl12 h; rw [kl_irr] at this; cases this
theorem cmpV_two (x : V) : cmpV [x, x] = [x] := by
  unfold cmpV
  simp [pushV, lastIs, vEq_iff.2]
theorem ky_in (n : Int) : Ky (inV n) := ⟨by simp [inV], by simp [inV], fun h => by simp [inV] at h, fun _ => rfl, rfl⟩
theorem ks_srt {l ys : List V} (hk : ∀ x ∈ l, Ky x) (hp : ys.Perm l) (hs : ys.Pairwise fun x y => kl y x = false) : ksort l = ys := by
  have h := List.pairwise_mergeSort (le := fun x y : V => !kl y x) (fun a b c h g => by
    simp only [Bool.not_eq_true'] at h g ⊢
    exact kl_ntr g h) (fun a b => by
    cases h1 : kl b a with
    | false => rfl
    | true =>
      cases h2 : kl a b with
      | false => rfl
      | true => have := kl_tr h1 h2; rw [kl_irr] at this; cases this) l
  have h2 : (ksort l).Pairwise fun x y => kl y x = false := h.imp fun {a b} h => by simpa using h
  have p2 : (ksort l).Perm l := List.mergeSort_perm _ _
  refine List.Perm.eq_of_pairwise (le := fun x y : V => kl y x = false) (fun a b ha hb h1 h2 => ?_) h2 hs (p2.trans hp.symm)
  exact ky_tot (hk a (p2.mem_iff.1 ha)) (hk b (hp.mem_iff.1 hb)) h2 h1
theorem uk_same (a b : Nat) : ukey [⟨inV 1, taV a⟩] [⟨inV 1, taV b⟩] = [inV 1] := by
  show cmpV (ksort [inV 1, inV 1]) = [inV 1]
  rw [ks_srt (ys := [inV 1, inV 1]) (fun x hx => by simp at hx; rw [hx]; exact ky_in 1) (List.Perm.refl _) (by simp [kl_irr])]
  exact cmpV_two _
theorem uk_mark (a : Nat) : ukey [⟨inV 1, taV a⟩] mkT = [inV 1, inV 2] := by
  show cmpV (ksort [inV 1, inV 1, inV 2]) = [inV 1, inV 2]
  rw [ks_srt (ys := [inV 1, inV 1, inV 2]) (fun x hx => by
    simp [mkT] at hx
    rcases hx with rfl | rfl
    · exact ky_in 1
    · exact ky_in 2) (List.Perm.refl _) (by simp [kl_irr, kl21])]
  have hne : vEq (inV 1) (inV 2) = false := by
    cases h : vEq (inV 1) (inV 2) with
    | false => rfl
    | true => exact absurd (vEq_iff.1 h) inV_ne
  unfold cmpV
  simp [pushV, lastIs, vEq_iff.2, hne]
theorem fd_one (a : Nat) : fdV [⟨inV 1, taV a⟩] (inV 1) = taV a := by unfold fdV fndO; rw [if_pos (vEq_iff.2 rfl)]; rfl
theorem fd_mk1 : fdV mkT (inV 1) = taV 0 := by unfold fdV mkT fndO; rw [if_pos (vEq_iff.2 rfl)]; rfl
theorem fd_no (a : Nat) : fdV [⟨inV 1, taV a⟩] (inV 2) = nvV := by
  unfold fdV fndO
  rw [if_neg (fun e => inV_ne (vEq_iff.1 e))]; rfl
theorem fd_mk2 : fdV mkT (inV 2) = inV 2 := by
  unfold fdV mkT fndO
  rw [if_neg (fun e => inV_ne (vEq_iff.1 e))]
  unfold fndO
  rw [if_pos (vEq_iff.2 rfl)]; rfl
theorem ring_run {n : Nat} (h : 1 ≤ n) : ∀ (d i f : Nat), i + d = n - 1 → n ≤ f + i → runI (rg n) (rgm n) f (ringL (i + 1)) i = List.replicate (n - 1) (inV 1) ++ [inV 2]
  | 0, i, f, hd, hf => by
    obtain ⟨f, rfl⟩ : ∃ k, f = k + 1 := ⟨f - 1, by omega⟩
    obtain rfl : i = n - 1 := by omega
    refine runI_inl' (ringL_get (Nat.lt_succ_self _)) ?_
    dsimp only
    rw [rg_at (by omega), rgm_last h]
    unfold rgT
    rw [uk_mark]
    have hm : (n - 1 + 1) % n = 0 := by rw [show n - 1 + 1 = n by omega, Nat.mod_self]
    rw [hm, stI, if_pos (by rw [fd_one, fd_mk1]; exact ⟨rfl, rfl⟩), fd_one, fd_mk1]
    have e0 : (taV 0).a.toNat = 0 := rfl
    rw [e0, if_pos (ringL_in.2 (by omega)), stI, if_neg (by rw [fd_no]; exact fun x => by cases x.1), if_neg (by rw [fd_no, fd_mk2]; exact fun e => by have := congrArg V.k (vEq_iff.1 e); simp [nvV, inV] at this)]
  | d + 1, i, f, hd, hf => by
    obtain ⟨f, rfl⟩ : ∃ k, f = k + 1 := ⟨f - 1, by omega⟩
    have hm : (i + 1) % n = i + 1 := Nat.mod_eq_of_lt (by omega)
    have e1 : (taV (i + 1)).a.toNat = i + 1 := by simp only [taV]; omega
    rw [runI_inr' (L' := ringL (i + 1 + 1)) (ringL_get (Nat.lt_succ_self _))]
    · exact ring_run h d (i + 1) f (by omega) (by omega)
    · dsimp only
      rw [rg_at (by omega), rgm_at (by omega)]
      unfold rgT
      rw [uk_same, hm, stI, if_pos (by rw [fd_one]; exact ⟨rfl, rfl⟩), fd_one, e1, if_neg (fun e => by have := ringL_in.1 e; omega), stI, ringL_succ (i + 1), List.replicate_succ']
theorem ring_apart {n : Nat} (hn : 1 ≤ n ∧ n ≤ 60) : apA (taV 0) (taV 0) (rg n) (rgm n) = List.replicate (n - 1) (inV 1) ++ [inV 2] := by
  have h1 : apA (taV 0) (taV 0) (rg n) (rgm n) = runI (rg n) (rgm n) ((rg n).length * (rgm n).length + 1) [((0, 0), [])] 0 := if_pos ⟨⟨(rg_ok hn.1 hn.2).1, (rgm_ok hn.1 hn.2).1⟩, rfl, rfl⟩
  rw [h1]
  have h2 : n ≤ (rg n).length * (rgm n).length + 1 := by
    rw [rg_len, rgm_len hn.1]
    have := Nat.le_mul_self n
    omega
  exact ring_run hn.1 (n - 1) 0 _ (by omega) (by omega)
/-! ### a marked ring is another, and nothing of it falls -/
theorem gok_gd {v : V} {ts : List (List Pr)} (h : GOk v ts) : Gd ts := ⟨fun t ht => (h.2.2 t ht).2.2, fun t ht p hp => ky_of ((h.2.2 t ht).2.1 p hp).1, fun t ht p hp => ((h.2.2 t ht).2.1 p hp).2.2⟩
/-- The answer is empty where both look the same. -/
theorem ap_beq {v w : V} {a b : List (List Pr)} (hg : GOk v a) (hg' : GOk w b) (h4 : v.k = 4) (h4' : w.k = 4) (h : Beq (sS a) (sS b) v w) : apA v w a b = [] := by
  have e0 : apA v w a b = runI a b (a.length * b.length + 1) [((v.a.toNat, w.a.toNat), [])] 0 := if_pos ⟨⟨hg, hg'⟩, h4, h4'⟩
  have hv := (gok_in hg).2.1 h4
  have hw := (gok_in hg').2.1 h4'
  have wa : Wf a.length a := wf_of (gok_in hg).1 fun t ht p hp => tv_of ((hg.2.2 t ht).2.1 p hp).2.1
  have wb : Wf b.length b := wf_of (gok_in hg').1 fun t ht p hp => tv_of ((hg'.2.2 t ht).2.1 p hp).2.1
  have hbd : ∀ (e : AE) (L L' : List AE), e ∈ L → stI (tabA a e.1.1) (tabA b e.1.2) e.2 (ukey (tabA a e.1.1) (tabA b e.1.2)) L = .inr L' → (∀ x ∈ L, x.1.1 < a.length ∧ x.1.2 < b.length) → ∀ x ∈ L', x.1.1 < a.length ∧ x.1.2 < b.length := by
    intro e L L' hmem
    clear hmem
    generalize ukey (tabA a e.1.1) (tabA b e.1.2) = ks
    intro hst hL
    induction ks generalizing L with
    | nil => simp only [stI, Sum.inr.injEq] at hst; rw [← hst]; exact hL
    | cons k ks ih =>
      unfold stI at hst
      by_cases h1 : (fdV (tabA a e.1.1) k).k = 4 ∧ (fdV (tabA b e.1.2) k).k = 4
      · rw [if_pos h1] at hst
        refine ih _ hst fun x hx => ?_
        split at hx
        · exact hL x hx
        · rcases List.mem_append.1 hx with hx | hx
          · exact hL x hx
          · rw [List.mem_singleton] at hx; subst hx
            have i1 := (wa.inn e.1.1 k).1 h1.1
            have i2 := (wb.inn e.1.2 k).1 h1.2
            dsimp only
            omega
      · rw [if_neg h1] at hst
        split at hst
        · exact ih _ hst hL
        · cases hst
  have key := runI_says (v := v) (w := w) (a.length * b.length + 1) [((v.a.toNat, w.a.toNat), [])] 0 hbd (fun x hx => by rw [List.mem_singleton] at hx; subst hx; dsimp only; omega) (by simp [fsts]) (fun x hx => by rw [List.mem_singleton] at hx; subst hx; exact ⟨⟨h4, rfl⟩, h4', rfl⟩) (fun j e hj _ => by omega) (by omega)
  rw [e0]
  rcases key with ⟨k1, _⟩ | ⟨_, k2, k3⟩
  · exact k1
  · obtain ⟨g1, g2⟩ := gtV_beq (gok_gd hg) (gok_gd hg') (runI a b (a.length * b.length + 1) [((v.a.toNat, w.a.toNat), [])] 0) v w h
    by_cases h5 : (gtV a (runI a b (a.length * b.length + 1) [((v.a.toNat, w.a.toNat), [])] 0) v).k = 4
    · exact absurd ⟨h5, g1.1 h5⟩ k2
    · exact absurd (g2 h5) k3
theorem ring_other {n : Nat} (hn : 1 ≤ n ∧ n ≤ 60) : sameB (taV 0) (taV 0) (rg n) (rgm n) = false := by
  cases h : sameB (taV 0) (taV 0) (rg n) (rgm n) with
  | false => rfl
  | true =>
    have h1 := ap_beq (rg_ok hn.1 hn.2).1 (rgm_ok hn.1 hn.2).1 rfl rfl ((same_iff (rg_ok hn.1 hn.2).1 (rgm_ok hn.1 hn.2).1).1 h)
    rw [ring_apart hn] at h1
    simp at h1
end Go.Proofs.YtkamfnmbidnhdaaDoor
/- A marked ring, shrunk, keeps all its tables; the text of a ring. Plain; no condition. -/
namespace Go.Proofs.YtkamfnmbidnhdaaDoor
open Go.Sy
set_option linter.unusedVariables false
set_option linter.unusedSimpArgs false
theorem nodup_sub : ∀ {l m : List Nat}, l.Nodup → (∀ x ∈ l, x ∈ m) → l.length ≤ m.length
  | [], m, _, _ => Nat.zero_le _
  | x :: l, m, h, hs => by
    rw [List.nodup_cons] at h
    have hx := hs x (.head _)
    have := nodup_sub (m := m.erase x) h.2 fun y hy => (List.mem_erase_of_ne (fun e => h.1 (by rw [← e]; exact hy))).2 (hs y (.tail _ hy))
    rw [List.length_erase_of_mem hx] at this
    have h0 : 0 < m.length := List.length_pos_of_mem hx
    rw [List.length_cons]; omega
theorem lk_id {C : List Nat} {n : Nat} {v : V} (hC : ∀ i, i < n → at0 C i = i) (hv : In n v) : lk C v = v := by
  unfold lk
  by_cases h4 : v.k = 4
  · rw [if_pos h4]
    have h1 := hv h4
    have h2 := hC v.a.toNat (by omega)
    unfold at0 at h2
    cases v
    simp only at h1 h2 ⊢
    rw [h2]
    congr 1; omega
  · rw [if_neg h4]
theorem srt_mk : srt mkT = mkT := by
  have hd : (mkT.map Pr.key).Nodup := by
    simp only [mkT, List.map_cons, List.map_nil, List.nodup_cons, List.mem_singleton, List.not_mem_nil, not_false_eq_true, List.nodup_nil, and_true]
    exact inV_ne
  refine (srt_of (xs := mkT) (fun p hp => ?_) hd (List.Perm.refl _) ?_).symm
  · simp only [mkT, List.mem_cons, List.not_mem_nil, or_false] at hp
    rcases hp with rfl | rfl
    · exact ky_in 1
    · exact ky_in 2
  · unfold Srt mkT
    simp [kl21]
theorem sS_rgm (n : Nat) : sS (rgm n) = rgm n := by
  refine (List.map_congr_left fun t ht => ?_).trans (List.map_id _)
  unfold rgm at ht
  rcases List.mem_append.1 ht with ht | ht
  · obtain ⟨i, _, rfl⟩ := List.mem_map.1 ht
    exact srt_one _
  · rw [List.mem_singleton] at ht; subst ht
    exact srt_mk
theorem k_rgm {n : Nat} (hn : 1 ≤ n ∧ n ≤ 60) : (kT (taV 0) (rgm n)).length = n := by
  have hg := (rgm_ok hn.1 hn.2).1
  have hl := rgm_len hn.1
  have hA : AllIn (rgm n) := (gok_in hg).1
  obtain ⟨m, rfl⟩ : ∃ m, n = m + 1 := ⟨n - 1, by omega⟩
  have hC : ∀ i, i < m + 1 → at0 (cls (sS (rgm (m + 1)))) i = i := by
    rw [sS_rgm]
    refine cls_marked (K := inV 1) hl (fun i hi => ?_) ⟨⟨inV 1, taV 0⟩, ⟨inV 2, inV 2⟩, [], ?_⟩ hA
    · have h1 := rgm_at (n := m + 1) (i := i) (by omega)
      rw [tabA_get (by omega)] at h1
      rw [h1]
      unfold rgT
      rw [Nat.mod_eq_of_lt (by omega)]
      rfl
    · have h1 := rgm_last (n := m + 1) (by omega)
      rw [tabA_get (by omega)] at h1
      exact h1
  have hT : shT (cls (sS (rgm (m + 1)))) (rgm (m + 1)) = rgm (m + 1) := by
    rw [shT_eq, sS_rgm]
    rw [sS_rgm] at hC
    refine (List.map_congr_left fun t ht => ?_).trans (List.map_id _)
    unfold lookT
    refine (List.map_congr_left fun p hp => ?_).trans (List.map_id _)
    have hin := hA t ht p hp
    rw [hl] at hin
    show (⟨p.key, lk _ p.val⟩ : Pr) = p
    rw [lk_id hC hin]
  have hv : lk (cls (sS (rgm (m + 1)))) (taV 0) = taV 0 := lk_id hC fun _ => ⟨by simp [taV], by simp only [taV]; omega⟩
  have e := (k_eq hg).2
  rw [hT, hv] at e
  rw [e, cTt_length]
  have hin : In (rgm (m + 1)).length (taV 0) := by rw [hl]; exact fun _ => ⟨by simp [taV], by simp only [taV]; omega⟩
  have hN := ordOf_nm hA hin
  rw [hl] at hN
  have hW : Wl (rgm (m + 1)) := by have h0 : Wl (sS (rgm (m + 1))) := wl_srt hg; rw [sS_rgm] at h0; exact h0
  have hcl := hW.closed hin
  have hmem : ∀ i, i < m + 1 → i ∈ ordOf (rgm (m + 1)) (taV 0) := by
    intro i
    induction i with
    | zero => intro _; exact rt_in (v := taV 0) rfl
    | succ i ih =>
      intro hi
      have h1 := hcl i (ih (by omega)) ⟨inV 1, taV (i + 1)⟩ (by
        rw [rgm_at (by omega)]
        unfold rgT
        rw [Nat.mod_eq_of_lt (by omega)]
        exact List.mem_singleton.2 rfl) rfl
      have e1 : (taV (i + 1)).a.toNat = i + 1 := by simp only [taV]; omega
      dsimp only at h1
      rw [e1] at h1
      exact h1
  have h1 := nodup_sub (l := List.range (m + 1)) List.nodup_range (fun x hx => hmem x (List.mem_range.1 hx))
  rw [List.length_range] at h1
  have := hN.len
  omega
theorem frz_ring : frz (taV 0) [[⟨inV 1, taV 0⟩]] = [35, 49, 61, 123, 49, 58, 32, 35, 49, 125] := by decide +kernel
end Go.Proofs.YtkamfnmbidnhdaaDoor
/- The drawer's cursor: next and pick. No condition. -/
namespace Go.Sy
theorem r_addM {P : Program} {F : Fr} {tm : Tm} {L : Lm} {u : Hp} {Q : Exit → Act → World → Prop} {qq : Md} {l : List Oper} {o : Oper} {r : List Oper} {d : Nat} {t t' : TypeId} {x y : Operand} {p q : Nat} (hw : wantE l tm o = some true) (ho : o.dst = some d) (hn : Nat.blt d F.n.z = true)
    (hop : o.op = .binOp .add t x y t') (hx : ev tm x = some (.v (.int .i64 (p : Int)))) (hy : ev tm y = some (.v (.int .i64 (q : Int)))) (h63 : ((p + q : Nat) : Int) ≤ 9223372036854775807)
    (next : Run P Q F ((d, .v (.int .i64 ((p + q : Nat) : Int))) :: tm) L u qq l r) : Run P Q F tm L u qq l (o :: r) := by
  refine r_arith (c := ((p + q : Nat) : Int)) hw ho hn hop hx hy rfl (by omega) next
section
variable {P : Program} {F : Fr} {tm : Tm} {L : Lm} {u : Hp} {Q : Exit → Act → World → Prop}
theorem r_cutD {γ : Type} {c : Operand} {x y : Code} {p : Prop} [Decidable p] (hc : ev tm c = some (.v (.bool (decide p)))) (I : γ → Prop) (Tf : γ → Tm) (M : γ → Lm) (U : γ → Hp) (h1 : p → St F tm L u (fun a w => x.wp P (CutQ F I Tf M U Q) a w)) (h2 : ¬ p → St F tm L u (fun a w => y.wp P (CutQ F I Tf M U Q) a w))
    (h3 : ∀ g, I g → St F (Tf g) (M g) (U g) (Q .normal)) : St F tm L u (fun a w => (Code.cond c x y).wp P Q a w) := r_cut I Tf M U (r_cond_dec hc h1 h2) h3
end
theorem upd_upd (h : Hp) (b : Nat) (o o' : Obj) : upd (upd h b o) b o' = upd h b o' := by
  funext x; unfold upd; split <;> rfl
def Bc (x : Int) : List Value := [.int .u8 x]
theorem Bc_len (x : Int) : (Bc x).length = 1 := rfl
abbrev Bys (u : Hp) (A : Option Addr) (n : Nat) (xs : List Int) : Prop := Rd Bc 1 u A n xs
end Go.Sy
namespace Go.Proofs.YtkamfnmbidnhdaaDoor
open Go.Sy
set_option maxRecDepth 100000
set_option maxHeartbeats 4000000
set_option linter.unusedVariables false
set_option linter.unusedSimpArgs false
def pt0 (b : Nat) : Value := .pointer (some ⟨b, 0, none⟩)
theorem atc {u : Hp} {b : Nat} {cs : List Value} {t : TypeId} {fr : Nat × Nat} (h : u b = some (.cells cs.toArray t fr)) : At u b 0 cs := ⟨_, _, _, h, fun j v hj => by simpa using hj⟩
def cuCells (A : Option Addr) (n c : Nat) (s : DS) : List Value := [.slice A n c, .int .i64 s.1, .int .u64 s.2]
def cuO (A : Option Addr) (n c : Nat) (s : DS) : Obj := .cells (cuCells A n c s).toArray 122 (0, 0)
/-- A heap, and the cursor in a block beside it. -/
abbrev Wc (h : Hp) (pb : Nat) (A : Option Addr) (n c : Nat) (s : DS) : Hp := upd h pb (cuO A n c s)
structure Cx (h : Hp) (pb : Nat) (A : Option Addr) (n : Nat) (bs : List Int) : Prop where
  hp : h pb = none
  row : Bys h A n bs
  byt : ∀ x ∈ bs, 0 ≤ x ∧ x ≤ 255
  max : n ≤ 1048576
section
variable {h h' : Hp} {pb : Nat} {A : Option Addr} {n c : Nat} {bs : List Int}
theorem Cx.le (hX : Cx h pb A n bs) (hl : Le h h') (hp : h' pb = none) : Cx h' pb A n bs := ⟨hp, hX.row.le hl, hX.byt, hX.max⟩
theorem wc_le (hp : h pb = none) (s : DS) : Le h (Wc h pb A n c s) := (Le.refl h).upd hp
end
theorem low8 (v : BitVec IntKind.u64.bits) : 0 ≤ IntKind.i64.wrap (IntKind.u64.wrap (((v &&& BitVec.ofInt IntKind.u64.bits 255).toNat : Nat) : Int)) ∧ IntKind.i64.wrap (IntKind.u64.wrap (((v &&& BitVec.ofInt IntKind.u64.bits 255).toNat : Nat) : Int)) ≤ 255 := by
  have h : (v &&& BitVec.ofInt IntKind.u64.bits 255).toNat ≤ 255 := by
    rw [BitVec.toNat_and]
    exact Nat.and_le_right
  generalize (v &&& BitVec.ofInt IntKind.u64.bits 255).toNat = z at h
  have e : IntKind.u64.wrap (z : Int) = z := by
    simp [IntKind.wrap, IntKind.bits, IntKind.signed]
    omega
  rw [e, IntWalk.i64_in _ (by omega)]
  omega
theorem nx_rng {bs : List Int} (hb : ∀ x ∈ bs, 0 ≤ x ∧ x ≤ 255) (s : DS) : 0 ≤ (nx bs s).1 ∧ (nx bs s).1 ≤ 255 := by
  unfold nx
  split
  · rename_i h
    dsimp only
    rw [List.getD_eq_getElem?_getD, List.getElem?_eq_getElem h]
    exact hb _ (List.getElem_mem h)
  · exact low8 _
theorem nextF (h : Hp) (pb : Nat) (A : Option Addr) (n c : Nat) (s : DS) (bs : List Int) (hX : Cx h pb A n bs) (hi : s.1 ≤ 1000000000) :
    TriS Tryd.prog 133 [.v (pt0 pb)] [] (Wc h pb A n c s) (fun _ : Unit => .v (.int .i64 (nx bs s).1)) (fun _ => []) (fun _ u' => u' = Wc h pb A n c (nx bs s).2) := by
  obtain ⟨i, st⟩ := s
  dsimp only at hi
  have hcell : (Wc h pb A n c (i, st)) pb = some (.cells (cuCells A n c (i, st)).toArray 122 (0, 0)) := upd_here ..
  have hat := atc hcell
  obtain rfl := hX.row.1
  refine enterS Tryd.func133 rfl (n := 68) rfl rfl (fun k N => ?_)
  by_cases hlt : i < bs.length
  · obtain ⟨b, off, x, rfl, hd, hix, hm, hatb⟩ := hX.row.elem Bc_len (i := i) hlt
    have hx := hX.byt x hm
    have hatb2 := hatb.le (wc_le (A := some ⟨b, off, none⟩) (n := bs.length) (c := c) hX.hp (i, st))
    have e : nx bs (i, st) = (x, (i + 1, sd1 st x)) := by
      unfold nx
      rw [if_pos hlt]
      simp only [List.getD_eq_getElem?_getD, hix, Option.getD_some]
    rw [e]
    repeat' (first | (refine r_pure hT rfl rfl rfl rfl ?_) | (refine r_new hT rfl rfl rfl rfl ?_) | (refine r_write hT rfl rfl rfl ?_) | (refine r_nil ?_) | (refine q_nil ?_) | (refine r_load hT hat rfl rfl rfl rfl rfl rfl rfl rfl rfl rfl rfl ?_) | (refine r_indexN hT rfl rfl rfl rfl rfl rfl rfl rfl rfl (by omega) ?_) | (refine r_load hT hatb2 rfl rfl rfl rfl rfl (Nat.add_zero _).symm rfl rfl rfl rfl rfl ?_) | (refine r_addM (q := 1) rfl rfl rfl rfl rfl rfl (by omega) ?_) | ((refine r_store hT rfl rfl rfl rfl rfl rfl rfl rfl rfl rfl hcell (Nat.le_succ 2) ?_ ; have hc2 : upd (Wc h pb (some ⟨b, off, none⟩) bs.length c (i, st)) pb (.cells (cuCells (some ⟨b, off, none⟩) bs.length c (i + 1, st)).toArray 122 (0, 0)) pb = _ := upd_here .. ; have hat2 := atc hc2)) | (refine r_arith rfl rfl rfl rfl rfl rfl rfl (by omega) ?_) | (with_reducible refine r_seq ?_) | (with_reducible refine x_then ?_) | (with_reducible refine r_region ?_) | (refine r_draw hM (by kernel_rfl) ?_) | (with_reducible refine r_skip ?_) | (with_reducible refine r_ret ?_) | (with_reducible refine x_then_ret ?_) | (with_reducible refine r_block ?_) | (with_reducible refine x_block ?_) | (with_reducible refine x_block_ret ?_) | (with_reducible refine r_exit ?_) | (with_reducible refine x_then_exit ?_) | (with_reducible refine x_block_here ?_) | (refine x_block_past rfl ?_) | (refine c_yes rfl (by omega) ?_) | (refine c_no rfl (by omega) ?_) | (refine c_no rfl (fun h => h rfl) ?_) | (refine r_cond_false rfl ?_) | (refine r_cond_true rfl ?_) | (refine r_cond_dec rfl (fun _ => ?_) (fun _ => ?_)) | (refine r_cond_true rfl ?_) | (refine r_cond_false rfl ?_) | (refine c_not rfl (fun _ => ?_) (fun _ => ?_)) | (refine r_off rfl rfl rfl ?_) | (refine q_guard rfl rfl (fun _ => ?_) (fun _ => ?_)) | (refine q_guardn rfl rfl (fun _ => ?_) (fun _ => ?_)))
    repeat' (first | (refine r_pure hT rfl rfl rfl rfl ?_) | (refine r_new hT rfl rfl rfl rfl ?_) | (refine r_write hT rfl rfl rfl ?_) | (refine r_nil ?_) | (refine q_nil ?_) | (refine r_load hT hat2 rfl rfl rfl rfl rfl rfl rfl rfl rfl rfl rfl ?_) | (refine r_conv hT rfl rfl rfl rfl rfl rfl rfl rfl (IntWalk.i64_in _ (by omega)) ?_) | (refine r_convw hT rfl rfl rfl rfl rfl rfl rfl rfl ?_) | (refine r_arithw rfl rfl rfl rfl rfl rfl rfl ?_) | (refine r_store hT rfl rfl rfl rfl rfl rfl rfl rfl rfl rfl hc2 (Nat.le_refl 3) ?_) | (refine r_arith rfl rfl rfl rfl rfl rfl rfl (by omega) ?_) | (with_reducible refine r_seq ?_) | (with_reducible refine x_then ?_) | (with_reducible refine r_region ?_) | (refine r_draw hM (by kernel_rfl) ?_) | (with_reducible refine r_skip ?_) | (with_reducible refine r_ret ?_) | (with_reducible refine x_then_ret ?_) | (with_reducible refine r_block ?_) | (with_reducible refine x_block ?_) | (with_reducible refine x_block_ret ?_) | (with_reducible refine r_exit ?_) | (with_reducible refine x_then_exit ?_) | (with_reducible refine x_block_here ?_) | (refine x_block_past rfl ?_) | (refine c_yes rfl (by omega) ?_) | (refine c_no rfl (by omega) ?_) | (refine c_no rfl (fun h => h rfl) ?_) | (refine r_cond_false rfl ?_) | (refine r_cond_true rfl ?_) | (refine r_cond_dec rfl (fun _ => ?_) (fun _ => ?_)) | (refine r_cond_true rfl ?_) | (refine r_cond_false rfl ?_) | (refine c_not rfl (fun _ => ?_) (fun _ => ?_)) | (refine r_off rfl rfl rfl ?_) | (refine q_guard rfl rfl (fun _ => ?_) (fun _ => ?_)) | (refine q_guardn rfl rfl (fun _ => ?_) (fun _ => ?_)))
    exact r_fin hT rfl () rfl rfl rfl trivial rfl ((upd_upd ..).trans (upd_upd ..))
  · have e : nx bs (i, st) = (lo8 (IntKind.u64.wrap (IntKind.u64.wrap (st * 6364136223846793005) + 1442695040888963407)), (i + 1, IntKind.u64.wrap (IntKind.u64.wrap (st * 6364136223846793005) + 1442695040888963407))) := by unfold nx; rw [if_neg hlt]; rfl
    rw [e]
    repeat' (first | (refine r_pure hT rfl rfl rfl rfl ?_) | (refine r_new hT rfl rfl rfl rfl ?_) | (refine r_write hT rfl rfl rfl ?_) | (refine r_nil ?_) | (refine q_nil ?_) | (refine r_load hT hat rfl rfl rfl rfl rfl rfl rfl rfl rfl rfl rfl ?_) | (refine r_arithw (kk := .u64) rfl rfl rfl rfl rfl rfl rfl ?_) | ((refine r_store hT rfl rfl rfl rfl rfl rfl rfl rfl rfl rfl hcell (Nat.le_refl 3) ?_ ; have hc2 : upd (Wc h pb A bs.length c (i, st)) pb (.cells (cuCells A bs.length c (i, IntKind.u64.wrap (IntKind.u64.wrap (st * 6364136223846793005) + 1442695040888963407))).toArray 122 (0, 0)) pb = _ := upd_here .. ; have hat2 := atc hc2)) | (refine r_arith rfl rfl rfl rfl rfl rfl rfl (by omega) ?_) | (with_reducible refine r_seq ?_) | (with_reducible refine x_then ?_) | (with_reducible refine r_region ?_) | (refine r_draw hM (by kernel_rfl) ?_) | (with_reducible refine r_skip ?_) | (with_reducible refine r_ret ?_) | (with_reducible refine x_then_ret ?_) | (with_reducible refine r_block ?_) | (with_reducible refine x_block ?_) | (with_reducible refine x_block_ret ?_) | (with_reducible refine r_exit ?_) | (with_reducible refine x_then_exit ?_) | (with_reducible refine x_block_here ?_) | (refine x_block_past rfl ?_) | (refine c_yes rfl (by omega) ?_) | (refine c_no rfl (by omega) ?_) | (refine c_no rfl (fun h => h rfl) ?_) | (refine r_cond_false rfl ?_) | (refine r_cond_true rfl ?_) | (refine r_cond_dec rfl (fun _ => ?_) (fun _ => ?_)) | (refine r_cond_true rfl ?_) | (refine r_cond_false rfl ?_) | (refine c_not rfl (fun _ => ?_) (fun _ => ?_)) | (refine r_off rfl rfl rfl ?_) | (refine q_guard rfl rfl (fun _ => ?_) (fun _ => ?_)) | (refine q_guardn rfl rfl (fun _ => ?_) (fun _ => ?_)))
    generalize IntKind.u64.wrap (IntKind.u64.wrap (st * 6364136223846793005) + 1442695040888963407) = s2 at *
    repeat' (first | (refine r_pure hT rfl rfl rfl rfl ?_) | (refine r_new hT rfl rfl rfl rfl ?_) | (refine r_write hT rfl rfl rfl ?_) | (refine r_nil ?_) | (refine q_nil ?_) | (refine r_load hT hat2 rfl rfl rfl rfl rfl rfl rfl rfl rfl rfl rfl ?_) | (refine r_addM (q := 1) rfl rfl rfl rfl rfl rfl (by omega) ?_) | ((refine r_store hT rfl rfl rfl rfl rfl rfl rfl rfl rfl rfl hc2 (Nat.le_succ 2) ?_ ; skip)) | (refine r_arith rfl rfl rfl rfl rfl rfl rfl (by omega) ?_) | (with_reducible refine r_seq ?_) | (with_reducible refine x_then ?_) | (with_reducible refine r_region ?_) | (refine r_draw hM (by kernel_rfl) ?_) | (with_reducible refine r_skip ?_) | (with_reducible refine r_ret ?_) | (with_reducible refine x_then_ret ?_) | (with_reducible refine r_block ?_) | (with_reducible refine x_block ?_) | (with_reducible refine x_block_ret ?_) | (with_reducible refine r_exit ?_) | (with_reducible refine x_then_exit ?_) | (with_reducible refine x_block_here ?_) | (refine x_block_past rfl ?_) | (refine c_yes rfl (by omega) ?_) | (refine c_no rfl (by omega) ?_) | (refine c_no rfl (fun h => h rfl) ?_) | (refine r_cond_false rfl ?_) | (refine r_cond_true rfl ?_) | (refine r_cond_dec rfl (fun _ => ?_) (fun _ => ?_)) | (refine r_cond_true rfl ?_) | (refine r_cond_false rfl ?_) | (refine c_not rfl (fun _ => ?_) (fun _ => ?_)) | (refine r_off rfl rfl rfl ?_) | (refine q_guard rfl rfl (fun _ => ?_) (fun _ => ?_)) | (refine q_guardn rfl rfl (fun _ => ?_) (fun _ => ?_)))
    have hat3 : At (upd (upd (Wc h pb A bs.length c (i, st)) pb (.cells (cuCells A bs.length c (i, s2)).toArray 122 (0, 0))) pb (.cells (cuCells A bs.length c (i + 1, s2)).toArray 122 (0, 0))) pb 0 (cuCells A bs.length c (i + 1, s2)) := atc (upd_here ..)
    repeat' (first | (refine r_pure hT rfl rfl rfl rfl ?_) | (refine r_new hT rfl rfl rfl rfl ?_) | (refine r_write hT rfl rfl rfl ?_) | (refine r_nil ?_) | (refine q_nil ?_) | (refine r_load hT hat3 rfl rfl rfl rfl rfl rfl rfl rfl rfl rfl rfl ?_) | (refine r_shift rfl rfl rfl rfl rfl rfl (.inr rfl) rfl ?_) | (refine r_bits rfl rfl rfl rfl rfl rfl rfl (.inl rfl) ?_) | (refine r_convw hT rfl rfl rfl rfl rfl rfl rfl rfl ?_) | (refine r_arith rfl rfl rfl rfl rfl rfl rfl (by omega) ?_) | (with_reducible refine r_seq ?_) | (with_reducible refine x_then ?_) | (with_reducible refine r_region ?_) | (refine r_draw hM (by kernel_rfl) ?_) | (with_reducible refine r_skip ?_) | (with_reducible refine r_ret ?_) | (with_reducible refine x_then_ret ?_) | (with_reducible refine r_block ?_) | (with_reducible refine x_block ?_) | (with_reducible refine x_block_ret ?_) | (with_reducible refine r_exit ?_) | (with_reducible refine x_then_exit ?_) | (with_reducible refine x_block_here ?_) | (refine x_block_past rfl ?_) | (refine c_yes rfl (by omega) ?_) | (refine c_no rfl (by omega) ?_) | (refine c_no rfl (fun h => h rfl) ?_) | (refine r_cond_false rfl ?_) | (refine r_cond_true rfl ?_) | (refine r_cond_dec rfl (fun _ => ?_) (fun _ => ?_)) | (refine r_cond_true rfl ?_) | (refine r_cond_false rfl ?_) | (refine c_not rfl (fun _ => ?_) (fun _ => ?_)) | (refine r_off rfl rfl rfl ?_) | (refine q_guard rfl rfl (fun _ => ?_) (fun _ => ?_)) | (refine q_guardn rfl rfl (fun _ => ?_) (fun _ => ?_)))
    exact r_fin hT rfl () rfl rfl rfl trivial rfl ((upd_upd ..).trans (upd_upd ..))
theorem pickF (h : Hp) (pb : Nat) (A : Option Addr) (n c : Nat) (s : DS) (bs : List Int) (k0 : Nat) (hX : Cx h pb A n bs) (hi : s.1 ≤ 900000000) (hk : k0 ≤ 100000) :
    TriS Tryd.prog 97 [.v (pt0 pb), .v (.int .i64 (k0 : Int))] [] (Wc h pb A n c s) (fun _ : Unit => .v (.int .i64 ((pk bs k0 s).1 : Int))) (fun _ => []) (fun _ u' => u' = Wc h pb A n c (pk bs k0 s).2) := by
  refine enterS Tryd.func97 rfl (n := 20) rfl rfl (fun k N => ?_)
  have h1 := nx_at bs s
  have r1 := nx_rng hX.byt s
  have r2 := nx_rng hX.byt (nx bs s).2
  by_cases hk1 : k0 ≤ 1
  · have e : pk bs k0 s = (0, s) := by unfold pk; rw [if_pos hk1]
    rw [e]
    repeat' (first | (refine r_pure hT rfl rfl rfl rfl ?_) | (refine r_new hT rfl rfl rfl rfl ?_) | (refine r_write hT rfl rfl rfl ?_) | (refine r_nil ?_) | (refine q_nil ?_) | (refine r_arith rfl rfl rfl rfl rfl rfl rfl (by omega) ?_) | (with_reducible refine r_seq ?_) | (with_reducible refine x_then ?_) | (with_reducible refine r_region ?_) | (refine r_draw hM (by kernel_rfl) ?_) | (with_reducible refine r_skip ?_) | (with_reducible refine r_ret ?_) | (with_reducible refine x_then_ret ?_) | (with_reducible refine r_block ?_) | (with_reducible refine x_block ?_) | (with_reducible refine x_block_ret ?_) | (with_reducible refine r_exit ?_) | (with_reducible refine x_then_exit ?_) | (with_reducible refine x_block_here ?_) | (refine x_block_past rfl ?_) | (refine c_yes rfl (by omega) ?_) | (refine c_no rfl (by omega) ?_) | (refine c_no rfl (fun h => h rfl) ?_) | (refine r_cond_false rfl ?_) | (refine r_cond_true rfl ?_) | (refine r_cond_dec rfl (fun _ => ?_) (fun _ => ?_)) | (refine r_cond_true rfl ?_) | (refine r_cond_false rfl ?_) | (refine c_not rfl (fun _ => ?_) (fun _ => ?_)) | (refine r_off rfl rfl rfl ?_) | (refine q_guard rfl rfl (fun _ => ?_) (fun _ => ?_)) | (refine q_guardn rfl rfl (fun _ => ?_) (fun _ => ?_)))
    exact r_fin hT rfl () rfl rfl rfl trivial rfl rfl
  by_cases hk2 : k0 ≤ 200
  · have e : pk bs k0 s = ((nx bs s).1.toNat % k0, (nx bs s).2) := by unfold pk; rw [if_neg hk1, if_pos hk2]
    rw [e]
    have hcall := nextF h pb A n c s bs hX (by omega)
    generalize nx bs s = y at *
    have e2 : ((y.1.toNat % k0 : Nat) : Int) = y.1.tmod k0 := by
      rw [Int.tmod_eq_emod_of_nonneg r1.1]; push_cast; rw [Int.toNat_of_nonneg r1.1]
    repeat' (first | (refine r_pure hT rfl rfl rfl rfl ?_) | (refine r_new hT rfl rfl rfl rfl ?_) | (refine r_write hT rfl rfl rfl ?_) | (refine r_nil ?_) | (refine q_nil ?_) | ((refine r_call hcall rfl rfl rfl rfl rfl (hC _ rfl) rfl rfl (fun y0 u1 hy => ?_) ; subst hy)) | (refine r_rem rfl rfl rfl rfl rfl rfl (by omega) ?_) | (refine r_arith rfl rfl rfl rfl rfl rfl rfl (by omega) ?_) | (with_reducible refine r_seq ?_) | (with_reducible refine x_then ?_) | (with_reducible refine r_region ?_) | (refine r_draw hM (by kernel_rfl) ?_) | (with_reducible refine r_skip ?_) | (with_reducible refine r_ret ?_) | (with_reducible refine x_then_ret ?_) | (with_reducible refine r_block ?_) | (with_reducible refine x_block ?_) | (with_reducible refine x_block_ret ?_) | (with_reducible refine r_exit ?_) | (with_reducible refine x_then_exit ?_) | (with_reducible refine x_block_here ?_) | (refine x_block_past rfl ?_) | (refine c_yes rfl (by omega) ?_) | (refine c_no rfl (by omega) ?_) | (refine c_no rfl (fun h => h rfl) ?_) | (refine r_cond_false rfl ?_) | (refine r_cond_true rfl ?_) | (refine r_cond_dec rfl (fun _ => ?_) (fun _ => ?_)) | (refine r_cond_true rfl ?_) | (refine r_cond_false rfl ?_) | (refine c_not rfl (fun _ => ?_) (fun _ => ?_)) | (refine r_off rfl rfl rfl ?_) | (refine q_guard rfl rfl (fun _ => ?_) (fun _ => ?_)) | (refine q_guardn rfl rfl (fun _ => ?_) (fun _ => ?_)))
    exact r_fin hT rfl () rfl rfl (congrArg (fun z : Int => some (Value.int .i64 z)) e2) trivial rfl rfl
  · have e : pk bs k0 s = (((nx bs s).1.toNat * 256 + (nx bs (nx bs s).2).1.toNat) % k0, (nx bs (nx bs s).2).2) := by unfold pk; rw [if_neg hk1, if_neg hk2]
    rw [e]
    have hcall := nextF h pb A n c s bs hX (by omega)
    have hcall2 := nextF h pb A n c (nx bs s).2 bs hX (by omega)
    generalize nx bs s = y at *
    generalize nx bs y.2 = z at *
    have e2 : (((y.1.toNat * 256 + z.1.toNat) % k0 : Nat) : Int) = (y.1 * 256 + z.1).tmod k0 := by
      rw [Int.tmod_eq_emod_of_nonneg (by omega)]; push_cast; rw [Int.toNat_of_nonneg r1.1, Int.toNat_of_nonneg r2.1]
    repeat' (first | (refine r_pure hT rfl rfl rfl rfl ?_) | (refine r_new hT rfl rfl rfl rfl ?_) | (refine r_write hT rfl rfl rfl ?_) | (refine r_nil ?_) | (refine q_nil ?_) | ((refine r_call hcall rfl rfl rfl rfl rfl (hC _ rfl) rfl rfl (fun y0 u1 hy => ?_) ; subst hy)) | ((refine r_call hcall2 rfl rfl rfl rfl rfl (hC _ rfl) rfl rfl (fun y0 u1 hy => ?_) ; subst hy)) | (refine r_rem rfl rfl rfl rfl rfl rfl (by omega) ?_) | (refine r_arith rfl rfl rfl rfl rfl rfl rfl (by omega) ?_) | (with_reducible refine r_seq ?_) | (with_reducible refine x_then ?_) | (with_reducible refine r_region ?_) | (refine r_draw hM (by kernel_rfl) ?_) | (with_reducible refine r_skip ?_) | (with_reducible refine r_ret ?_) | (with_reducible refine x_then_ret ?_) | (with_reducible refine r_block ?_) | (with_reducible refine x_block ?_) | (with_reducible refine x_block_ret ?_) | (with_reducible refine r_exit ?_) | (with_reducible refine x_then_exit ?_) | (with_reducible refine x_block_here ?_) | (refine x_block_past rfl ?_) | (refine c_yes rfl (by omega) ?_) | (refine c_no rfl (by omega) ?_) | (refine c_no rfl (fun h => h rfl) ?_) | (refine r_cond_false rfl ?_) | (refine r_cond_true rfl ?_) | (refine r_cond_dec rfl (fun _ => ?_) (fun _ => ?_)) | (refine r_cond_true rfl ?_) | (refine r_cond_false rfl ?_) | (refine c_not rfl (fun _ => ?_) (fun _ => ?_)) | (refine r_off rfl rfl rfl ?_) | (refine q_guard rfl rfl (fun _ => ?_) (fun _ => ?_)) | (refine q_guardn rfl rfl (fun _ => ?_) (fun _ => ?_)))
    exact r_fin hT rfl () rfl rfl (congrArg (fun z : Int => some (Value.int .i64 z)) e2) trivial rfl rfl
end Go.Proofs.YtkamfnmbidnhdaaDoor
/- The walk by a symbolic frame: a text cut. Over any program; no condition. -/
namespace Go.Sy
set_option linter.unusedSimpArgs false
set_option linter.unusedVariables false
section
variable {P : Program} {T : List (Nat × TI)} {F : Fr} {tm : Tm} {L : Lm} {u : Hp} {Q : Exit → Act → World → Prop}
/-- An end given or not. -/
def bndE (tm : Tm) (x : Option Operand) (d : Nat) (i : Nat) : Prop := match x with
  | none => i = d
  | some y => ∃ kk, ev tm y = some (.v (.int kk (i : Int)))
/-- x[lo:hi], x a text -/
theorem r_slstr (hT : TOK P T) {q : Md} {l : List Oper} {o : Oper} {r : List Oper} {d : Nat} {t : TypeId} {ti : TI} {x : Operand} {y z : Option Operand} {s : ByteArray} {lo hi : Nat}
    (hw : wantE l tm o = some true) (ho : o.dst = some d) (hn : Nat.blt d F.n.z = true) (hop : o.op = .slice t x y z none) (ht : kget T t = some ti) (hk : ti.kind = .str)
    (hx : ev tm x = some (.v (.string s))) (hy : bndE tm y 0 lo) (hz : bndE tm z s.size hi) (hl : lo ≤ hi) (hh : hi ≤ s.size)
    (next : Run P Q F ((d, .v (.string (s.extract lo hi))) :: tm) L u q l r) : Run P Q F tm L u q l (o :: r) := by
  refine op_pure hw ho hn (fun β a w ht' hd => ⟨?_, rfl⟩) next
  have hu2 : P.underlying t = some .string := by
    obtain ⟨d, hd, h⟩ := chk_desc (hT t ti ht)
    rw [hk] at h
    cases d <;> simp [kfits] at h
    exact hd
  have hb : (Instr.sliceBounds false s.size s.size (y.map a.eval) (z.map a.eval) none).run P w = .ok (lo, hi, s.size) w := by
    cases y with
    | none =>
      have e1 : lo = 0 := hy
      subst e1
      cases z with
      | none =>
        have e2 : hi = s.size := hz
        subst e2
        simp [Instr.sliceBounds]
      | some z =>
        obtain ⟨kk, e2⟩ := hz
        have := ev_ok ht' e2
        simp only [SV.den] at this
        simp [Instr.sliceBounds, Instr.sliceBound, this, asIntOf, hh]
    | some y =>
      obtain ⟨kk, e1⟩ := hy
      have h1 := ev_ok ht' e1
      simp only [SV.den] at h1
      cases z with
      | none =>
        have e2 : hi = s.size := hz
        subst e2
        simp [Instr.sliceBounds, Instr.sliceBound, h1, asIntOf, hl]
      | some z =>
        obtain ⟨kk, e2⟩ := hz
        have := ev_ok ht' e2
        simp only [SV.den] at this
        simp [Instr.sliceBounds, Instr.sliceBound, h1, this, asIntOf, hh, hl]
  have h1 : a.eval x = .string s := by rw [ev_ok ht' hx, SV.den]
  have hrun : (Instr.sliceAt t (.string s) (y.map a.eval) (z.map a.eval) none).run P w = .ok (.string (s.extract lo hi)) w := by
    unfold Instr.sliceAt Instr.slice
    simp only [Sem.run_bind, run_und hu2, Result.andThen_ok, hb, Sem.run_pure, Option.isSome_none, Bool.false_eq_true, if_false]
  simp [execOp, hop, h1, hrun, SV.den]
end
theorem ext_take (l : List UInt8) (n : Nat) : (⟨l.toArray⟩ : ByteArray).extract 0 n = ⟨(l.take n).toArray⟩ := by
  apply ByteArray.ext
  rw [ByteArray.data_extract]
  simp
end Go.Sy
