/- impl.Apart. No condition. -/
import Derived.Test.YtkamfnmbidnhdaaDoorSqAO
import Derived.Test.YtkamfnmbidnhdaaDoorSqAH
set_option linter.unusedVariables false
set_option linter.unusedSimpArgs false
set_option linter.unusedSectionVars false
namespace Go.Proofs.YtkamfnmbidnhdaaDoor
open Go.Sy
set_option maxRecDepth 100000
set_option maxHeartbeats 8000000
set_option linter.unusedVariables false
set_option linter.unusedSimpArgs false
section
variable {s t : List Pr} {path : List V} {k : V} {ks : List V} {L : List AE}
theorem stI_old (h1 : (fdV s k).k = 4 ∧ (fdV t k).k = 4) (h2 : inL L (fdV s k).a.toNat (fdV t k).a.toNat = true) : stI s t path (k :: ks) L = stI s t path ks L := by rw [stI, if_pos h1, if_pos h2]
theorem stI_new (h1 : (fdV s k).k = 4 ∧ (fdV t k).k = 4) (h2 : ¬ inL L (fdV s k).a.toNat (fdV t k).a.toNat = true) : stI s t path (k :: ks) L = stI s t path ks (L ++ [(((fdV s k).a.toNat, (fdV t k).a.toNat), path ++ [k])]) := by rw [stI, if_pos h1, if_neg h2]
theorem stI_eq (h1 : ¬ ((fdV s k).k = 4 ∧ (fdV t k).k = 4)) (h2 : fdV s k = fdV t k) : stI s t path (k :: ks) L = stI s t path ks L := by rw [stI, if_neg h1, if_pos (vEq_iff.2 h2)]
theorem stI_ne (h1 : ¬ ((fdV s k).k = 4 ∧ (fdV t k).k = 4)) (h2 : fdV s k ≠ fdV t k) : stI s t path (k :: ks) L = .inl (path ++ [k]) := by rw [stI, if_neg h1, if_neg (fun e => h2 (vEq_iff.1 e))]
end
theorem runI_inl {a b : List (List Pr)} {f i : Nat} {L : List AE} {e : AE} {p : List V} (h : L[i]? = some e) (hs : stI (tabA a e.1.1) (tabA b e.1.2) e.2 (ukey (tabA a e.1.1) (tabA b e.1.2)) L = .inl p) : runI a b (f + 1) L i = p := by
  simp only [runI, h, hs]
theorem runI_inr {a b : List (List Pr)} {f i : Nat} {L L' : List AE} {e : AE} (h : L[i]? = some e) (hs : stI (tabA a e.1.1) (tabA b e.1.2) e.2 (ukey (tabA a e.1.1) (tabA b e.1.2)) L = .inr L') : runI a b (f + 1) L i = runI a b f L' (i + 1) := by
  simp only [runI, h, hs]
theorem runI_end {a b : List (List Pr)} {f i : Nat} {L : List AE} (h : L[i]? = none) : runI a b f L i = [] := by
  cases f with
  | zero => rfl
  | succ f => rw [runI, h]
/-- What holds of all ways that were queued. -/
structure WOk (n m i : Nat) (L : List AE) : Prop where
  rng : ∀ e ∈ L, e.1.1 < n ∧ e.1.2 < m
  nod : (fsts L).Nodup
  len : ∀ e ∈ L, e.2.length ≤ i
theorem WOk.num {n m i : Nat} {L : List AE} (h : WOk n m i L) : L.length ≤ n * m := by
  have := pairs_len h.nod (fun p hp => by
    obtain ⟨e, he, rfl⟩ := List.mem_map.1 hp
    exact h.rng e he)
  unfold fsts at this
  rwa [List.length_map] at this
theorem WOk.up {n m i : Nat} {L : List AE} (h : WOk n m i L) : WOk n m (i + 1) L := ⟨h.rng, h.nod, fun e he => Nat.le_succ_of_le (h.len e he)⟩
theorem WOk.snoc {n m i : Nat} {L : List AE} {e : AE} (h : WOk n m i L) (h1 : e.1.1 < n ∧ e.1.2 < m) (h2 : ¬ inL L e.1.1 e.1.2 = true) (h3 : e.2.length ≤ i) : WOk n m i (L ++ [e]) := by
  refine ⟨fun x hx => ?_, ?_, fun x hx => ?_⟩
  · rcases List.mem_append.1 hx with hx | hx
    · exact h.rng x hx
    · rw [List.mem_singleton] at hx; rw [hx]; exact h1
  · unfold fsts
    rw [List.map_append]
    exact nodup_snoc h.nod fun hm => h2 (inL_iff.2 hm)
  · rcases List.mem_append.1 hx with hx | hx
    · exact h.len x hx
    · rw [List.mem_singleton] at hx; rw [hx]; exact h3
theorem cut_sub {u : Hp} {b off c g : Nat} : cut u (subA (some ⟨b, off, none⟩) c 1 3) g = cut u (some ⟨b, off, none⟩) g := by
  have hbl : blk (subA (some ⟨b, off, none⟩) c 1 3) = some b := by
    unfold subA
    split
    · rfl
    · simp only [Option.map_some, blk, Addr.add]
      split <;> simp_all
  funext x
  unfold cut
  rw [hbl]; rfl
theorem own_live {u : Hp} {A : Option Addr} {n c e sz : Nat} {cs : List Value} (h : Own u A n c e sz cs) {b : Nat} (hb : blk A = some b) : u b ≠ none := by
  cases A with
  | none => cases hb
  | some a =>
    obtain ⟨_, arr, g1, _⟩ := h.row a rfl
    have e : a.block = b := Option.some.inj hb
    rw [← e, g1]; simp
/-- A row apart from the queue and the map stands in what is left. -/
theorem AS.apart {h u : Hp} {g : Nat} {A K : Option Addr} {c : Nat} {ws : List WQ} {L es : List AE} (S : AS h u g A c ws L es) {u0 : Hp} (h0 : ∀ b, u b ≠ none → (blk A = some b ∨ b = g) → u0 b ≠ none) (hK : Off u0 K) : ∀ b, blk K = some b → blk A ≠ some b ∧ b ≠ g := fun b hb => by
  refine ⟨fun e => ?_, fun e => ?_⟩
  · exact h0 b (own_live S.own e) (.inl e) (hK b hb)
  · obtain ⟨o, m1, _⟩ := S.map
    exact h0 b (by rw [e, m1]; simp) (.inr e) (hK b hb)
theorem gok_wf {v : V} {ts : List (List Pr)} (h : GOk v ts) : Wf ts.length ts := wf_of (gok_in h).1 fun t ht p hp => tv_of ((h.2.2 t ht).2.1 p hp).2.1
/-- A perm of keys that stands in order is the sorted one. -/
theorem ksort_uniq {l ys : List V} (hk : ∀ x ∈ l, Ky x) (hp : ys.Perm l) (hs : SrtV ys) : ys = ksort l := by
  have h := List.pairwise_mergeSort (le := fun x y : V => !kl y x) (fun a b c h g => by
    simp only [Bool.not_eq_true'] at h g ⊢
    exact kl_ntr g h) (fun a b => by
    cases h1 : kl b a with
    | false => rfl
    | true =>
      cases h2 : kl a b with
      | false => rfl
      | true => have := kl_tr h1 h2; rw [kl_irr] at this; cases this) l
  have h2 : (ksort l).Pairwise fun x y => kl y x = false := h.imp fun {a b} h => by simpa using h
  have p2 : (ksort l).Perm l := List.mergeSort_perm _ _
  refine List.Perm.eq_of_pairwise (le := fun x y : V => kl y x = false) (fun a b ha hb h1 h2 => ?_) hs h2 (hp.trans p2.symm)
  exact ky_tot (hk a (hp.mem_iff.1 ha)) (hk b (p2.mem_iff.1 hb)) h2 h1
theorem implApart (v w : V) (a b : List (List Pr)) (A B : Option Addr) (n c m d : Nat) (h : Hp) (hPa : Tabs h A n a) (hPb : Tabs h B m b) :
    TriS Tryd.prog 37 [.ag (gsv v A n c), .ag (gsv w B m d)] [] h (fun y : Option Addr × Nat => .v (.slice y.1 (apA v w a b).length y.2)) (fun _ => [])
      (fun y h' => Own h' y.1 (apA v w a b).length y.2 48 4 ((apA v w a b).flatMap V.c) ∧ Le h h' ∧ Off h y.1) := by
  have hna := hPa.len
  have hnb := hPb.len
  subst hna
  subst hnb
  refine enterS Tryd.func37 rfl (n := 144) rfl rfl (fun k N => ?_)
  have hk1 := implOk v a A a.length c h hPa
  have hk2 := fun (u : Hp) (hu : Tabs u B b.length b) => implOk w b B b.length d u hu
  by_cases hg : GOk v a
  case neg =>
    simp only [decide_eq_false hg] at hk1
    have e0 : apA v w a b = [] := if_neg (fun x => hg x.1.1)
    rw [e0]
    repeat' (first | (refine r_pure hT rfl rfl rfl rfl ?_) | (refine r_new hT rfl rfl rfl rfl ?_) | (refine r_write hT rfl rfl rfl ?_) | (refine r_nil ?_) | (refine q_nil ?_) | ((refine r_call hk1 rfl rfl rfl rfl rfl (hC _ rfl) rfl rfl (fun y1 u1 hy1 => ?_) ; obtain ⟨hy1, hle1⟩ := hy1 ; subst hy1)) | (refine r_arith rfl rfl rfl rfl rfl rfl rfl (by omega) ?_) | (with_reducible refine r_seq ?_) | (with_reducible refine x_then ?_) | (with_reducible refine r_region ?_) | (refine r_draw hM (by kernel_rfl) ?_) | (with_reducible refine r_skip ?_) | (with_reducible refine r_ret ?_) | (with_reducible refine x_then_ret ?_) | (with_reducible refine r_block ?_) | (with_reducible refine x_block ?_) | (with_reducible refine x_block_ret ?_) | (with_reducible refine r_exit ?_) | (with_reducible refine x_then_exit ?_) | (with_reducible refine x_block_here ?_) | (refine x_block_past rfl ?_) | (refine c_yes rfl (by omega) ?_) | (refine c_no rfl (by omega) ?_) | (refine c_no rfl (fun h => h rfl) ?_) | (refine r_cond_false rfl ?_) | (refine r_cond_true rfl ?_) | (refine r_cond_dec rfl (fun _ => ?_) (fun _ => ?_)) | (refine r_cond_true rfl ?_) | (refine r_cond_false rfl ?_) | (refine c_not rfl (fun _ => ?_) (fun _ => ?_)) | (refine r_off rfl rfl rfl ?_) | (refine q_guard rfl rfl (fun _ => ?_) (fun _ => ?_)) | (refine q_guardn rfl rfl (fun _ => ?_) (fun _ => ?_)))
    exact r_fin hT rfl ((none, 0) : Option Addr × Nat) rfl rfl rfl trivial rfl ⟨own_nil, hle1, off_nil⟩
  simp only [decide_eq_true hg] at hk1
  by_cases hg' : GOk w b
  case neg =>
    simp only [decide_eq_false hg'] at hk2
    have e0 : apA v w a b = [] := if_neg (fun x => hg' x.1.2)
    rw [e0]
    repeat' (first | (refine r_pure hT rfl rfl rfl rfl ?_) | (refine r_new hT rfl rfl rfl rfl ?_) | (refine r_write hT rfl rfl rfl ?_) | (refine r_nil ?_) | (refine q_nil ?_) | ((refine r_call hk1 rfl rfl rfl rfl rfl (hC _ rfl) rfl rfl (fun y1 u1 hy1 => ?_) ; obtain ⟨hy1, hle1⟩ := hy1 ; subst hy1)) | ((refine r_call (hk2 u1 (hPb.le hle1)) rfl rfl rfl rfl rfl (hC _ rfl) rfl rfl (fun y2 u2 hy2 => ?_) ; obtain ⟨hy2, hle2⟩ := hy2 ; subst hy2)) | (refine r_arith rfl rfl rfl rfl rfl rfl rfl (by omega) ?_) | (with_reducible refine r_seq ?_) | (with_reducible refine x_then ?_) | (with_reducible refine r_region ?_) | (refine r_draw hM (by kernel_rfl) ?_) | (with_reducible refine r_skip ?_) | (with_reducible refine r_ret ?_) | (with_reducible refine x_then_ret ?_) | (with_reducible refine r_block ?_) | (with_reducible refine x_block ?_) | (with_reducible refine x_block_ret ?_) | (with_reducible refine r_exit ?_) | (with_reducible refine x_then_exit ?_) | (with_reducible refine x_block_here ?_) | (refine x_block_past rfl ?_) | (refine c_yes rfl (by omega) ?_) | (refine c_no rfl (by omega) ?_) | (refine c_no rfl (fun h => h rfl) ?_) | (refine r_cond_false rfl ?_) | (refine r_cond_true rfl ?_) | (refine r_cond_dec rfl (fun _ => ?_) (fun _ => ?_)) | (refine r_cond_true rfl ?_) | (refine r_cond_false rfl ?_) | (refine c_not rfl (fun _ => ?_) (fun _ => ?_)) | (refine r_off rfl rfl rfl ?_) | (refine q_guard rfl rfl (fun _ => ?_) (fun _ => ?_)) | (refine q_guardn rfl rfl (fun _ => ?_) (fun _ => ?_)))
    exact r_fin hT rfl ((none, 0) : Option Addr × Nat) rfl rfl rfl trivial rfl ⟨own_nil, hle1.trans hle2, off_nil⟩
  simp only [decide_eq_true hg'] at hk2
  by_cases h4 : v.k = 4
  case neg =>
    have e0 : apA v w a b = [] := if_neg (fun x => h4 x.2.1)
    rw [e0]
    repeat' (first | (refine r_pure hT rfl rfl rfl rfl ?_) | (refine r_new hT rfl rfl rfl rfl ?_) | (refine r_write hT rfl rfl rfl ?_) | (refine r_nil ?_) | (refine q_nil ?_) | ((refine r_call hk1 rfl rfl rfl rfl rfl (hC _ rfl) rfl rfl (fun y1 u1 hy1 => ?_) ; obtain ⟨hy1, hle1⟩ := hy1 ; subst hy1)) | ((refine r_call (hk2 u1 (hPb.le hle1)) rfl rfl rfl rfl rfl (hC _ rfl) rfl rfl (fun y2 u2 hy2 => ?_) ; obtain ⟨hy2, hle2⟩ := hy2 ; subst hy2)) | (refine q_guard rfl rfl (fun _ => ?_) (fun hx => absurd h4 hx)) | (refine r_arith rfl rfl rfl rfl rfl rfl rfl (by omega) ?_) | (with_reducible refine r_seq ?_) | (with_reducible refine x_then ?_) | (with_reducible refine r_region ?_) | (refine r_draw hM (by kernel_rfl) ?_) | (with_reducible refine r_skip ?_) | (with_reducible refine r_ret ?_) | (with_reducible refine x_then_ret ?_) | (with_reducible refine r_block ?_) | (with_reducible refine x_block ?_) | (with_reducible refine x_block_ret ?_) | (with_reducible refine r_exit ?_) | (with_reducible refine x_then_exit ?_) | (with_reducible refine x_block_here ?_) | (refine x_block_past rfl ?_) | (refine c_yes rfl (by omega) ?_) | (refine c_no rfl (by omega) ?_) | (refine c_no rfl (fun h => h rfl) ?_) | (refine r_cond_false rfl ?_) | (refine r_cond_true rfl ?_) | (refine r_cond_dec rfl (fun _ => ?_) (fun _ => ?_)) | (refine r_cond_true rfl ?_) | (refine r_cond_false rfl ?_) | (refine c_not rfl (fun _ => ?_) (fun _ => ?_)) | (refine r_off rfl rfl rfl ?_))
    exact r_fin hT rfl ((none, 0) : Option Addr × Nat) rfl rfl rfl trivial rfl ⟨own_nil, hle1.trans hle2, off_nil⟩
  by_cases h4' : w.k = 4
  case neg =>
    have e0 : apA v w a b = [] := if_neg (fun x => h4' x.2.2)
    rw [e0]
    repeat' (first | (refine r_pure hT rfl rfl rfl rfl ?_) | (refine r_new hT rfl rfl rfl rfl ?_) | (refine r_write hT rfl rfl rfl ?_) | (refine r_nil ?_) | (refine q_nil ?_) | ((refine r_call hk1 rfl rfl rfl rfl rfl (hC _ rfl) rfl rfl (fun y1 u1 hy1 => ?_) ; obtain ⟨hy1, hle1⟩ := hy1 ; subst hy1)) | ((refine r_call (hk2 u1 (hPb.le hle1)) rfl rfl rfl rfl rfl (hC _ rfl) rfl rfl (fun y2 u2 hy2 => ?_) ; obtain ⟨hy2, hle2⟩ := hy2 ; subst hy2)) | (refine q_guard rfl rfl (fun hx => absurd h4 hx) (fun _ => ?_)) | (refine c_yes rfl h4' ?_) | (refine r_arith rfl rfl rfl rfl rfl rfl rfl (by omega) ?_) | (with_reducible refine r_seq ?_) | (with_reducible refine x_then ?_) | (with_reducible refine r_region ?_) | (refine r_draw hM (by kernel_rfl) ?_) | (with_reducible refine r_skip ?_) | (with_reducible refine r_ret ?_) | (with_reducible refine x_then_ret ?_) | (with_reducible refine r_block ?_) | (with_reducible refine x_block ?_) | (with_reducible refine x_block_ret ?_) | (with_reducible refine r_exit ?_) | (with_reducible refine x_then_exit ?_) | (with_reducible refine x_block_here ?_) | (refine x_block_past rfl ?_) | (refine c_yes rfl (by omega) ?_) | (refine c_no rfl (by omega) ?_) | (refine c_no rfl (fun h => h rfl) ?_) | (refine r_cond_false rfl ?_) | (refine r_cond_true rfl ?_) | (refine r_cond_dec rfl (fun _ => ?_) (fun _ => ?_)) | (refine r_cond_true rfl ?_) | (refine r_cond_false rfl ?_) | (refine c_not rfl (fun _ => ?_) (fun _ => ?_)) | (refine r_off rfl rfl rfl ?_))
    exact r_fin hT rfl ((none, 0) : Option Addr × Nat) rfl rfl rfl trivial rfl ⟨own_nil, hle1.trans hle2, off_nil⟩
  have e0 : apA v w a b = runI a b (a.length * b.length + 1) [((v.a.toNat, w.a.toNat), [])] 0 := if_pos ⟨⟨hg, hg'⟩, h4, h4'⟩
  rw [e0]
  have hva := (gok_in hg).2.1 h4
  have hwa := (gok_in hg').2.1 h4'
  have hla := hg.1
  have hlb := hg'.1
  have hnm : a.length * b.length ≤ 40000 := by
    have := Nat.mul_le_mul hla hlb
    omega
  have wfa := gok_wf hg
  have wfb := gok_wf hg'
  obtain ⟨va, hvn⟩ : ∃ z : Nat, v.a = z := ⟨v.a.toNat, by omega⟩
  obtain ⟨wa, hwn⟩ : ∃ z : Nat, w.a = z := ⟨w.a.toNat, by omega⟩
  have hv2 : v.a.toNat = va := by omega
  have hw2 : w.a.toNat = wa := by omega
  rw [hv2, hw2]
  obtain ⟨vk, vn, vs, vaa⟩ := v
  obtain ⟨wk, wn, ws0, waa⟩ := w
  dsimp only at hvn hwn h4 h4' hva hwa
  subst hvn
  subst hwn
  repeat' (first | (refine r_pure hT rfl rfl rfl rfl ?_) | (refine r_new hT rfl rfl rfl rfl ?_) | (refine r_write hT rfl rfl rfl ?_) | (refine r_nil ?_) | (refine q_nil ?_) | ((refine r_call hk1 rfl rfl rfl rfl rfl (hC _ rfl) rfl rfl (fun y1 u1 hy1 => ?_) ; obtain ⟨hy1, hle1⟩ := hy1 ; subst hy1)) | ((refine r_call (hk2 u1 (hPb.le hle1)) rfl rfl rfl rfl rfl (hC _ rfl) rfl rfl (fun y2 u2 hy2 => ?_) ; obtain ⟨hy2, hle2⟩ := hy2 ; subst hy2)) | (refine q_guard rfl rfl (fun hx => absurd h4 hx) (fun _ => ?_)) | (refine c_no rfl (fun h => h h4') ?_) | (refine r_build hT rfl rfl rfl (ps := [(0, .tmp 41), (1, .tmp 44)]) rfl rfl rfl rfl rfl rfl ?_) | (refine r_build hT rfl rfl rfl (ps := [(0, .tmp 45), (1, .const (.slice none 0 0))]) rfl rfl rfl rfl rfl rfl ?_) | (refine r_bslice (t := 109) hT (ps := [(0, .tmp 46)]) rfl rfl rfl rfl rfl rfl rfl (by simp) rfl rfl (by decide) (fun b3 hb3 => ?_)) | (refine r_mkmap rfl rfl rfl rfl (fun g hg0 => ?_)) | (refine r_arith rfl rfl rfl rfl rfl rfl rfl (by omega) ?_) | (with_reducible refine r_seq ?_) | (with_reducible refine x_then ?_) | (with_reducible refine r_region ?_) | (refine r_draw hM (by kernel_rfl) ?_) | (with_reducible refine r_skip ?_) | (with_reducible refine r_ret ?_) | (with_reducible refine x_then_ret ?_) | (with_reducible refine r_block ?_) | (with_reducible refine x_block ?_) | (with_reducible refine x_block_ret ?_) | (with_reducible refine r_exit ?_) | (with_reducible refine x_then_exit ?_) | (with_reducible refine x_block_here ?_) | (refine x_block_past rfl ?_) | (refine c_yes rfl (by omega) ?_) | (refine c_no rfl (by omega) ?_) | (refine c_no rfl (fun h => h rfl) ?_) | (refine r_cond_false rfl ?_) | (refine r_cond_true rfl ?_) | (refine r_cond_true rfl ?_) | (refine r_cond_false rfl ?_) | (refine r_off rfl rfl rfl ?_))
  have hle12 := hle1.trans hle2
  have hbg : g ≠ b3 := fun e => by rw [e, upd_here] at hg0; cases hg0
  have hO5 : Own (upd (upd u2 b3 (.cells (WQ.c ⟨va, wa, ⟨none, 0, 0⟩⟩).toArray 108 (0, 0))) g (.map #[] 0)) (some ⟨b3, 0, none⟩) 1 1 108 3 (WQ.c ⟨va, wa, ⟨none, 0, 0⟩⟩) := (own_lit (b := b3) (m := 1) (sz := 3) rfl).le fun x o hx ho => by
    have e := Option.some.inj hx
    dsimp only at e
    rw [upd_ne (fun e2 => hbg (by rw [← e2, ← e]))]; exact ho
  have hM5 : MAt Tryd.prog tKey (upd (upd u2 b3 (.cells (WQ.c ⟨va, wa, ⟨none, 0, 0⟩⟩).toArray 108 (0, 0))) g (.map #[] 0)) g [] := MAt.made ..
  have hat5 : At (upd (upd u2 b3 (.cells (WQ.c ⟨va, wa, ⟨none, 0, 0⟩⟩).toArray 108 (0, 0))) g (.map #[] 0)) b3 0 (WQ.c ⟨va, wa, ⟨none, 0, 0⟩⟩) := ⟨_, _, _, by rw [upd_ne (Ne.symm hbg)]; exact upd_here .., fun j x hj => by simpa using hj⟩
  have hl25 : ∀ x o, u2 x = some o → x ≠ b3 ∧ x ≠ g ∧ upd (upd u2 b3 (.cells (WQ.c ⟨va, wa, ⟨none, 0, 0⟩⟩).toArray 108 (0, 0))) g (.map #[] 0) x = some o := fun x o hx => by
    have n1 : x ≠ b3 := fun e => by rw [e, hb3] at hx; cases hx
    have n2 : x ≠ g := fun e => by rw [← e, upd_ne n1, hx] at hg0; cases hg0
    exact ⟨n1, n2, by rw [upd_ne n2, upd_ne n1]; exact hx⟩
  repeat' (first | (refine r_pure hT rfl rfl rfl rfl ?_) | (refine r_new hT rfl rfl rfl rfl ?_) | (refine r_write hT rfl rfl rfl ?_) | (refine r_nil ?_) | (refine q_nil ?_) | (refine r_indexN (i := 0) hT rfl rfl rfl rfl rfl rfl rfl rfl rfl (Nat.zero_lt_one) ?_) | (refine r_load hT hat5 rfl rfl rfl rfl rfl rfl rfl rfl rfl rfl rfl ?_) | (refine r_mapset tKeyOps ((va : Int), (wa : Int)) hM5 map110 rfl rfl (.inr rfl) rfl rfl rfl rfl (fun u6 hM6 hu6 => ?_)) | (refine r_arith rfl rfl rfl rfl rfl rfl rfl (by omega) ?_) | (with_reducible refine r_seq ?_) | (with_reducible refine x_then ?_) | (with_reducible refine r_region ?_) | (refine r_draw hM (by kernel_rfl) ?_) | (with_reducible refine r_skip ?_) | (with_reducible refine r_ret ?_) | (with_reducible refine x_then_ret ?_) | (with_reducible refine r_block ?_) | (with_reducible refine x_block ?_) | (with_reducible refine x_block_ret ?_) | (with_reducible refine r_exit ?_) | (with_reducible refine x_then_exit ?_) | (with_reducible refine x_block_here ?_) | (refine x_block_past rfl ?_) | (refine c_yes rfl (by omega) ?_) | (refine c_no rfl (by omega) ?_) | (refine c_no rfl (fun h => h rfl) ?_) | (refine r_cond_false rfl ?_) | (refine r_cond_true rfl ?_) | (refine r_cond_true rfl ?_) | (refine r_cond_false rfl ?_) | (refine r_off rfl rfl rfl ?_) | (refine q_guard rfl rfl (fun _ => ?_) (fun _ => ?_)) | (refine q_guardn rfl rfl (fun _ => ?_) (fun _ => ?_)))
  have S0 : AS h u6 g (some ⟨b3, 0, none⟩) 1 [⟨va, wa, ⟨none, 0, 0⟩⟩] [((va, wa), [])] [((va, wa), [])] := by
    refine ⟨fun x o hx => ?_, hO5.le (fun x o hx ho => by
      have e := Option.some.inj hx
      dsimp only at e
      rw [hu6 x (fun e2 => hbg (by rw [← e2, ← e]))]; exact ho), hM6, fun e => hbg (Option.some.inj (show some b3 = some g from e)).symm, ⟨rfl, fun j x y hx hy => ?_⟩⟩
    · obtain ⟨n1, n2, n3⟩ := hl25 x o (hle12 x o hx)
      rw [cut_at (A := some ⟨b3, 0, none⟩) (b := x) (fun e => n1 (Option.some.inj (show some b3 = some x from e)).symm) n2, hu6 x n2]; exact n3
    · match j, hx, hy with
      | 0, hx, hy =>
        simp at hx hy
        subst hx
        subst hy
        exact ⟨rfl, rfl, Nat.le_refl _, rfl, own_nil (e := 48).sl⟩
      | j + 1, hx, hy => simp at hx
  have W0 : WOk a.length b.length 0 [((va, wa), [])] := ⟨fun e he => by rw [List.mem_singleton] at he; subst he; exact ⟨by dsimp only; omega, by dsimp only; omega⟩, by simp [fsts], fun e he => by rw [List.mem_singleton] at he; subst he; exact Nat.le_refl _⟩
  refine r_loop (γ := (Nat × Hp) × ((Option Addr × Nat) × (List WQ × List AE))) (fun g' => runI a b (a.length * b.length + 1) [((va, wa), [])] 0 = runI a b (a.length * b.length + 1 - g'.1.1) g'.2.2.2 g'.1.1 ∧ g'.1.1 ≤ g'.2.2.2.length ∧ WOk a.length b.length g'.1.1 g'.2.2.2 ∧ AS h g'.1.2 g g'.2.1.1 g'.2.1.2 g'.2.2.1 g'.2.2.2 (g'.2.2.2.drop g'.1.1))
    (fun g' => [(2, .p 2 0), (3, .p 3 0), (5, .v (.slice g'.2.1.1 g'.2.2.1.length g'.2.1.2)), (6, .v (.map (some g)))]) (fun _ => [(3, ⟨none, gsv ⟨wk, wn, ws0, (wa : Int)⟩ B b.length d, 51⟩), (2, ⟨none, gsv ⟨vk, vn, vs, (va : Int)⟩ A a.length c, 51⟩)]) (fun g' => g'.1.2) (fun g' => a.length * b.length + 1 - g'.1.1)
    ((0, u6), ((some ⟨b3, 0, none⟩, 1), ([⟨va, wa, ⟨none, 0, 0⟩⟩], [((va, wa), [])]))) ⟨rfl, Nat.zero_le _, W0, S0⟩ (into rfl ⟨rfl, rfl, rfl, rfl, trivial⟩ ⟨rfl, rfl, trivial⟩ rfl rfl) ?_
  clear W0 S0 hM5 hO5 hat5 hl25 hM6 hu6 hb3 hg0 hbg hk1 hk2 e0 hv2 hw2 hva hwa
  rintro ⟨⟨i, u⟩, ⟨⟨Aq, cq⟩, ⟨wq, L⟩⟩⟩ ⟨hrun, hiL, hW, S⟩
  dsimp only at *
  have hLn := hW.num
  match wq, S with
  | [], S =>
    have hdl : (L.drop i).length = 0 := S.rows.len.symm
    rw [List.length_drop] at hdl
    have hnone : L[i]? = none := List.getElem?_eq_none (by omega)
    rw [hrun, runI_end hnone]
    repeat' (first | (refine r_pure hT rfl rfl rfl rfl ?_) | (refine r_new hT rfl rfl rfl rfl ?_) | (refine r_write hT rfl rfl rfl ?_) | (refine r_nil ?_) | (refine q_nil ?_) | (refine r_arith rfl rfl rfl rfl rfl rfl rfl (by omega) ?_) | (with_reducible refine r_seq ?_) | (with_reducible refine x_then ?_) | (with_reducible refine r_region ?_) | (refine r_draw hM (by kernel_rfl) ?_) | (with_reducible refine r_skip ?_) | (with_reducible refine r_ret ?_) | (with_reducible refine x_then_ret ?_) | (with_reducible refine r_block ?_) | (with_reducible refine x_block ?_) | (with_reducible refine x_block_ret ?_) | (with_reducible refine r_exit ?_) | (with_reducible refine x_then_exit ?_) | (with_reducible refine x_block_here ?_) | (refine x_block_past rfl ?_) | (refine c_yes rfl (by omega) ?_) | (refine c_no rfl (by omega) ?_) | (refine c_no rfl (fun h => h rfl) ?_) | (refine r_cond_false rfl ?_) | (refine r_cond_true rfl ?_) | (refine r_cond_dec rfl (fun _ => ?_) (fun _ => ?_)) | (refine r_cond_true rfl ?_) | (refine r_cond_false rfl ?_) | (refine c_not rfl (fun _ => ?_) (fun _ => ?_)) | (refine r_off rfl rfl rfl ?_) | (refine q_guard rfl rfl (fun _ => ?_) (fun _ => ?_)) | (refine q_guardn rfl rfl (fun _ => ?_) (fun _ => ?_)))
    exact r_fin hT rfl ((none, 0) : Option Addr × Nat) rfl rfl rfl trivial rfl ⟨own_nil, S.hu, off_nil⟩
  | x :: wq, S =>
    have hdl := S.rows.len
    rw [List.length_drop, List.length_cons] at hdl
    have hlt : i < L.length := by omega
    obtain ⟨e, hLe⟩ : ∃ e, L[i]? = some e := ⟨_, List.getElem?_eq_getElem hlt⟩
    obtain ⟨_, hLe2⟩ := List.getElem?_eq_some_iff.1 hLe
    have hdrop : L.drop i = e :: L.drop (i + 1) := by rw [List.drop_eq_getElem_cons hlt, hLe2]
    have hme := List.mem_of_getElem? hLe
    obtain ⟨her1, her2⟩ := hW.rng e hme
    have hel := hW.len e hme
    have hf : a.length * b.length + 1 - i = (a.length * b.length + 1 - (i + 1)) + 1 := by omega
    rw [hf] at hrun
    rw [hdrop] at S
    obtain ⟨hx1, hx2, hx3, hx4⟩ := S.rows.row 0 x e rfl rfl
    obtain ⟨ex, ey⟩ : e.1 = (e.1.1, e.1.2) ∧ True := ⟨rfl, trivial⟩
    obtain ⟨xx, xy, xp⟩ := x
    obtain ⟨xA, xn, xc⟩ := xp
    dsimp only at hx1 hx2 hx3 hx4
    subst hx1
    subst hx2
    obtain ⟨bq, oq, rfl⟩ := own_some S.own (by simp : 0 < (_ : List WQ).length)
    have hatq : At u bq (oq + 0 * 3) (WQ.c ⟨e.1.1, e.1.2, ⟨xA, xn, xc⟩⟩) := by
      obtain ⟨_, arr, g1, g2, g3⟩ := S.own.row _ rfl
      exact ⟨arr, _, _, g1, fun j v hj => g3 _ v (by
        rw [List.flatMap_cons, List.getElem?_append_left (List.getElem?_eq_some_iff.1 hj).1]; exact hj)⟩
    have S1 := S.pop
    have hcq := S.own.cap
    rw [← cut_sub (c := cq)] at hx4
    have hPac := hPa.le S1.base
    have hPbc := hPb.le S1.base
    obtain ⟨ba, oa, As, ns, cs, s, rfl, _, hixs, hms, hats, hcs, hps⟩ := hPac.elem her1
    obtain ⟨bb, ob, At', nt, ct, t, rfl, _, hixt, hmt, hatt, hct, hpt⟩ := hPbc.elem her2
    have hatsu := hats.le (cut_le u _ g)
    have hattu := hatt.le (cut_le u _ g)
    have hpsu := hps.le (cut_le u _ g)
    have hptu := hpt.le (cut_le u _ g)
    obtain rfl := hps.1
    obtain rfl := hpt.1
    have hsA : tabA a e.1.1 = s := by rw [tabA_get her1]; exact (List.getElem?_eq_some_iff.1 hixs).2
    have htA : tabA b e.1.2 = t := by rw [tabA_get her2]; exact (List.getElem?_eq_some_iff.1 hixt).2
    have hinl : ∀ p, stI s t e.2 (ukey s t) L = .inl p → runI a b (a.length * b.length + 1) [((va, wa), [])] 0 = p := fun p hp => by rw [hrun]; exact runI_inl hLe (by rw [hsA, htA]; exact hp)
    have hinr : ∀ L', stI s t e.2 (ukey s t) L = .inr L' → runI a b (a.length * b.length + 1) [((va, wa), [])] 0 = runI a b (a.length * b.length + 1 - (i + 1)) L' (i + 1) := fun L' hp => by rw [hrun]; exact runI_inr hLe (by rw [hsA, htA]; exact hp)
    clear hrun
    have hwfs : ∀ k, In a.length (fdV s k) ∧ Tv (fdV s k) := fun k => by rw [← hsA]; exact wfa.inn _ k
    have hwft : ∀ k, In b.length (fdV t k) ∧ Tv (fdV t k) := fun k => by rw [← htA]; exact wfb.inn _ k
    have hsl := (hg.2.2 s hms).1
    have htl := (hg'.2.2 t hmt).1
    have hkyst : ∀ x ∈ s.map Pr.key ++ t.map Pr.key, Ky x := fun x hx => by
      rcases List.mem_append.1 hx with hx | hx
      · obtain ⟨p, hp, rfl⟩ := List.mem_map.1 hx; exact ky_of ((hg.2.2 s hms).2.1 p hp).1
      · obtain ⟨p, hp, rfl⟩ := List.mem_map.1 hx; exact ky_of ((hg'.2.2 t hmt).2.1 p hp).1
    clear hsA htA ex ey
    repeat' (first | (refine r_pure hT rfl rfl rfl rfl ?_) | (refine r_new hT rfl rfl rfl rfl ?_) | (refine r_write hT rfl rfl rfl ?_) | (refine r_nil ?_) | (refine q_nil ?_) | (refine c_yes rfl (by first | omega | (show (0 : Int) < ((_ :: wq).length : Int); simp)) ?_) | (refine r_indexN (i := 0) hT rfl rfl rfl rfl rfl rfl rfl rfl rfl (by simp) ?_) | (refine r_load hT hatq rfl rfl rfl rfl rfl (Nat.add_zero _).symm rfl rfl rfl rfl rfl ?_) | (refine r_slice1 (lo := 1) hT rfl rfl rfl rfl rfl rfl rfl rfl rfl (by simp) (by omega) ?_) | (refine r_arith rfl rfl rfl rfl rfl rfl rfl (by omega) ?_) | (with_reducible refine r_seq ?_) | (with_reducible refine x_then ?_) | (with_reducible refine r_region ?_) | (with_reducible refine r_skip ?_) | (with_reducible refine r_ret ?_) | (with_reducible refine x_then_ret ?_) | (with_reducible refine r_block ?_) | (with_reducible refine x_block ?_) | (with_reducible refine x_block_ret ?_) | (with_reducible refine r_exit ?_) | (with_reducible refine x_then_exit ?_) | (with_reducible refine x_block_here ?_) | (refine x_block_past rfl ?_) | (refine c_yes rfl (by omega) ?_) | (refine c_no rfl (by omega) ?_) | (refine c_no rfl (fun h => h rfl) ?_) | (refine r_cond_false rfl ?_) | (refine r_cond_true rfl ?_) | (refine r_cond_true rfl ?_) | (refine r_cond_false rfl ?_) | (refine r_off rfl rfl rfl ?_) | (refine q_guard rfl rfl (fun _ => ?_) (fun _ => ?_)) | (refine q_guardn rfl rfl (fun _ => ?_) (fun _ => ?_)))
    generalize hAq1 : subA (some ⟨bq, oq, none⟩) cq 1 3 = Aq1 at *
    generalize cq - 1 = cq1 at *
    have hxn := hx4.1
    subst hxn
    refine r_cut (γ := Unit) (fun _ => True) (fun _ => [(2, .p 2 0), (3, .p 3 0), (7, .p 7 0), (8, .p 8 0), (9, .p 9 0), (5, .v (.slice Aq1 wq.length cq1)), (6, .v (.map (some g)))])
      (fun _ => [(9, ⟨none, [.v (.slice At' t.length ct)], 59⟩), (8, ⟨none, [.v (.slice As s.length cs)], 59⟩), (7, ⟨none, [.v (.int .i64 (e.1.1 : Int)), .v (.int .i64 (e.1.2 : Int)), .v (.slice xA e.2.length xc)], 108⟩), (3, ⟨none, gsv ⟨wk, wn, ws0, (wa : Int)⟩ (some ⟨bb, ob, none⟩) b.length d, 51⟩), (2, ⟨none, gsv ⟨vk, vn, vs, (va : Int)⟩ (some ⟨ba, oa, none⟩) a.length c, 51⟩)]) (fun _ => u)
      (r_many (id := 8) [0, 1, 2, 3, 4, 5, 6, 7, 8, 9, 10, 11, 12, 13] [] u (Le.refl u) hM (by kernel_rfl) rfl (by kernel_rfl) rfl rfl rfl (fun β0 => ?_)) (fun _ _ => ?_)
    · repeat' (first | (refine r_pure hT rfl rfl rfl rfl ?_) | (refine r_new hT rfl rfl rfl rfl ?_) | (refine r_write hT rfl rfl rfl ?_) | (refine r_nil ?_) | (refine q_nil ?_) | (refine r_indexN hT rfl rfl rfl rfl rfl rfl rfl rfl rfl her1 ?_) | (refine r_indexN hT rfl rfl rfl rfl rfl rfl rfl rfl rfl her2 ?_) | (refine r_load hT hatsu rfl rfl rfl rfl rfl (Nat.add_zero _).symm rfl rfl rfl rfl rfl ?_) | (refine r_load hT hattu rfl rfl rfl rfl rfl (Nat.add_zero _).symm rfl rfl rfl rfl rfl ?_) | (refine m_keep (Le.refl u) ⟨rfl, rfl, rfl, trivial⟩ rfl rfl ?_) | (exact x_cut () trivial (into rfl ⟨rfl, rfl, rfl, rfl, rfl, rfl, rfl, trivial⟩ ⟨rfl, rfl, rfl, rfl, rfl, trivial⟩ rfl rfl)) | (refine r_arith rfl rfl rfl rfl rfl rfl rfl (by omega) ?_) | (with_reducible refine r_seq ?_) | (with_reducible refine x_then ?_) | (with_reducible refine r_region ?_) | (with_reducible refine r_skip ?_) | (with_reducible refine r_ret ?_) | (with_reducible refine x_then_ret ?_) | (with_reducible refine r_block ?_) | (with_reducible refine x_block ?_) | (with_reducible refine x_block_ret ?_) | (with_reducible refine r_exit ?_) | (with_reducible refine x_then_exit ?_) | (with_reducible refine x_block_here ?_) | (refine x_block_past rfl ?_) | (refine c_yes rfl (by omega) ?_) | (refine c_no rfl (by omega) ?_) | (refine c_no rfl (fun h => h rfl) ?_) | (refine r_cond_false rfl ?_) | (refine r_cond_true rfl ?_) | (refine r_cond_dec rfl (fun _ => ?_) (fun _ => ?_)) | (refine r_cond_true rfl ?_) | (refine r_cond_false rfl ?_) | (refine c_not rfl (fun _ => ?_) (fun _ => ?_)) | (refine r_off rfl rfl rfl ?_) | (refine q_guard rfl rfl (fun _ => ?_) (fun _ => ?_)) | (refine q_guardn rfl rfl (fun _ => ?_) (fun _ => ?_)) | (refine s_nil ?_) | (with_reducible refine a_full ?_) | (refine m_step rfl rfl (List.cons_ne_nil _ _) ?_) | (refine allR_cons rfl ?_ ?_) | (exact allR_nil) | (refine m_end rfl rfl rfl ?_))
    have hTc : ∀ b2, u b2 = none → Tabs (upd u b2 (.cells [Value.slice As s.length cs, Value.slice At' t.length ct].toArray 57 (0, 0))) (some ⟨b2, 0, none⟩) 2 [s, t] := fun b2 hb2 => by
      refine ⟨[⟨As, s.length, cs⟩, ⟨At', t.length, ct⟩], rfl, ⟨rfl, sl_blk (upd_here ..) rfl⟩, fun j x y hx hy => ?_⟩
      have hl := le_frsh (o := (.cells [Value.slice As s.length cs, Value.slice At' t.length ct].toArray 57 (0, 0))) (Le.refl u) hb2
      match j, hx, hy with
      | 0, hx, hy => simp at hx hy; subst hx; subst hy; exact ⟨hcs, hpsu.le hl⟩
      | 1, hx, hy => simp at hx hy; subst hx; subst hy; exact ⟨hct, hptu.le hl⟩
      | j + 2, hx, hy => simp at hx
    have hfl : [s, t].flatten = s ++ t := by simp
    have hcat := fun b2 hb2 => concat79 [s, t] (some ⟨b2, 0, none⟩) 2 2 _ (hTc b2 hb2) (by rw [hfl, List.length_append]; omega) (by simp)
    rw [hfl] at hcat
    repeat' (first | (refine r_pure hT rfl rfl rfl rfl ?_) | (refine r_new hT rfl rfl rfl rfl ?_) | (refine r_write hT rfl rfl rfl ?_) | (refine r_nil ?_) | (refine q_nil ?_) | (refine r_bslice (t := 153) hT (ps := [(0, .tmp 77), (1, .tmp 79)]) rfl rfl rfl rfl rfl rfl rfl (by simp) rfl rfl (by decide) (fun b2 hb2 => ?_)) | (refine r_call (hcat b2 hb2) rfl rfl rfl rfl rfl (hC _ rfl) rfl rfl (fun y8 u8 hy8 => ?_)) | (refine r_arith rfl rfl rfl rfl rfl rfl rfl (by omega) ?_) | (with_reducible refine r_seq ?_) | (with_reducible refine x_then ?_) | (with_reducible refine r_region ?_) | (with_reducible refine r_skip ?_) | (with_reducible refine r_ret ?_) | (with_reducible refine x_then_ret ?_) | (with_reducible refine r_block ?_) | (with_reducible refine x_block ?_) | (with_reducible refine x_block_ret ?_) | (with_reducible refine r_exit ?_) | (with_reducible refine x_then_exit ?_) | (with_reducible refine x_block_here ?_) | (refine x_block_past rfl ?_) | (refine c_yes rfl (by omega) ?_) | (refine c_no rfl (by omega) ?_) | (refine c_no rfl (fun h => h rfl) ?_) | (refine r_cond_false rfl ?_) | (refine r_cond_true rfl ?_) | (refine r_cond_true rfl ?_) | (refine r_cond_false rfl ?_) | (refine r_off rfl rfl rfl ?_) | (refine q_guard rfl rfl (fun _ => ?_) (fun _ => ?_)) | (refine q_guardn rfl rfl (fun _ => ?_) (fun _ => ?_)))
    obtain ⟨hO8, hl8, hof8⟩ := hy8
    have hlu8 : Le u u8 := (le_frsh (Le.refl u) hb2).trans hl8
    have hof8u : Off u y8.1 := fun x hx => none_of (le_frsh (Le.refl u) hb2) (hof8 x hx)
    have hp8 : Pairs u8 y8.1 (s ++ t).length (s ++ t) := own_pairs hO8
    have hctl : (s ++ t).length ≤ 200 := by rw [List.length_append]; omega
    refine r_loop (γ := (Nat × Hp) × (Option Addr × Nat)) (fun g' => g'.1.1 ≤ (s ++ t).length ∧ Le u8 g'.1.2 ∧ Off u8 g'.2.1 ∧ Own g'.1.2 g'.2.1 g'.1.1 g'.2.2 48 4 ((((s ++ t).take g'.1.1).map Pr.key).flatMap V.c))
      (fun g' => [(2, .p 2 0), (3, .p 3 0), (7, .p 7 0), (8, .p 8 0), (9, .p 9 0), (5, .v (.slice Aq1 wq.length cq1)), (6, .v (.map (some g))), (10, .v (.slice g'.2.1 g'.1.1 g'.2.2)), (81, .v (.slice y8.1 (s ++ t).length y8.2)), (82, .v (.int .i64 ((s ++ t).length : Int))), (83, .v (.int .i64 (g'.1.1 : Int)))])
      (fun _ => [(9, ⟨none, [.v (.slice At' t.length ct)], 59⟩), (8, ⟨none, [.v (.slice As s.length cs)], 59⟩), (7, ⟨none, [.v (.int .i64 (e.1.1 : Int)), .v (.int .i64 (e.1.2 : Int)), .v (.slice xA e.2.length xc)], 108⟩), (3, ⟨none, gsv ⟨wk, wn, ws0, (wa : Int)⟩ (some ⟨bb, ob, none⟩) b.length d, 51⟩), (2, ⟨none, gsv ⟨vk, vn, vs, (va : Int)⟩ (some ⟨ba, oa, none⟩) a.length c, 51⟩)]) (fun g' => g'.1.2) (fun g' => (s ++ t).length - g'.1.1)
      ((0, u8), (none, 0)) ⟨Nat.zero_le _, Le.refl u8, off_nil, own_nil⟩ (into rfl ⟨rfl, rfl, rfl, rfl, rfl, rfl, rfl, rfl, rfl, rfl, rfl, trivial⟩ ⟨rfl, rfl, rfl, rfl, rfl, trivial⟩ rfl rfl) ?_
    rintro ⟨⟨j, u9⟩, ⟨A9, c9⟩⟩ ⟨hj, hl9, hof9, hO9⟩
    dsimp only at *
    by_cases hltj : j < (s ++ t).length
    · obtain ⟨b6, o6, p, e6, _, hixp, _, hatp⟩ := (hp8.le hl9).elem Pr.c_len hltj
      obtain ⟨y8A, y8c⟩ := y8
      dsimp only at *
      subst e6
      repeat' (first | (refine r_pure hT rfl rfl rfl rfl ?_) | (refine r_new hT rfl rfl rfl rfl ?_) | (refine r_write hT rfl rfl rfl ?_) | (refine r_nil ?_) | (refine q_nil ?_) | (refine c_yes rfl (by omega) ?_) | (refine r_indexN hT rfl rfl rfl rfl rfl rfl rfl rfl rfl hltj ?_) | (refine r_load hT hatp rfl rfl rfl rfl rfl (Nat.add_zero _).symm rfl rfl rfl rfl rfl ?_) | (refine r_bslice (t := 62) hT (ps := [(0, .tmp 89)]) rfl rfl rfl rfl rfl rfl rfl (by simp) rfl rfl (by decide) (fun b7 hb7 => ?_)) | (refine r_append (t := 62) hT (cs := (((s ++ t).take j).map Pr.key).flatMap V.c) (news := [p.key].flatMap V.c) rfl rfl rfl rfl rfl rfl rfl rfl rfl rfl rfl (own_fr hO9 hb7) (sl_blk (upd_here ..) rfl) (V.one _) (by dsimp only; omega) (by omega) (fun A6 c6 u6 hO6 hG6 => ?_)) | (refine r_arith rfl rfl rfl rfl rfl rfl rfl (by omega) ?_) | (with_reducible refine r_seq ?_) | (with_reducible refine x_then ?_) | (with_reducible refine r_region ?_) | (with_reducible refine r_skip ?_) | (with_reducible refine r_ret ?_) | (with_reducible refine x_then_ret ?_) | (with_reducible refine r_block ?_) | (with_reducible refine x_block ?_) | (with_reducible refine x_block_ret ?_) | (with_reducible refine r_exit ?_) | (with_reducible refine x_then_exit ?_) | (with_reducible refine x_block_here ?_) | (refine x_block_past rfl ?_) | (refine c_yes rfl (by omega) ?_) | (refine c_no rfl (by omega) ?_) | (refine c_no rfl (fun h => h rfl) ?_) | (refine r_cond_false rfl ?_) | (refine r_cond_true rfl ?_) | (refine r_cond_true rfl ?_) | (refine r_cond_false rfl ?_) | (refine r_off rfl rfl rfl ?_) | (refine q_guard rfl rfl (fun _ => ?_) (fun _ => ?_)) | (refine q_guardn rfl rfl (fun _ => ?_) (fun _ => ?_)))
      have hk6 := hG6 u8 (hl9.trans (le_frsh (Le.refl u9) hb7)) hof9
      exact x_round ((j + 1, u6), (A6, c6)) ⟨hltj, hk6.1, hk6.2, by dsimp only; rw [take_snoc hixp, List.map_append, List.flatMap_append]; exact hO6⟩ (by dsimp only; omega) (into rfl ⟨rfl, rfl, rfl, rfl, rfl, rfl, rfl, rfl, rfl, rfl, rfl, trivial⟩ ⟨rfl, rfl, rfl, rfl, rfl, trivial⟩ rfl rfl)
    · obtain rfl : j = (s ++ t).length := by omega
      rw [List.take_length] at hO9
      have hkl9 : ((s ++ t).map Pr.key).length = (s ++ t).length := by simp
      have hsort := sort80 ((s ++ t).map Pr.key) A9 (s ++ t).length c9 u9 hO9 (fun x hx => by
        rw [List.map_append] at hx
        have := hkyst x hx
        exact ⟨by have := this.k1; omega, by have := this.k3; omega⟩) (by omega)
      repeat' (first | (refine r_pure hT rfl rfl rfl rfl ?_) | (refine r_new hT rfl rfl rfl rfl ?_) | (refine r_write hT rfl rfl rfl ?_) | (refine r_nil ?_) | (refine q_nil ?_) | (refine c_no rfl (by omega) ?_) | (refine r_call hsort rfl rfl rfl rfl rfl (hC _ rfl) rfl rfl (fun _ u10 hy10 => ?_)) | (refine r_arith rfl rfl rfl rfl rfl rfl rfl (by omega) ?_) | (with_reducible refine r_seq ?_) | (with_reducible refine x_then ?_) | (with_reducible refine r_region ?_) | (with_reducible refine r_skip ?_) | (with_reducible refine r_ret ?_) | (with_reducible refine x_then_ret ?_) | (with_reducible refine r_block ?_) | (with_reducible refine x_block ?_) | (with_reducible refine x_block_ret ?_) | (with_reducible refine r_exit ?_) | (with_reducible refine x_then_exit ?_) | (with_reducible refine x_block_here ?_) | (refine x_block_past rfl ?_) | (refine c_yes rfl (by omega) ?_) | (refine c_no rfl (by omega) ?_) | (refine c_no rfl (fun h => h rfl) ?_) | (refine r_cond_false rfl ?_) | (refine r_cond_true rfl ?_) | (refine r_cond_true rfl ?_) | (refine r_cond_false rfl ?_) | (refine r_off rfl rfl rfl ?_) | (refine q_guard rfl rfl (fun _ => ?_) (fun _ => ?_)) | (refine q_guardn rfl rfl (fun _ => ?_) (fun _ => ?_)))
      obtain ⟨ys, hz1, hz2, hO10, hK10⟩ := hy10
      have hys : ys = ksort (s.map Pr.key ++ t.map Pr.key) := ksort_uniq hkyst (by rw [← List.map_append]; exact hz1) hz2
      have hysl : ys.length = ((s ++ t).map Pr.key).length := hz1.length_eq
      have hcmp := compact82 ys A9 _ c9 u10 hO10 (by omega)
      have huk : cmpV ys = ukey s t := by rw [hys]; rfl
      rw [huk] at hcmp
      have hkn : (ukey s t).length ≤ 200 := by rw [← huk]; have := cmpV_len ys; omega
      repeat' (first | (refine r_pure hT rfl rfl rfl rfl ?_) | (refine r_new hT rfl rfl rfl rfl ?_) | (refine r_write hT rfl rfl rfl ?_) | (refine r_nil ?_) | (refine q_nil ?_) | (refine r_call hcmp rfl rfl rfl rfl rfl (hC _ rfl) rfl rfl (fun _ u11 hy11 => ?_)) | (refine r_arith rfl rfl rfl rfl rfl rfl rfl (by omega) ?_) | (with_reducible refine r_seq ?_) | (with_reducible refine x_then ?_) | (with_reducible refine r_region ?_) | (with_reducible refine r_skip ?_) | (with_reducible refine r_ret ?_) | (with_reducible refine x_then_ret ?_) | (with_reducible refine r_block ?_) | (with_reducible refine x_block ?_) | (with_reducible refine x_block_ret ?_) | (with_reducible refine r_exit ?_) | (with_reducible refine x_then_exit ?_) | (with_reducible refine x_block_here ?_) | (refine x_block_past rfl ?_) | (refine c_yes rfl (by omega) ?_) | (refine c_no rfl (by omega) ?_) | (refine c_no rfl (fun h => h rfl) ?_) | (refine r_cond_false rfl ?_) | (refine r_cond_true rfl ?_) | (refine r_cond_true rfl ?_) | (refine r_cond_false rfl ?_) | (refine r_off rfl rfl rfl ?_) | (refine q_guard rfl rfl (fun _ => ?_) (fun _ => ?_)) | (refine q_guardn rfl rfl (fun _ => ?_) (fun _ => ?_)))
      obtain ⟨hO11, hK11⟩ := hy11
      have hlu11 : Le u u11 := fun x o hx => by
        have n1 : blk A9 ≠ some x := fun e => by have := hof9 x e; rw [hlu8 x o hx] at this; cases this
        rw [hK11 x n1, hK10 x n1]
        exact hl9 x o (hlu8 x o hx)
      have hofK : Off u A9 := fun x hx => none_of hlu8 (hof9 x hx)
      have S2 := S1.le hlu11
      have hap := S2.apart (K := A9) (u0 := u) (fun x hx hor => by
        rcases hor with hx2 | rfl
        · exact own_live S1.own hx2
        · obtain ⟨o, m1, _⟩ := S1.map
          rw [m1]; simp) hofK
      have S3 := S2.re (Le.refl _)
      have hKc : Rd V.c 4 (cut u11 Aq1 g) A9 (ukey s t).length (ukey s t) := ⟨rfl, (hO11.le fun x o hx ho => by rw [cut_at (hap x hx).1 (hap x hx).2]; exact ho).sl⟩
      have hcm : Le (cut u Aq1 g) (cut u11 Aq1 g) := cut_mono hlu11
      have hpsc := hps.le hcm
      have hptc := hpt.le hcm
      have hx4c := hx4.le hcm
      have hbase : Le h (cut u11 Aq1 g) := S1.base.trans hcm
      generalize cut u11 Aq1 g = q0 at *
      generalize hks : ukey s t = ks at *
      refine r_loop (γ := (Nat × Hp) × ((Option Addr × Nat) × (List WQ × List AE))) (fun g' => g'.1.1 ≤ ks.length ∧ stI s t e.2 ks L = stI s t e.2 (ks.drop g'.1.1) g'.2.2.2 ∧ i + 1 ≤ g'.2.2.2.length ∧ WOk a.length b.length (i + 1) g'.2.2.2 ∧ AS q0 g'.1.2 g g'.2.1.1 g'.2.1.2 g'.2.2.1 g'.2.2.2 (g'.2.2.2.drop (i + 1)))
        (fun g' => [(2, .p 2 0), (3, .p 3 0), (7, .p 7 0), (8, .p 8 0), (9, .p 9 0), (5, .v (.slice g'.2.1.1 g'.2.2.1.length g'.2.1.2)), (6, .v (.map (some g))), (96, .v (.slice A9 ks.length c9)), (97, .v (.int .i64 (ks.length : Int))), (98, .v (.int .i64 (g'.1.1 : Int)))])
        (fun _ => [(9, ⟨none, [.v (.slice At' t.length ct)], 59⟩), (8, ⟨none, [.v (.slice As s.length cs)], 59⟩), (7, ⟨none, [.v (.int .i64 (e.1.1 : Int)), .v (.int .i64 (e.1.2 : Int)), .v (.slice xA e.2.length xc)], 108⟩), (3, ⟨none, gsv ⟨wk, wn, ws0, (wa : Int)⟩ (some ⟨bb, ob, none⟩) b.length d, 51⟩), (2, ⟨none, gsv ⟨vk, vn, vs, (va : Int)⟩ (some ⟨ba, oa, none⟩) a.length c, 51⟩)]) (fun g' => g'.1.2) (fun g' => ks.length - g'.1.1)
        ((0, u11), ((Aq1, cq1), (wq, L))) ⟨Nat.zero_le _, rfl, by dsimp only; omega, hW.up, S3⟩ (into rfl ⟨rfl, rfl, rfl, rfl, rfl, rfl, rfl, rfl, rfl, rfl, trivial⟩ ⟨rfl, rfl, rfl, rfl, rfl, trivial⟩ rfl rfl) ?_
      rintro ⟨⟨j, u12⟩, ⟨⟨Ar, cr⟩, ⟨wr, L'⟩⟩⟩ ⟨hj2, hst, hLi, hW', S4⟩
      dsimp only at *
      have hu12 := S4.hu
      by_cases hltk : j < ks.length
      · obtain ⟨bk, ok, kk, e6, hdk, hixk, _, hatk⟩ := (hKc.le hu12).elem V.c_len hltk
        subst e6
        rw [hdk] at hst
        have f1 := find83 s kk As s.length cs u12 (hpsc.le hu12) (by omega)
        have f2 := find83 t kk At' t.length ct u12 (hptc.le hu12) (by omega)
        rw [findV_eq] at f1 f2
        have hwx := hwfs kk
        have hwy := hwft kk
        obtain ⟨fx, hfx⟩ : ∃ fx, fdV s kk = fx := ⟨_, rfl⟩
        obtain ⟨fy, hfy⟩ : ∃ fy, fdV t kk = fy := ⟨_, rfl⟩
        rw [hfx] at f1 hwx
        rw [hfy] at f2 hwy
        repeat' (first | (refine r_pure hT rfl rfl rfl rfl ?_) | (refine r_new hT rfl rfl rfl rfl ?_) | (refine r_write hT rfl rfl rfl ?_) | (refine r_nil ?_) | (refine q_nil ?_) | (refine c_yes rfl (by omega) ?_) | (refine r_indexN hT rfl rfl rfl rfl rfl rfl rfl rfl rfl hltk ?_) | (refine r_load hT hatk rfl rfl rfl rfl rfl (Nat.add_zero _).symm rfl rfl rfl rfl rfl ?_) | (refine r_arith rfl rfl rfl rfl rfl rfl rfl (by omega) ?_) | (with_reducible refine r_seq ?_) | (with_reducible refine x_then ?_) | (with_reducible refine r_region ?_) | (with_reducible refine r_skip ?_) | (with_reducible refine r_ret ?_) | (with_reducible refine x_then_ret ?_) | (with_reducible refine r_block ?_) | (with_reducible refine x_block ?_) | (with_reducible refine x_block_ret ?_) | (with_reducible refine r_exit ?_) | (with_reducible refine x_then_exit ?_) | (with_reducible refine x_block_here ?_) | (refine x_block_past rfl ?_) | (refine c_yes rfl (by omega) ?_) | (refine c_no rfl (by omega) ?_) | (refine c_no rfl (fun h => h rfl) ?_) | (refine r_cond_false rfl ?_) | (refine r_cond_true rfl ?_) | (refine r_cond_true rfl ?_) | (refine r_cond_false rfl ?_) | (refine r_off rfl rfl rfl ?_) | (refine q_guard rfl rfl (fun _ => ?_) (fun _ => ?_)) | (refine q_guardn rfl rfl (fun _ => ?_) (fun _ => ?_)))
        refine r_cut (γ := Unit) (fun _ => True) (fun _ => [(2, .p 2 0), (3, .p 3 0), (7, .p 7 0), (8, .p 8 0), (9, .p 9 0), (14, .p 14 0), (15, .p 15 0), (16, .p 16 0), (5, .v (.slice Ar wr.length cr)), (6, .v (.map (some g))), (96, .v (.slice (some ⟨bk, ok, none⟩) ks.length c9)), (97, .v (.int .i64 (ks.length : Int))), (98, .v (.int .i64 (j : Int)))])
          (fun _ => [(16, ⟨none, fy.sv, 48⟩), (15, ⟨none, fx.sv, 48⟩), (14, ⟨none, kk.sv, 48⟩), (9, ⟨none, [.v (.slice At' t.length ct)], 59⟩), (8, ⟨none, [.v (.slice As s.length cs)], 59⟩), (7, ⟨none, [.v (.int .i64 (e.1.1 : Int)), .v (.int .i64 (e.1.2 : Int)), .v (.slice xA e.2.length xc)], 108⟩), (3, ⟨none, gsv ⟨wk, wn, ws0, (wa : Int)⟩ (some ⟨bb, ob, none⟩) b.length d, 51⟩), (2, ⟨none, gsv ⟨vk, vn, vs, (va : Int)⟩ (some ⟨ba, oa, none⟩) a.length c, 51⟩)]) (fun _ => u12)
          (r_many (id := 19) [0, 1, 3, 4] [] u12 (Le.refl u12) hM (by kernel_rfl) rfl (by kernel_rfl) rfl rfl rfl (fun β0 => ?_)) (fun _ _ => ?_)
        · repeat' (first | (refine r_pure hT rfl rfl rfl rfl ?_) | (refine r_new hT rfl rfl rfl rfl ?_) | (refine r_write hT rfl rfl rfl ?_) | (refine r_nil ?_) | (refine q_nil ?_) | (refine p_call f1 rfl rfl rfl rfl rfl (hC _ rfl) rfl rfl rfl ?_) | (refine p_call f2 rfl rfl rfl rfl rfl (hC _ rfl) rfl rfl rfl ?_) | (refine m_keep (Le.refl u12) ⟨rfl, rfl, rfl, rfl, rfl, rfl, trivial⟩ rfl rfl ?_) | (exact x_cut () trivial (into rfl ⟨rfl, rfl, rfl, rfl, rfl, rfl, rfl, rfl, rfl, rfl, rfl, rfl, rfl, trivial⟩ ⟨rfl, rfl, rfl, rfl, rfl, rfl, rfl, rfl, trivial⟩ rfl rfl)) | (refine r_arith rfl rfl rfl rfl rfl rfl rfl (by omega) ?_) | (with_reducible refine r_seq ?_) | (with_reducible refine x_then ?_) | (with_reducible refine r_region ?_) | (with_reducible refine r_skip ?_) | (with_reducible refine r_ret ?_) | (with_reducible refine x_then_ret ?_) | (with_reducible refine r_block ?_) | (with_reducible refine x_block ?_) | (with_reducible refine x_block_ret ?_) | (with_reducible refine r_exit ?_) | (with_reducible refine x_then_exit ?_) | (with_reducible refine x_block_here ?_) | (refine x_block_past rfl ?_) | (refine c_yes rfl (by omega) ?_) | (refine c_no rfl (by omega) ?_) | (refine c_no rfl (fun h => h rfl) ?_) | (refine r_cond_false rfl ?_) | (refine r_cond_true rfl ?_) | (refine r_cond_dec rfl (fun _ => ?_) (fun _ => ?_)) | (refine r_cond_true rfl ?_) | (refine r_cond_false rfl ?_) | (refine c_not rfl (fun _ => ?_) (fun _ => ?_)) | (refine r_off rfl rfl rfl ?_) | (refine q_guard rfl rfl (fun _ => ?_) (fun _ => ?_)) | (refine q_guardn rfl rfl (fun _ => ?_) (fun _ => ?_)) | (refine s_nil ?_) | (with_reducible refine a_full ?_) | (refine m_step rfl rfl (List.cons_ne_nil _ _) ?_) | (refine allR_cons rfl ?_ ?_) | (exact allR_nil) | (refine m_end rfl rfl rfl ?_))
        have hxr := hx4c.le hu12
        repeat' (first | (refine r_pure hT rfl rfl rfl rfl ?_) | (refine r_new hT rfl rfl rfl rfl ?_) | (refine r_write hT rfl rfl rfl ?_) | (refine r_nil ?_) | (refine q_nil ?_) | (refine r_arith rfl rfl rfl rfl rfl rfl rfl (by omega) ?_) | (with_reducible refine r_seq ?_) | (with_reducible refine x_then ?_) | (with_reducible refine r_region ?_) | (with_reducible refine r_skip ?_) | (with_reducible refine r_ret ?_) | (with_reducible refine x_then_ret ?_) | (with_reducible refine r_block ?_) | (with_reducible refine x_block ?_) | (with_reducible refine x_block_ret ?_) | (with_reducible refine r_exit ?_) | (with_reducible refine x_then_exit ?_) | (with_reducible refine x_block_here ?_) | (refine x_block_past rfl ?_) | (refine c_yes rfl (by omega) ?_) | (refine c_no rfl (by omega) ?_) | (refine c_no rfl (fun h => h rfl) ?_) | (refine r_cond_false rfl ?_) | (refine r_cond_true rfl ?_) | (refine r_cond_true rfl ?_) | (refine r_cond_false rfl ?_) | (refine r_off rfl rfl rfl ?_) | (refine q_guard rfl rfl (fun _ => ?_) (fun _ => ?_)) | (refine q_guardn rfl rfl (fun _ => ?_) (fun _ => ?_)))
        refine r_cut (γ := Hp × (Option Addr × Nat)) (fun g' => Le u12 g'.1 ∧ Off u12 g'.2.1 ∧ Own g'.1 g'.2.1 (e.2.length + 1) g'.2.2 48 4 (e.2.flatMap V.c ++ [kk].flatMap V.c)) (fun g' => [(2, .p 2 0), (3, .p 3 0), (7, .p 7 0), (8, .p 8 0), (9, .p 9 0), (14, .p 14 0), (15, .p 15 0), (16, .p 16 0), (5, .v (.slice Ar wr.length cr)), (6, .v (.map (some g))), (17, .v (.slice g'.2.1 (e.2.length + 1) g'.2.2)), (96, .v (.slice (some ⟨bk, ok, none⟩) ks.length c9)), (97, .v (.int .i64 (ks.length : Int))), (98, .v (.int .i64 (j : Int)))])
          (fun _ => [(16, ⟨none, fy.sv, 48⟩), (15, ⟨none, fx.sv, 48⟩), (14, ⟨none, kk.sv, 48⟩), (9, ⟨none, [.v (.slice At' t.length ct)], 59⟩), (8, ⟨none, [.v (.slice As s.length cs)], 59⟩), (7, ⟨none, [.v (.int .i64 (e.1.1 : Int)), .v (.int .i64 (e.1.2 : Int)), .v (.slice xA e.2.length xc)], 108⟩), (3, ⟨none, gsv ⟨wk, wn, ws0, (wa : Int)⟩ (some ⟨bb, ob, none⟩) b.length d, 51⟩), (2, ⟨none, gsv ⟨vk, vn, vs, (va : Int)⟩ (some ⟨ba, oa, none⟩) a.length c, 51⟩)]) (fun g' => g'.1)
          (r_many (id := 20) [0, 1, 3] [] u12 (Le.refl u12) hM (by kernel_rfl) rfl (by kernel_rfl) rfl rfl rfl (fun β0 => ?_)) (fun g13 hg13 => ?_)
        · repeat' (first | (refine r_pure hT rfl rfl rfl rfl ?_) | (refine r_new hT rfl rfl rfl rfl ?_) | (refine r_write hT rfl rfl rfl ?_) | (refine r_nil ?_) | (refine q_nil ?_) | (refine r_call (clone84 e.2 xA e.2.length xc u12 hxr (by omega)) rfl rfl rfl rfl rfl (hC _ rfl) rfl rfl (fun y20 u20 hy20 => ?_)) | (refine r_call (clone84 e.2 xA e.2.length xc _ (hxr.le (le_frsh (Le.refl u12) hb7)) (by omega)) rfl rfl rfl rfl rfl (hC _ rfl) rfl rfl (fun y20 u20 hy20 => ?_)) | (refine r_bslice (t := 62) hT (ps := [(0, .tmp 111)]) rfl rfl rfl rfl rfl rfl rfl (by simp) rfl rfl (by decide) (fun b7 hb7 => ?_)) | (refine r_append (t := 62) hT (cs := e.2.flatMap V.c) (news := [kk].flatMap V.c) rfl rfl rfl rfl rfl rfl rfl rfl rfl rfl rfl (own_fr hy20.1 hb7) (sl_blk (upd_here ..) rfl) (V.one _) (by dsimp only; omega) (by omega) (fun A21 c21 u21 hO21 hG21 => ?_)) | (refine r_append (t := 62) hT (cs := e.2.flatMap V.c) (news := [kk].flatMap V.c) rfl rfl rfl rfl rfl rfl rfl rfl rfl rfl rfl hy20.1 (sl_blk (hy20.2.1 _ _ (upd_here ..)) rfl) (V.one _) (by dsimp only; omega) (by omega) (fun A21 c21 u21 hO21 hG21 => ?_)) | (refine m_keep hy20.2.1 ⟨rfl, rfl, rfl, rfl, rfl, rfl, rfl, rfl, trivial⟩ rfl rfl ?_) | (refine m_keep (hy20.2.1.trans (le_frsh (Le.refl _) hb7)) ⟨rfl, rfl, rfl, rfl, rfl, rfl, rfl, rfl, trivial⟩ rfl rfl ?_) | (refine m_keep (hG21 u12 (hy20.2.1.trans (le_frsh (Le.refl _) hb7)) hy20.2.2).1 ⟨rfl, rfl, rfl, rfl, rfl, rfl, rfl, rfl, trivial⟩ rfl rfl ?_) | (refine m_keep (le_frsh (Le.refl u12) hb7) ⟨rfl, rfl, rfl, rfl, rfl, rfl, rfl, rfl, trivial⟩ rfl rfl ?_) | (refine m_keep ((le_frsh (Le.refl u12) hb7).trans hy20.2.1) ⟨rfl, rfl, rfl, rfl, rfl, rfl, rfl, rfl, trivial⟩ rfl rfl ?_) | (refine m_keep (hG21 u12 ((le_frsh (Le.refl u12) hb7).trans hy20.2.1) (fun x hx => none_of (le_frsh (Le.refl u12) hb7) (hy20.2.2 x hx))).1 ⟨rfl, rfl, rfl, rfl, rfl, rfl, rfl, rfl, trivial⟩ rfl rfl ?_) | (exact x_cut (u21, (A21, c21)) ⟨(hG21 u12 (hy20.2.1.trans (le_frsh (Le.refl _) hb7)) hy20.2.2).1, (hG21 u12 (hy20.2.1.trans (le_frsh (Le.refl _) hb7)) hy20.2.2).2, hO21⟩ (into rfl ⟨rfl, rfl, rfl, rfl, rfl, rfl, rfl, rfl, rfl, rfl, rfl, rfl, rfl, rfl, trivial⟩ ⟨rfl, rfl, rfl, rfl, rfl, rfl, rfl, rfl, trivial⟩ rfl rfl)) | (exact x_cut (u21, (A21, c21)) ⟨(hG21 u12 ((le_frsh (Le.refl u12) hb7).trans hy20.2.1) (fun x hx => none_of (le_frsh (Le.refl u12) hb7) (hy20.2.2 x hx))).1, (hG21 u12 ((le_frsh (Le.refl u12) hb7).trans hy20.2.1) (fun x hx => none_of (le_frsh (Le.refl u12) hb7) (hy20.2.2 x hx))).2, hO21⟩ (into rfl ⟨rfl, rfl, rfl, rfl, rfl, rfl, rfl, rfl, rfl, rfl, rfl, rfl, rfl, rfl, trivial⟩ ⟨rfl, rfl, rfl, rfl, rfl, rfl, rfl, rfl, trivial⟩ rfl rfl)) | (refine r_arith rfl rfl rfl rfl rfl rfl rfl (by omega) ?_) | (with_reducible refine r_seq ?_) | (with_reducible refine x_then ?_) | (with_reducible refine r_region ?_) | (with_reducible refine r_skip ?_) | (with_reducible refine r_ret ?_) | (with_reducible refine x_then_ret ?_) | (with_reducible refine r_block ?_) | (with_reducible refine x_block ?_) | (with_reducible refine x_block_ret ?_) | (with_reducible refine r_exit ?_) | (with_reducible refine x_then_exit ?_) | (with_reducible refine x_block_here ?_) | (refine x_block_past rfl ?_) | (refine c_yes rfl (by omega) ?_) | (refine c_no rfl (by omega) ?_) | (refine c_no rfl (fun h => h rfl) ?_) | (refine r_cond_false rfl ?_) | (refine r_cond_true rfl ?_) | (refine r_cond_dec rfl (fun _ => ?_) (fun _ => ?_)) | (refine r_cond_true rfl ?_) | (refine r_cond_false rfl ?_) | (refine c_not rfl (fun _ => ?_) (fun _ => ?_)) | (refine r_off rfl rfl rfl ?_) | (refine q_guard rfl rfl (fun _ => ?_) (fun _ => ?_)) | (refine q_guardn rfl rfl (fun _ => ?_) (fun _ => ?_)) | (refine s_nil ?_) | (with_reducible refine a_full ?_) | (refine m_step rfl rfl (List.cons_ne_nil _ _) ?_) | (refine allR_cons rfl ?_ ?_) | (exact allR_nil) | (refine m_end rfl rfl rfl ?_))
        obtain ⟨u13, ⟨Ap, cp⟩⟩ := g13
        obtain ⟨hl13, hof13, hO13⟩ := hg13
        dsimp only at *
        rw [← List.flatMap_append] at hO13
        have S5 := S4.le hl13
        have hap2 := S5.apart (K := Ap) (u0 := u12) (fun x hx hor => by
          rcases hor with hx2 | rfl
          · exact own_live S4.own hx2
          · obtain ⟨o, m1, _⟩ := S4.map
            rw [m1]; simp) hof13
        have hll : (e.2 ++ [kk]).length = e.2.length + 1 := by simp
        have hl013 : Le h u13 := (hbase.trans hu12).trans hl13
        have hofp : Off h Ap := fun x hx => none_of (hbase.trans hu12) (hof13 x hx)
        obtain ⟨xk, xn, xs, xa⟩ := fx
        obtain ⟨yk, yn, ys2, ya⟩ := fy
        by_cases hx4k : xk = 4
        · by_cases hy4k : yk = 4
          · have hix := hwx.1 hx4k
            have hiy := hwy.1 hy4k
            dsimp only at hix hiy
            obtain ⟨xa', rfl⟩ : ∃ z : Nat, xa = z := ⟨xa.toNat, by omega⟩
            obtain ⟨ya', rfl⟩ : ∃ z : Nat, ya = z := ⟨ya.toNat, by omega⟩
            have hb4 : (fdV s kk).k = 4 ∧ (fdV t kk).k = 4 := by rw [hfx, hfy]; exact ⟨hx4k, hy4k⟩
            have ha1 : (fdV s kk).a.toNat = xa' := by rw [hfx]; dsimp only; omega
            have ha2 : (fdV t kk).a.toNat = ya' := by rw [hfy]; dsimp only; omega
            by_cases hin : inL L' xa' ya' = true
            · have hget : mget (mpL L') ((xa' : Int), (ya' : Int)) = 1 := by rw [mpL_get, if_pos hin]
              rw [stI_old hb4 (by rw [ha1, ha2]; exact hin)] at hst
              repeat' (first | (refine r_pure hT rfl rfl rfl rfl ?_) | (refine r_new hT rfl rfl rfl rfl ?_) | (refine r_write hT rfl rfl rfl ?_) | (refine r_nil ?_) | (refine q_nil ?_) | (refine q_guard rfl rfl (fun hx => absurd hx4k hx) (fun _ => ?_)) | (refine c_no (p := yk ≠ 4) rfl (fun h => h hy4k) ?_) | (refine r_build hT rfl rfl rfl (ps := [(0, .tmp 127), (1, .tmp 129)]) rfl rfl rfl rfl rfl rfl ?_) | ((refine r_look tKeyOps ((xa' : Int), (ya' : Int)) S5.map map110 zero3 rfl rfl rfl rfl rfl rfl rfl ?_ ; rw [hget])) | (refine c_no rfl (by decide) ?_) | (refine r_arith rfl rfl rfl rfl rfl rfl rfl (by omega) ?_) | (with_reducible refine r_seq ?_) | (with_reducible refine x_then ?_) | (with_reducible refine r_region ?_) | (with_reducible refine r_skip ?_) | (with_reducible refine r_ret ?_) | (with_reducible refine x_then_ret ?_) | (with_reducible refine r_block ?_) | (with_reducible refine x_block ?_) | (with_reducible refine x_block_ret ?_) | (with_reducible refine r_exit ?_) | (with_reducible refine x_then_exit ?_) | (with_reducible refine x_block_here ?_) | (refine x_block_past rfl ?_) | (refine c_yes rfl (by omega) ?_) | (refine c_no rfl (by omega) ?_) | (refine c_no rfl (fun h => h rfl) ?_) | (refine r_cond_false rfl ?_) | (refine r_cond_true rfl ?_) | (refine r_cond_true rfl ?_) | (refine r_cond_false rfl ?_) | (refine r_off rfl rfl rfl ?_))
              exact x_round ((j + 1, u13), ((Ar, cr), (wr, L'))) ⟨hltk, hst, hLi, hW', S5⟩ (by dsimp only; omega) (into rfl ⟨rfl, rfl, rfl, rfl, rfl, rfl, rfl, rfl, rfl, rfl, trivial⟩ ⟨rfl, rfl, rfl, rfl, rfl, trivial⟩ rfl rfl)
            · have hget : mget (mpL L') ((xa' : Int), (ya' : Int)) = 0 := by rw [mpL_get, if_neg hin]
              rw [stI_new hb4 (by rw [ha1, ha2]; exact hin), ha1, ha2] at hst
              have hwrl := S5.rows.len
              rw [List.length_drop] at hwrl
              have hLn' := hW'.num
              repeat' (first | (refine r_pure hT rfl rfl rfl rfl ?_) | (refine r_new hT rfl rfl rfl rfl ?_) | (refine r_write hT rfl rfl rfl ?_) | (refine r_nil ?_) | (refine q_nil ?_) | (refine q_guard rfl rfl (fun hx => absurd hx4k hx) (fun _ => ?_)) | (refine c_no (p := yk ≠ 4) rfl (fun h => h hy4k) ?_) | (refine r_build hT rfl rfl rfl (ps := [(0, .tmp 127), (1, .tmp 129)]) rfl rfl rfl rfl rfl rfl ?_) | ((refine r_look tKeyOps ((xa' : Int), (ya' : Int)) S5.map map110 zero3 rfl rfl rfl rfl rfl rfl rfl ?_ ; rw [hget])) | (refine c_yes (p := (0 : Int) = 0) rfl rfl ?_) | (refine r_mapset tKeyOps ((xa' : Int), (ya' : Int)) S5.map map110 rfl rfl (.inl rfl) rfl rfl rfl rfl (fun u14 hM14 hu14 => ?_)) | (refine r_arith rfl rfl rfl rfl rfl rfl rfl (by omega) ?_) | (with_reducible refine r_seq ?_) | (with_reducible refine x_then ?_) | (with_reducible refine r_region ?_) | (with_reducible refine r_skip ?_) | (with_reducible refine r_ret ?_) | (with_reducible refine x_then_ret ?_) | (with_reducible refine r_block ?_) | (with_reducible refine x_block ?_) | (with_reducible refine x_block_ret ?_) | (with_reducible refine r_exit ?_) | (with_reducible refine x_then_exit ?_) | (with_reducible refine x_block_here ?_) | (refine x_block_past rfl ?_) | (refine c_yes rfl (by omega) ?_) | (refine c_no rfl (by omega) ?_) | (refine c_no rfl (fun h => h rfl) ?_) | (refine r_cond_false rfl ?_) | (refine r_cond_true rfl ?_) | (refine r_cond_true rfl ?_) | (refine r_cond_false rfl ?_) | (refine r_off rfl rfl rfl ?_))
              rw [mpL_set (e := ((xa', ya'), e.2 ++ [kk])) hin] at hM14
              have S6 := S5.up (L' := L' ++ [((xa', ya'), e.2 ++ [kk])]) hM14 hu14
              have hpath : Rd V.c 4 (cut u14 Ar g) Ap (e.2.length + 1) (e.2 ++ [kk]) := ⟨hll.symm, (hO13.le fun x o hx ho => by rw [cut_at (hap2 x hx).1 (hap2 x hx).2, hu14 x (hap2 x hx).2]; exact ho).sl⟩
              have hpcap := hO13.cap
              repeat' (first | (refine r_pure hT rfl rfl rfl rfl ?_) | (refine r_new hT rfl rfl rfl rfl ?_) | (refine r_write hT rfl rfl rfl ?_) | (refine r_nil ?_) | (refine q_nil ?_) | (refine r_build hT rfl rfl rfl (ps := [(0, .tmp 138), (1, .tmp 139)]) rfl rfl rfl rfl rfl rfl ?_) | (refine r_bslice (t := 109) hT (ps := [(0, .tmp 140)]) rfl rfl rfl rfl rfl rfl rfl (by simp) rfl rfl (by decide) (fun b8 hb8 => ?_)) | (refine r_append (t := 109) hT (cs := wr.flatMap WQ.c) (news := [(⟨xa', ya', ⟨Ap, e.2.length + 1, cp⟩⟩ : WQ)].flatMap WQ.c) rfl rfl rfl rfl rfl rfl rfl rfl rfl rfl rfl (own_fr S6.own hb8) (sl_blk (upd_here ..) rfl) (WQ.one _) (by dsimp only; omega) (by omega) (fun A15 c15 u15 hO15 hG15 => ?_)) | (refine r_arith rfl rfl rfl rfl rfl rfl rfl (by omega) ?_) | (with_reducible refine r_seq ?_) | (with_reducible refine x_then ?_) | (with_reducible refine r_region ?_) | (with_reducible refine r_skip ?_) | (with_reducible refine r_ret ?_) | (with_reducible refine x_then_ret ?_) | (with_reducible refine r_block ?_) | (with_reducible refine x_block ?_) | (with_reducible refine x_block_ret ?_) | (with_reducible refine r_exit ?_) | (with_reducible refine x_then_exit ?_) | (with_reducible refine x_block_here ?_) | (refine x_block_past rfl ?_) | (refine c_yes rfl (by omega) ?_) | (refine c_no rfl (by omega) ?_) | (refine c_no rfl (fun h => h rfl) ?_) | (refine r_cond_false rfl ?_) | (refine r_cond_true rfl ?_) | (refine r_cond_true rfl ?_) | (refine r_cond_false rfl ?_) | (refine r_off rfl rfl rfl ?_) | (refine q_guard rfl rfl (fun _ => ?_) (fun _ => ?_)) | (refine q_guardn rfl rfl (fun _ => ?_) (fun _ => ?_)))
              have S7 := S6.push (le_frsh (Le.refl u14) hb8) (w := ⟨xa', ya', ⟨Ap, e.2.length + 1, cp⟩⟩) (e := ((xa', ya'), e.2 ++ [kk])) ⟨rfl, rfl, hpcap, hpath⟩ hO15 hG15
              have hdr : (L' ++ [((xa', ya'), e.2 ++ [kk])]).drop (i + 1) = L'.drop (i + 1) ++ [((xa', ya'), e.2 ++ [kk])] := List.drop_append_of_le_length hLi
              exact x_round ((j + 1, u15), ((A15, c15), (wr ++ [⟨xa', ya', ⟨Ap, e.2.length + 1, cp⟩⟩], L' ++ [((xa', ya'), e.2 ++ [kk])]))) ⟨hltk, hst, by dsimp only; rw [List.length_append]; omega, hW'.snoc ⟨by dsimp only; omega, by dsimp only; omega⟩ hin (by dsimp only; rw [hll]; omega), by dsimp only; rw [hdr]; exact S7⟩ (by dsimp only; omega) (into rfl ⟨rfl, rfl, rfl, rfl, rfl, congrArg (fun z : Nat => some (SV.v (.slice A15 z c15))) (by simp), rfl, rfl, rfl, rfl, trivial⟩ ⟨rfl, rfl, rfl, rfl, rfl, trivial⟩ rfl rfl)
          · have hnb : ¬ ((fdV s kk).k = 4 ∧ (fdV t kk).k = 4) := by rw [hfy]; exact fun x => hy4k x.2
            by_cases hxy : (⟨xk, xn, xs, xa⟩ : V) = ⟨yk, yn, ys2, ya⟩
            · have heq : ∀ z, (Op.equalIn Op.maxDepth 48 (.agg (⟨xk, xn, xs, xa⟩ : V).c.toArray) (.agg (⟨yk, yn, ys2, ya⟩ : V).c.toArray)).run Tryd.prog z = .ok true z := fun z => (eq29f z xk xn xs xa ⟨yk, yn, ys2, ya⟩).trans (by rw [decide_eq_true hxy])
              rw [stI_eq hnb (by rw [hfx, hfy]; exact hxy)] at hst
              repeat' (first | (refine r_pure hT rfl rfl rfl rfl ?_) | (refine r_new hT rfl rfl rfl rfl ?_) | (refine r_write hT rfl rfl rfl ?_) | (refine r_nil ?_) | (refine q_nil ?_) | (refine q_guard rfl rfl (fun hx => absurd hx4k hx) (fun _ => ?_)) | (refine c_yes (p := yk ≠ 4) rfl hy4k ?_) | (refine r_eqs heq (by kernel_rfl) (.inr rfl) rfl rfl rfl rfl rfl rfl rfl rfl ?_) | (refine r_arith rfl rfl rfl rfl rfl rfl rfl (by omega) ?_) | (with_reducible refine r_seq ?_) | (with_reducible refine x_then ?_) | (with_reducible refine r_region ?_) | (with_reducible refine r_skip ?_) | (with_reducible refine r_ret ?_) | (with_reducible refine x_then_ret ?_) | (with_reducible refine r_block ?_) | (with_reducible refine x_block ?_) | (with_reducible refine x_block_ret ?_) | (with_reducible refine r_exit ?_) | (with_reducible refine x_then_exit ?_) | (with_reducible refine x_block_here ?_) | (refine x_block_past rfl ?_) | (refine c_yes rfl (by omega) ?_) | (refine c_no rfl (by omega) ?_) | (refine c_no rfl (fun h => h rfl) ?_) | (refine r_cond_false rfl ?_) | (refine r_cond_true rfl ?_) | (refine r_cond_true rfl ?_) | (refine r_cond_false rfl ?_) | (refine r_off rfl rfl rfl ?_))
              exact x_round ((j + 1, u13), ((Ar, cr), (wr, L'))) ⟨hltk, hst, hLi, hW', S5⟩ (by dsimp only; omega) (into rfl ⟨rfl, rfl, rfl, rfl, rfl, rfl, rfl, rfl, rfl, rfl, trivial⟩ ⟨rfl, rfl, rfl, rfl, rfl, trivial⟩ rfl rfl)
            · have heq : ∀ z, (Op.equalIn Op.maxDepth 48 (.agg (⟨xk, xn, xs, xa⟩ : V).c.toArray) (.agg (⟨yk, yn, ys2, ya⟩ : V).c.toArray)).run Tryd.prog z = .ok false z := fun z => (eq29f z xk xn xs xa ⟨yk, yn, ys2, ya⟩).trans (by rw [decide_eq_false hxy])
              rw [stI_ne hnb (by rw [hfx, hfy]; exact hxy)] at hst
              rw [hinl _ hst, hll]
              repeat' (first | (refine r_pure hT rfl rfl rfl rfl ?_) | (refine r_new hT rfl rfl rfl rfl ?_) | (refine r_write hT rfl rfl rfl ?_) | (refine r_nil ?_) | (refine q_nil ?_) | (refine q_guard rfl rfl (fun hx => absurd hx4k hx) (fun _ => ?_)) | (refine c_yes (p := yk ≠ 4) rfl hy4k ?_) | (refine r_eqs heq (by kernel_rfl) (.inr rfl) rfl rfl rfl rfl rfl rfl rfl rfl ?_) | (refine r_arith rfl rfl rfl rfl rfl rfl rfl (by omega) ?_) | (with_reducible refine r_seq ?_) | (with_reducible refine x_then ?_) | (with_reducible refine r_region ?_) | (with_reducible refine r_skip ?_) | (with_reducible refine r_ret ?_) | (with_reducible refine x_then_ret ?_) | (with_reducible refine r_block ?_) | (with_reducible refine x_block ?_) | (with_reducible refine x_block_ret ?_) | (with_reducible refine r_exit ?_) | (with_reducible refine x_then_exit ?_) | (with_reducible refine x_block_here ?_) | (refine x_block_past rfl ?_) | (refine c_yes rfl (by omega) ?_) | (refine c_no rfl (by omega) ?_) | (refine c_no rfl (fun h => h rfl) ?_) | (refine r_cond_false rfl ?_) | (refine r_cond_true rfl ?_) | (refine r_cond_true rfl ?_) | (refine r_cond_false rfl ?_) | (refine r_off rfl rfl rfl ?_))
              exact r_fin hT rfl ((Ap, cp) : Option Addr × Nat) rfl rfl rfl trivial rfl ⟨hO13, hl013, hofp⟩
        · have hnb : ¬ ((fdV s kk).k = 4 ∧ (fdV t kk).k = 4) := by rw [hfx]; exact fun x => hx4k x.1
          by_cases hxy : (⟨xk, xn, xs, xa⟩ : V) = ⟨yk, yn, ys2, ya⟩
          · have heq : ∀ z, (Op.equalIn Op.maxDepth 48 (.agg (⟨xk, xn, xs, xa⟩ : V).c.toArray) (.agg (⟨yk, yn, ys2, ya⟩ : V).c.toArray)).run Tryd.prog z = .ok true z := fun z => (eq29f z xk xn xs xa ⟨yk, yn, ys2, ya⟩).trans (by rw [decide_eq_true hxy])
            rw [stI_eq hnb (by rw [hfx, hfy]; exact hxy)] at hst
            repeat' (first | (refine r_pure hT rfl rfl rfl rfl ?_) | (refine r_new hT rfl rfl rfl rfl ?_) | (refine r_write hT rfl rfl rfl ?_) | (refine r_nil ?_) | (refine q_nil ?_) | (refine q_guard rfl rfl (fun _ => ?_) (fun hx => absurd hx4k hx)) | (refine r_eqs heq (by kernel_rfl) (.inr rfl) rfl rfl rfl rfl rfl rfl rfl rfl ?_) | (refine r_arith rfl rfl rfl rfl rfl rfl rfl (by omega) ?_) | (with_reducible refine r_seq ?_) | (with_reducible refine x_then ?_) | (with_reducible refine r_region ?_) | (with_reducible refine r_skip ?_) | (with_reducible refine r_ret ?_) | (with_reducible refine x_then_ret ?_) | (with_reducible refine r_block ?_) | (with_reducible refine x_block ?_) | (with_reducible refine x_block_ret ?_) | (with_reducible refine r_exit ?_) | (with_reducible refine x_then_exit ?_) | (with_reducible refine x_block_here ?_) | (refine x_block_past rfl ?_) | (refine c_yes rfl (by omega) ?_) | (refine c_no rfl (by omega) ?_) | (refine c_no rfl (fun h => h rfl) ?_) | (refine r_cond_false rfl ?_) | (refine r_cond_true rfl ?_) | (refine r_cond_true rfl ?_) | (refine r_cond_false rfl ?_) | (refine r_off rfl rfl rfl ?_))
            exact x_round ((j + 1, u13), ((Ar, cr), (wr, L'))) ⟨hltk, hst, hLi, hW', S5⟩ (by dsimp only; omega) (into rfl ⟨rfl, rfl, rfl, rfl, rfl, rfl, rfl, rfl, rfl, rfl, trivial⟩ ⟨rfl, rfl, rfl, rfl, rfl, trivial⟩ rfl rfl)
          · have heq : ∀ z, (Op.equalIn Op.maxDepth 48 (.agg (⟨xk, xn, xs, xa⟩ : V).c.toArray) (.agg (⟨yk, yn, ys2, ya⟩ : V).c.toArray)).run Tryd.prog z = .ok false z := fun z => (eq29f z xk xn xs xa ⟨yk, yn, ys2, ya⟩).trans (by rw [decide_eq_false hxy])
            rw [stI_ne hnb (by rw [hfx, hfy]; exact hxy)] at hst
            rw [hinl _ hst, hll]
            repeat' (first | (refine r_pure hT rfl rfl rfl rfl ?_) | (refine r_new hT rfl rfl rfl rfl ?_) | (refine r_write hT rfl rfl rfl ?_) | (refine r_nil ?_) | (refine q_nil ?_) | (refine q_guard rfl rfl (fun _ => ?_) (fun hx => absurd hx4k hx)) | (refine r_eqs heq (by kernel_rfl) (.inr rfl) rfl rfl rfl rfl rfl rfl rfl rfl ?_) | (refine r_arith rfl rfl rfl rfl rfl rfl rfl (by omega) ?_) | (with_reducible refine r_seq ?_) | (with_reducible refine x_then ?_) | (with_reducible refine r_region ?_) | (with_reducible refine r_skip ?_) | (with_reducible refine r_ret ?_) | (with_reducible refine x_then_ret ?_) | (with_reducible refine r_block ?_) | (with_reducible refine x_block ?_) | (with_reducible refine x_block_ret ?_) | (with_reducible refine r_exit ?_) | (with_reducible refine x_then_exit ?_) | (with_reducible refine x_block_here ?_) | (refine x_block_past rfl ?_) | (refine c_yes rfl (by omega) ?_) | (refine c_no rfl (by omega) ?_) | (refine c_no rfl (fun h => h rfl) ?_) | (refine r_cond_false rfl ?_) | (refine r_cond_true rfl ?_) | (refine r_cond_true rfl ?_) | (refine r_cond_false rfl ?_) | (refine r_off rfl rfl rfl ?_))
            exact r_fin hT rfl ((Ap, cp) : Option Addr × Nat) rfl rfl rfl trivial rfl ⟨hO13, hl013, hofp⟩
      · obtain rfl : j = ks.length := by omega
        rw [List.drop_length] at hst
        have hrn := hinr L' hst
        repeat' (first | (refine r_pure hT rfl rfl rfl rfl ?_) | (refine r_new hT rfl rfl rfl rfl ?_) | (refine r_write hT rfl rfl rfl ?_) | (refine r_nil ?_) | (refine q_nil ?_) | (refine c_no rfl (by omega) ?_) | (refine r_arith rfl rfl rfl rfl rfl rfl rfl (by omega) ?_) | (with_reducible refine r_seq ?_) | (with_reducible refine x_then ?_) | (with_reducible refine r_region ?_) | (with_reducible refine r_skip ?_) | (with_reducible refine r_ret ?_) | (with_reducible refine x_then_ret ?_) | (with_reducible refine r_block ?_) | (with_reducible refine x_block ?_) | (with_reducible refine x_block_ret ?_) | (with_reducible refine r_exit ?_) | (with_reducible refine x_then_exit ?_) | (with_reducible refine x_block_here ?_) | (refine x_block_past rfl ?_) | (refine c_yes rfl (by omega) ?_) | (refine c_no rfl (by omega) ?_) | (refine c_no rfl (fun h => h rfl) ?_) | (refine r_cond_false rfl ?_) | (refine r_cond_true rfl ?_) | (refine r_cond_true rfl ?_) | (refine r_cond_false rfl ?_) | (refine r_off rfl rfl rfl ?_) | (refine q_guard rfl rfl (fun _ => ?_) (fun _ => ?_)) | (refine q_guardn rfl rfl (fun _ => ?_) (fun _ => ?_)))
        exact x_round ((i + 1, u12), ((Ar, cr), (wr, L'))) ⟨hrn, hLi, hW', S4.re (hbase.trans S4.base)⟩ (by dsimp only; omega) (into rfl ⟨rfl, rfl, rfl, rfl, trivial⟩ ⟨rfl, rfl, trivial⟩ rfl rfl)
end Go.Proofs.YtkamfnmbidnhdaaDoor
