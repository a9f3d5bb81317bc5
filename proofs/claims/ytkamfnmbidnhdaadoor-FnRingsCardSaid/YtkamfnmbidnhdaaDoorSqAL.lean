/- Two graphs side by side: the tables of both, plain and as the programs lay them. No condition. -/
import Derived.Test.YtkamfnmbidnhdaaDoorSqAK
import Derived.Test.YtkamfnmbidnhdaaDoorSqAG
import Derived.Test.YtkamfnmbidnhdaaDoorSqAJ
import Derived.Test.YtkamfnmbidnhdaaDoorSqAF
set_option linter.unusedVariables false
set_option linter.unusedSimpArgs false
set_option linter.unusedSectionVars false
namespace Go.Proofs.YtkamfnmbidnhdaaDoor
open Go.Sy
set_option maxRecDepth 100000
set_option maxHeartbeats 4000000
set_option linter.unusedVariables false
set_option linter.unusedSimpArgs false
def shV (n : Nat) (v : V) : V := if v.k = 4 then { v with a := v.a + n } else v
def shP (n : Nat) (p : Pr) : Pr := ⟨p.key, shV n p.val⟩
def both (a b : List (List Pr)) : List (List Pr) := a ++ b.map fun t => t.map (shP a.length)
/-- A list of tables that is being laid: its heads lie in u, its rows in q. -/
structure Gr (h u q : Hp) (A : Option Addr) (c : Nat) (hs : List Hd) (ts : List (List Pr)) : Prop where
  hq : Le h q
  qu : Le q u
  off : Off q A
  own : Own u A ts.length c 59 1 (hs.flatMap Hd.v)
  len : hs.length = ts.length
  rows : SRow q hs ts
theorem Gr.tabs {h u q : Hp} {A : Option Addr} {c : Nat} {hs : List Hd} {ts : List (List Pr)} (g : Gr h u q A c hs ts) : Tabs u A ts.length ts :=
  ⟨hs, g.len, ⟨g.len.symm, g.own.sl⟩, fun i x t hx ht => ⟨(g.rows i x t hx ht).1, (g.rows i x t hx ht).2.le g.qu⟩⟩
theorem Gr.start (h : Hp) : Gr h h h none 0 [] [] := ⟨Le.refl h, Le.refl h, off_nil, own_nil, rfl, fun j x t hx => by simp at hx⟩
theorem srow_snoc {q q' : Hp} {hs : List Hd} {ts : List (List Pr)} (hS : SRow q hs ts) (hl : hs.length = ts.length) (hq : Le q q') {y : Hd} {t : List Pr} (hc : y.n ≤ y.c) (hy : Pairs q' y.A y.n t) : SRow q' (hs ++ [y]) (ts ++ [t]) := fun j x t' hx ht' => by
  by_cases hj : j < hs.length
  · rw [List.getElem?_append_left hj] at hx
    rw [List.getElem?_append_left (by omega)] at ht'
    exact ⟨(hS j x t' hx ht').1, (hS j x t' hx ht').2.le hq⟩
  · have hj2 : j = hs.length := by
      have := (List.getElem?_eq_some_iff.1 hx).1
      simp at this; omega
    subst hj2
    rw [List.getElem?_append_right (Nat.le_refl _)] at hx
    rw [hl, List.getElem?_append_right (Nat.le_refl _)] at ht'
    simp at hx ht'
    subst hx
    subst ht'
    exact ⟨hc, hy⟩
/-- A head is added whose row is new. -/
theorem Gr.push {h u q u1 w u3 : Hp} {A A' : Option Addr} {c c' e : Nat} {hs : List Hd} {ts : List (List Pr)} (g : Gr h u q A c hs ts) (hu : Le u u1) (hw : Le u1 w) {y : Hd} {t : List Pr} (hy : Own u1 y.A y.n y.c e 8 (t.flatMap Pr.c)) (hof : Off u y.A)
    (hO : Own u3 A' (ts.length + 1) c' 59 1 (hs.flatMap Hd.v ++ [y].flatMap Hd.v)) (hG : Grown w u3 A A') : Gr h u3 (ptw u1 A) A' c' (hs ++ [y]) (ts ++ [t]) := by
  have hAy : ∀ z, blk A = some z → blk y.A ≠ some z := fun z hz e => by
    cases A with
    | none => cases hz
    | some a =>
      obtain ⟨_, arr, h2, _⟩ := g.own.row a rfl
      have e1 : a.block = z := Option.some.inj hz
      rw [e1, hof z e] at h2; cases h2
  have hqp : Le q (ptw u1 A) := fun z o hz => by
    unfold ptw
    rw [if_neg (fun e => by rw [g.off z e] at hz; cases hz)]
    exact hu z o (g.qu z o hz)
  have hk := hG (ptw u1 A) ((ptw_le u1 A).trans hw) (ptw_off u1 A)
  have hyp : Pairs (ptw u1 A) y.A y.n t := own_pairs (hy.le fun b o hb ho => by show ptw u1 A b = some o; unfold ptw; rw [if_neg (fun e => hAy b e hb)]; exact ho)
  exact ⟨g.hq.trans hqp, hk.1, hk.2, by simpa using hO, by simp [g.len], srow_snoc g.rows g.len hqp hy.cap hyp⟩
theorem vok_sh {v : V} {m n : Nat} (h : VOk v m) : VOk (shV n v) (n + m) ∧ ((shV n v).k = v.k) := by
  unfold shV
  rcases h with ⟨a, b, c, d⟩ | ⟨a, b, c, d⟩ | ⟨a, c, d⟩ | ⟨a, b, c, d⟩ | ⟨a, b, c, d, e⟩
  · rw [if_neg (by omega)]; exact ⟨.inl ⟨a, b, c, d⟩, rfl⟩
  · rw [if_neg (by omega)]; exact ⟨.inr (.inl ⟨a, b, c, d⟩), rfl⟩
  · rw [if_neg (by omega)]; exact ⟨.inr (.inr (.inl ⟨a, c, d⟩)), rfl⟩
  · rw [if_neg (by omega)]; exact ⟨.inr (.inr (.inr (.inl ⟨a, b, c, d⟩))), rfl⟩
  · rw [if_pos a]; exact ⟨.inr (.inr (.inr (.inr ⟨a, b, c, by simp only; omega, by simp only; omega⟩))), rfl⟩
theorem vok_up {v : V} {m n : Nat} (h : VOk v m) (hl : m ≤ n) : VOk v n := by
  rcases h with a | a | a | a | ⟨a, b, c, d, e⟩
  · exact .inl a
  · exact .inr (.inl a)
  · exact .inr (.inr (.inl a))
  · exact .inr (.inr (.inr (.inl a)))
  · exact .inr (.inr (.inr (.inr ⟨a, b, c, d, by omega⟩)))
theorem shV_fit {v : V} {n : Nat} (h : v.fit) : (shV n v).fit := by
  unfold shV
  split
  · exact h
  · exact h
theorem cl_both {a b : List (List Pr)} (ha : ClOk a) (hb : ClOk b) (h1 : a.length ≤ 200) (h2 : b.length ≤ 200) : ClOk (both a b) := by
  have hl : (both a b).length = a.length + b.length := by simp [both]
  refine ⟨by omega, fun t ht => ?_, fun t ht p hp => ?_⟩
  · rw [hl]
    rcases List.mem_append.1 ht with ht | ht
    · obtain ⟨g1, g2, g3⟩ := ha.tok t ht
      exact ⟨g1, fun p hp => ⟨(g2 p hp).1, vok_up (g2 p hp).2.1 (by omega), (g2 p hp).2.2⟩, g3⟩
    · obtain ⟨s, hs, rfl⟩ := List.mem_map.1 ht
      obtain ⟨g1, g2, g3⟩ := hb.tok s hs
      refine ⟨by rw [List.length_map]; exact g1, fun p hp => ?_, ?_⟩
      · obtain ⟨r, hr, rfl⟩ := List.mem_map.1 hp
        obtain ⟨k1, k2, k3⟩ := g2 r hr
        exact ⟨k1, (vok_sh k2).1, by show (shV a.length r.val).k ≠ 0; rw [(vok_sh k2).2]; exact k3⟩
      · rw [List.map_map]; exact g3
  · rcases List.mem_append.1 ht with ht | ht
    · exact ha.fit t ht p hp
    · obtain ⟨s, hs, rfl⟩ := List.mem_map.1 ht
      obtain ⟨r, hr, rfl⟩ := List.mem_map.1 hp
      exact ⟨(hb.fit s hs r hr).1, shV_fit (hb.fit s hs r hr).2⟩
end Go.Proofs.YtkamfnmbidnhdaaDoor
/- spec.l3both, slices.Clone of tables. No condition. -/
namespace Go.Proofs.YtkamfnmbidnhdaaDoor
open Go.Sy
set_option maxRecDepth 100000
set_option maxHeartbeats 4000000
set_option linter.unusedVariables false
set_option linter.unusedSimpArgs false
theorem heads_one (hs : List Hd) : ∀ v ∈ hs.flatMap Hd.v, Go.Sy.one v = true := fun v hv => by
  obtain ⟨x, _, hx⟩ := List.mem_flatMap.1 hv
  simp only [Hd.v, List.mem_singleton] at hx; subst hx; rfl
theorem shP_yes {n : Nat} {p : Pr} (h : p.val.k = 4) : shP n p = ⟨p.key, ⟨p.val.k, p.val.n, p.val.s, p.val.a + n⟩⟩ := by unfold shP shV; rw [if_pos h]
theorem shP_no {n : Nat} {p : Pr} (h : p.val.k ≠ 4) : shP n p = p := by unfold shP shV; rw [if_neg h]
theorem clone75 (hs : List Hd) (A : Option Addr) (n c : Nat) (h : Hp) (hP : Rd Hd.v 1 h A n hs) (hl : hs.length ≤ 1000000) :
    TriS Tryd.prog 75 [.v (.slice A n c)] [] h (fun y : Option Addr × Nat => .v (.slice y.1 hs.length y.2)) (fun _ => []) (fun y h' => Own h' y.1 hs.length y.2 59 1 (hs.flatMap Hd.v) ∧ Le h h' ∧ Off h y.1) := by
  obtain rfl := hP.1
  refine enterS Tryd.func75 rfl (n := 8) rfl rfl (fun k N => ?_)
  cases A with
  | none =>
    have h0 := hP.2.nil rfl
    have : hs = [] := List.length_eq_zero_iff.1 h0
    subst this
    repeat' (first | (refine r_pure hT rfl rfl rfl rfl ?_) | (refine r_new hT rfl rfl rfl rfl ?_) | (refine r_write hT rfl rfl rfl ?_) | (refine r_nil ?_) | (refine q_nil ?_) | (refine r_slnil hT rfl rfl rfl rfl rfl rfl rfl ?_) | (refine r_arith rfl rfl rfl rfl rfl rfl rfl (by omega) ?_) | (with_reducible refine r_seq ?_) | (with_reducible refine x_then ?_) | (with_reducible refine r_region ?_) | (refine r_draw hM (by kernel_rfl) ?_) | (with_reducible refine r_skip ?_) | (with_reducible refine r_ret ?_) | (with_reducible refine x_then_ret ?_) | (with_reducible refine r_block ?_) | (with_reducible refine x_block ?_) | (with_reducible refine x_block_ret ?_) | (with_reducible refine r_exit ?_) | (with_reducible refine x_then_exit ?_) | (with_reducible refine x_block_here ?_) | (refine x_block_past rfl ?_) | (refine c_yes rfl (by omega) ?_) | (refine c_no rfl (by omega) ?_) | (refine c_no rfl (fun h => h rfl) ?_) | (refine r_cond_false rfl ?_) | (refine r_cond_true rfl ?_) | (refine r_cond_dec rfl (fun _ => ?_) (fun _ => ?_)) | (refine r_cond_true rfl ?_) | (refine r_cond_false rfl ?_) | (refine c_not rfl (fun _ => ?_) (fun _ => ?_)) | (refine r_off rfl rfl rfl ?_) | (refine q_guard rfl rfl (fun _ => ?_) (fun _ => ?_)) | (refine q_guardn rfl rfl (fun _ => ?_) (fun _ => ?_)))
    exact r_fin hT rfl ((none, 0) : Option Addr × Nat) rfl rfl rfl trivial rfl ⟨own_nil, Le.refl _, off_nil⟩
  | some ad =>
    repeat' (first | (refine r_pure hT rfl rfl rfl rfl ?_) | (refine r_new hT rfl rfl rfl rfl ?_) | (refine r_write hT rfl rfl rfl ?_) | (refine r_nil ?_) | (refine q_nil ?_) | (refine r_slnil hT rfl rfl rfl rfl rfl rfl rfl ?_) | (refine r_bslice hT (ps := []) rfl rfl rfl rfl rfl rfl rfl (by simp) rfl rfl (by decide) (fun b3 hb3 => ?_)) | ((refine r_append hT (cs := []) (news := hs.flatMap Hd.v) rfl rfl rfl rfl rfl rfl rfl rfl rfl rfl rfl ⟨rfl, Nat.le_refl _, fun h => (by cases h), fun a ha => (by have e := Option.some.inj ha; subst e; exact ⟨rfl, _, upd_here .., Nat.le_refl _, fun j v hj => (by simp at hj)⟩)⟩ (hP.2.le ((Le.refl h).upd hb3)) (heads_one _) (by dsimp only; omega) (by omega) (fun A' c' u3 hO3 hG3 => ?_))) | (refine r_arith rfl rfl rfl rfl rfl rfl rfl (by omega) ?_) | (with_reducible refine r_seq ?_) | (with_reducible refine x_then ?_) | (with_reducible refine r_region ?_) | (refine r_draw hM (by kernel_rfl) ?_) | (with_reducible refine r_skip ?_) | (with_reducible refine r_ret ?_) | (with_reducible refine x_then_ret ?_) | (with_reducible refine r_block ?_) | (with_reducible refine x_block ?_) | (with_reducible refine x_block_ret ?_) | (with_reducible refine r_exit ?_) | (with_reducible refine x_then_exit ?_) | (with_reducible refine x_block_here ?_) | (refine x_block_past rfl ?_) | (refine c_yes rfl (by omega) ?_) | (refine c_no rfl (by omega) ?_) | (refine c_no rfl (fun h => h rfl) ?_) | (refine r_cond_false rfl ?_) | (refine r_cond_true rfl ?_) | (refine r_cond_dec rfl (fun _ => ?_) (fun _ => ?_)) | (refine r_cond_true rfl ?_) | (refine r_cond_false rfl ?_) | (refine c_not rfl (fun _ => ?_) (fun _ => ?_)) | (refine r_off rfl rfl rfl ?_) | (refine q_guard rfl rfl (fun _ => ?_) (fun _ => ?_)) | (refine q_guardn rfl rfl (fun _ => ?_) (fun _ => ?_)))
    have hk := hG3 h ((Le.refl h).upd hb3) (fun b hb => by have e := Option.some.inj hb; subst e; exact hb3)
    have e0 : 0 + hs.length = hs.length := by omega
    rw [e0] at hO3 ⊢
    exact r_fin hT rfl (A', c') rfl rfl rfl trivial rfl ⟨by simpa using hO3, hk.1, hk.2⟩
end Go.Proofs.YtkamfnmbidnhdaaDoor
/- The tables that a walk adds. -/
namespace Go.Sy
set_option linter.unusedVariables false
theorem goes_closed {ts : List (List Pr)} (hA : AllIn ts) (f : Nat) : ∀ (l : List Pr) (o : List Nat), (∀ p ∈ l, In ts.length p.val) → Nm ts.length o → ts.length - o.length < f → New ts o (goes ts f o l) ∧ ∀ p ∈ l, p.val.k = 4 → p.val.a.toNat ∈ goes ts f o l
  | [], o, _, _, _ => ⟨New.refl _ _, fun p hp => by cases hp⟩
  | p :: r, o, hl, hN, hf => by
    have h1 := go_closed hA f o p.val hN (hl p (.head _)) hf
    have hlen := (go_pre ts f o p.val).length_le
    have h2 := goes_closed hA f r (go ts f o p.val) (fun q hq => hl q (.tail _ hq)) (go_nm hA f o p.val hN (hl p (.head _))) (by omega)
    refine ⟨h1.trans h2.1 (goes_pre ts f r _), fun q hq h4 => ?_⟩
    rcases List.mem_cons.1 hq with rfl | hq
    · obtain ⟨f', rfl⟩ : ∃ f', f = f' + 1 := ⟨f - 1, by omega⟩
      exact (goes_pre ts _ r _).subset (go_mem ts f' o q.val h4)
    · exact h2.2 q hq h4
def cNew (ts : List (List Pr)) (ord O : List Nat) : List (List Pr) := (O.drop ord.length).map fun a => (ts.getD a []).map (nPr O)
theorem cNew_refl (ts : List (List Pr)) (O : List Nat) : cNew ts O O = [] := by simp [cNew]
theorem cNew_nil (ts : List (List Pr)) (O : List Nat) : cNew ts [] O = cTs ts O := by simp [cNew, cTs]
theorem mem_drop_new {a : Nat} {ord b : List Nat} (hn : b.Nodup) (hp : ord <+: b) (ha : a ∈ b.drop ord.length) : a ∉ ord := by
  obtain ⟨e, rfl⟩ := hp
  rw [List.drop_left' rfl] at ha
  exact fun h => (List.nodup_append.1 hn).2.2 a h a ha rfl
theorem nPr_pre {b c : List Nat} (hp : b <+: c) {t : List Pr} (h : ∀ p ∈ t, p.val.k = 4 → p.val.a.toNat ∈ b) : t.map (nPr c) = t.map (nPr b) :=
  List.map_congr_left fun p hpt => by unfold nPr; rw [ren_pre hp (h p hpt)]
theorem cNew_trans {ts : List (List Pr)} {ord b c : List Nat} (h1 : ord <+: b) (h2 : b <+: c) (hN : Nm ts.length b) (hcl : New ts ord b) : cNew ts ord c = cNew ts ord b ++ cNew ts b c := by
  have hl := h1.length_le
  obtain ⟨e, he⟩ := h2
  have hd : c.drop ord.length = b.drop ord.length ++ c.drop b.length := by
    rw [← he, List.drop_append_of_le_length hl, List.drop_left' rfl]
  unfold cNew
  rw [hd, List.map_append]
  congr 1
  refine List.map_congr_left fun a ha => ?_
  have hab : a ∈ b := List.mem_of_mem_drop ha
  have hlt := hN.lt a hab
  rw [List.getD_eq_getElem?_getD, List.getElem?_eq_getElem hlt]
  exact nPr_pre ⟨e, he⟩ (fun p hp h4 => hcl a hab (mem_drop_new hN.nodup h1 ha) _ (List.getElem?_eq_getElem hlt) p hp h4)
theorem cNew_new {ts : List (List Pr)} {ord O : List Nat} {a : Nat} {t : List Pr} (h : ord ++ [a] <+: O) (ht : ts[a]? = some t) : cNew ts ord O = t.map (nPr O) :: cNew ts (ord ++ [a]) O := by
  obtain ⟨e, rfl⟩ := h
  unfold cNew
  have h1 : (ord ++ [a] ++ e).drop ord.length = a :: e := by rw [List.append_assoc, List.drop_left' rfl]; rfl
  have h2 : (ord ++ [a] ++ e).drop (ord ++ [a]).length = e := List.drop_left' rfl
  rw [h1, h2, List.map_cons, List.getD_eq_getElem?_getD, ht]
  rfl
theorem goes_nPr {ts : List (List Pr)} (hA : AllIn ts) {f : Nat} {t : List Pr} {j : Nat} {p : Pr} {o : List Nat} (hp : t[j]? = some p) : goes ts f o (t.take (j + 1)) = go ts f (goes ts f o (t.take j)) p.val := by
  have : t.take (j + 1) = t.take j ++ [p] := by rw [List.take_add_one, hp]; rfl
  rw [this, goes_snoc]
end Go.Sy
/- What impl.Canon's walk holds. -/
namespace Go.Proofs.YtkamfnmbidnhdaaDoor
open Go.Sy
set_option maxRecDepth 100000
set_option maxHeartbeats 4000000
set_option linter.unusedVariables false
set_option linter.unusedSimpArgs false
def gCells (v : V) (A : Option Addr) (n c : Nat) : List Value := [.int .i64 v.k, .int .i64 v.n, .string v.s, .int .i64 v.a, .slice A n c]
def ptr (b : Nat) : Value := .pointer (some ⟨b, 0, none⟩)
/-- The blocks of the tables. -/
def OS (Aq : Option Addr) (hs : List Hd) : Nat → Prop := fun b => blk Aq = some b ∨ ∃ x ∈ hs, blk x.A = some b
def CS (g p4 : Nat) (Aq : Option Addr) (hs : List Hd) : Nat → Prop := fun b => b = g ∨ b = p4 ∨ OS Aq hs b
structure CSt (h0 u : Hp) (p3 p4 p1 p5 g : Nat) (gr : V) (A : Option Addr) (c : Nat) (ts : List (List Pr)) (m : List (Int × Int)) (Aq : Option Addr) (cq : Nat) (hs : List Hd) (tabs : List (List Pr)) (ord : List Nat) : Prop where
  map : MAt Tryd.prog iKey u g m
  keys : ∀ a : Nat, mhas m (a : Int) = decide (a ∈ ord) ∧ (a ∈ ord → mget m (a : Int) = (ord.idxOf a : Int))
  out : u p4 = some (.cells (gCells V0 Aq ord.length cq).toArray 51 (0, 0))
  ot : OT u 59 61 Aq ord.length cq hs tabs
  base : Le h0 u
  off : ∀ b, CS g p4 Aq hs b → h0 b = none
  c3 : h0 p3 = some (.cells [Value.map (some g)].toArray 90 (0, 0))
  c1 : h0 p1 = some (.cells (gCells gr A ts.length c).toArray 51 (0, 0))
  c5 : h0 p5 = some (.cells [Value.func (.func 108) ⟨[]⟩ ⟨[ptr p3, ptr p4, ptr p1, ptr p5]⟩].toArray 103 (0, 0))
  ap : g ≠ p4 ∧ ¬ OS Aq hs g ∧ ¬ OS Aq hs p4
  tabs : Tabs h0 A ts.length ts
theorem at_of {u : Hp} {b : Nat} {cs : List Value} {t : TypeId} {fr : Nat × Nat} (h : u b = some (.cells cs.toArray t fr)) : At u b 0 cs := ⟨_, _, _, h, fun j v hj => by simpa using hj⟩
theorem orows_live {u : Hp} {eT eP : TypeId} {Aq : Option Addr} {n cq : Nat} {hs : List Hd} {tabs : List (List Pr)} (h : OT u eT eP Aq n cq hs tabs) {b : Nat} (hb : OS Aq hs b) : u b ≠ none := by
  rcases hb with hb | ⟨x, hx, hb⟩
  · exact h.own.live hb
  · exact h.rows.live hx hb
/-- The row of tables grows by an empty one. -/
theorem OT_push {u u' : Hp} {Aq A' : Option Addr} {n cq c' : Nat} {hs : List Hd} {tabs : List (List Pr)} (h : OT u 59 61 Aq n cq hs tabs) (hO : Own u' A' (n + 1) c' 59 1 (hs.flatMap Hd.v ++ Hd.v ⟨none, 0, 0⟩))
    (hk : ∀ b o, u b = some o → blk Aq ≠ some b → u' b = some o ∧ blk A' ≠ some b) : OT u' 59 61 A' (n + 1) c' (hs ++ [⟨none, 0, 0⟩]) (tabs ++ [[]]) := by
  have hne : ∀ b, (∃ x ∈ hs, blk x.A = some b) → blk Aq ≠ some b := fun b ⟨x, hx, hb⟩ e => by
    obtain ⟨i, hi, ex⟩ := List.getElem_of_mem hx
    exact (h.rows.apart i x b (by rw [List.getElem?_eq_getElem hi, ex]) hb).1 e
  have hl : ∀ b o, (∃ x ∈ hs, blk x.A = some b) → u b = some o → u' b = some o := fun b o hb ho => (hk b o ho (hne b hb)).1
  refine ⟨by have := h.num; simp; omega, by rw [List.flatMap_append]; simpa using hO, ?_⟩
  have h1 : ORows u 61 (blk A') hs tabs := ⟨h.rows.len, h.rows.rows, fun i x b hx hb => ⟨fun e => by
    have hxm : x ∈ hs := List.mem_of_getElem? hx
    cases ho : u b with
    | none => exact absurd ho (h.rows.live hxm hb)
    | some o => exact (hk b o ho (hne b ⟨x, hxm, hb⟩)).2 e, (h.rows.apart i x b hx hb).2⟩⟩
  exact h1.snoc hl (y := ⟨none, 0, 0⟩) (t := []) rfl own_nil (fun b hb => by simp [blk] at hb)
/-- A header is set: an empty table becomes a full one. -/
theorem OT_put {u u' : Hp} {b off n cq : Nat} {hs : List Hd} {pre post : List (List Pr)} {t : List Pr} {y : Hd} (h : OT u 59 61 (some ⟨b, off, none⟩) n cq hs (pre ++ [] :: post)) (hy : y.n = t.length)
    (hO : Own u' (some ⟨b, off, none⟩) n cq 59 1 (setL (hs.flatMap Hd.v) (pre.length * 1) (Hd.v y))) (hu : ∀ x, x ≠ b → u' x = u x) (hOy : Own u y.A y.n y.c 61 8 (t.flatMap Pr.c)) (hap : ∀ x, blk y.A = some x → ¬ OS (some ⟨b, off, none⟩) hs x) :
    OT u' 59 61 (some ⟨b, off, none⟩) n cq (hs.set pre.length y) (pre ++ t :: post) := by
  have hlen := h.rows.len
  simp at hlen
  have hpl : pre.length < hs.length := by omega
  have hfl : setL (hs.flatMap Hd.v) (pre.length * 1) (Hd.v y) = (hs.set pre.length y).flatMap Hd.v := by
    rw [Nat.mul_one]
    have e : ∀ l : List Hd, l.flatMap Hd.v = l.map fun x => Value.slice x.A x.n x.c := fun l => by
      induction l with
      | nil => rfl
      | cons a r ih => simp [Hd.v, ih]
    rw [e, e, List.map_set]
    apply List.ext_getElem?
    intro j
    rw [setL_get _ _ _ (by simp [Hd.v]; omega), List.getElem?_set]
    by_cases hj : j = pre.length
    · subst hj
      rw [if_pos (by simp [Hd.v]), if_pos rfl, if_pos (by simpa using hpl)]
      simp [Hd.v]
    · rw [if_neg (by simp [Hd.v]; omega), if_neg (fun e => hj e.symm)]
  have hkeep : ∀ x o, x ≠ b → u x = some o → u' x = some o := fun x o hx ho => by rw [hu x hx]; exact ho
  refine ⟨by have := h.num; simp at this ⊢; omega, by rw [← hfl]; exact hO, ⟨by simp [hlen], fun i x s hx hs' => ?_, fun i x d hx hd => ?_⟩⟩
  · by_cases hi : i = pre.length
    · subst hi
      rw [List.getElem?_set, if_pos rfl, if_pos hpl] at hx
      have e := Option.some.inj hx; subst e
      simp at hs'; subst hs'
      exact ⟨hy, hOy.le fun d o hd ho => hkeep d o (fun e => hap d hd (.inl (by rw [e]; rfl))) ho⟩
    · rw [List.getElem?_set, if_neg (fun e => hi e.symm)] at hx
      have hs2 : (pre ++ [] :: post)[i]? = some s := by
        rw [List.getElem?_append] at hs' ⊢
        split
        · rename_i hlt; rw [if_pos hlt] at hs'; exact hs'
        · rename_i hlt; rw [if_neg hlt] at hs'
          rw [List.getElem?_cons] at hs' ⊢
          have : i - pre.length ≠ 0 := by omega
          rw [if_neg this] at hs' ⊢; exact hs'
      obtain ⟨g1, g2⟩ := h.rows.rows i x s hx hs2
      exact ⟨g1, g2.le fun d o hd ho => hkeep d o (fun e => (h.rows.apart i x d hx hd).1 (by rw [e]; rfl)) ho⟩
  · by_cases hi : i = pre.length
    · subst hi
      rw [List.getElem?_set, if_pos rfl, if_pos hpl] at hx
      have e := Option.some.inj hx; subst e
      have hn := hap d hd
      refine ⟨fun e => hn (.inl e), fun j z hz hzd => ?_⟩
      rw [List.getElem?_set] at hz
      split at hz
      · assumption
      · exact absurd (.inr ⟨z, List.mem_of_getElem? hz, hzd⟩) hn
    · rw [List.getElem?_set, if_neg (fun e => hi e.symm)] at hx
      obtain ⟨g1, g2⟩ := h.rows.apart i x d hx hd
      refine ⟨g1, fun j z hz hzd => ?_⟩
      rw [List.getElem?_set] at hz
      split at hz
      · rename_i e
        have e := Option.some.inj hz; subst e
        exact absurd (.inr ⟨x, List.mem_of_getElem? hx, hd⟩) (hap d hzd)
      · exact g2 j z hz hzd
/-- One table more is met. -/
theorem CSt_push {h0 u u1 u3 : Hp} {p3 p4 p1 p5 g : Nat} {gr : V} {A : Option Addr} {c : Nat} {ts : List (List Pr)} {m : List (Int × Int)} {Aq A' : Option Addr} {cq c' : Nat} {hs : List Hd} {tabs : List (List Pr)} {ord : List Nat} {a b2 : Nat} {o2 : Obj}
    (h : CSt h0 u p3 p4 p1 p5 g gr A c ts m Aq cq hs tabs ord) (hn : a ∉ ord) (hM : MAt Tryd.prog iKey u1 g (mset m (a : Int) (ord.length : Int))) (hu1 : ∀ x, x ≠ g → u1 x = u x) (hb2 : u1 b2 = none)
    (hO : Own u3 A' (ord.length + 1) c' 59 1 (hs.flatMap Hd.v ++ Hd.v ⟨none, 0, 0⟩)) (hG : Grown (upd u1 b2 o2) u3 Aq A') :
    u3 p4 = some (.cells (gCells V0 Aq ord.length cq).toArray 51 (0, 0)) ∧
    CSt h0 (upd u3 p4 (.cells (gCells V0 A' (ord.length + 1) c').toArray 51 (0, 0))) p3 p4 p1 p5 g gr A c ts (mset m (a : Int) (ord.length : Int)) A' c' (hs ++ [⟨none, 0, 0⟩]) (tabs ++ [[]]) (ord ++ [a]) ∧
    Keep u (CS g p4 Aq hs) (upd u3 p4 (.cells (gCells V0 A' (ord.length + 1) c').toArray 51 (0, 0))) (CS g p4 A' (hs ++ [⟨none, 0, 0⟩])) := by
  have hK := hG.keep
  have k1 : ∀ x o, u1 x = some o → blk Aq ≠ some x → u3 x = some o ∧ blk A' ≠ some x := fun x o hx hb => hK x o (by rw [upd_ne (fun e => by subst e; rw [hb2] at hx; cases hx)]; exact hx) hb
  obtain ⟨og, hg1, hg2⟩ := hM
  obtain ⟨e1, e2⟩ := k1 g og hg1 (fun e => h.ap.2.1 (.inl e))
  have ho1 := (hu1 p4 (Ne.symm h.ap.1)).trans h.out
  obtain ⟨e3, e4⟩ := k1 p4 _ ho1 (fun e => h.ap.2.2 (.inl e))
  have hos : ∀ b, OS A' (hs ++ [⟨none, 0, 0⟩]) b → blk A' = some b ∨ ∃ x ∈ hs, blk x.A = some b := fun b hb => by
    rcases hb with hb | ⟨x, hx, hb⟩
    · exact .inl hb
    · rcases List.mem_append.1 hx with hx | hx
      · exact .inr ⟨x, hx, hb⟩
      · rw [List.mem_singleton] at hx; subst hx; simp [blk] at hb
  have kk : Keep u (CS g p4 Aq hs) (upd u3 p4 (.cells (gCells V0 A' (ord.length + 1) c').toArray 51 (0, 0))) (CS g p4 A' (hs ++ [⟨none, 0, 0⟩])) := fun x o hx hs' => by
    simp only [CS, OS, not_or] at hs'
    obtain ⟨d1, d2⟩ := k1 x o (by rw [hu1 x hs'.1]; exact hx) hs'.2.2.1
    refine ⟨by rw [upd_ne hs'.2.1]; exact d1, fun hc => ?_⟩
    rcases hc with hc | hc | hc
    · exact hs'.1 hc
    · exact hs'.2.1 hc
    · rcases hos x hc with hc | hc
      · exact d2 hc
      · exact hs'.2.2.2 hc
  obtain ⟨f1, f2⟩ := kk.le h.base h.off
  have hot : OT u3 59 61 A' (ord.length + 1) c' (hs ++ [⟨none, 0, 0⟩]) (tabs ++ [[]]) := OT_push (u := u1) (h.ot.keep fun b o hb ho => by rw [hu1 b (fun e => by subst e; exact h.ap.2.1 hb)]; exact ho) hO k1
  refine ⟨e3, ⟨⟨og, by rw [upd_ne h.ap.1]; exact e1, hg2⟩, fun x => ?_, by rw [upd_here]; simp, ?_, f1, f2, h.c3, h.c1, h.c5, ⟨h.ap.1, fun hc => ?_, fun hc => ?_⟩, h.tabs⟩, kk⟩
  · have hca : ((x : Int) = (a : Int)) ↔ x = a := by omega
    rw [mhas_mset, mget_mset, (h.keys x).1]
    refine ⟨?_, fun hx => ?_⟩
    · rw [Bool.eq_iff_iff]; simp [hca, or_comm]
    · by_cases hxa : x = a
      · subst hxa
        rw [if_pos rfl, List.idxOf_append, if_neg hn]; simp
      · rw [if_neg (fun e => hxa (hca.1 e))]
        have hxo : x ∈ ord := by simpa [hxa] using hx
        rw [(h.keys x).2 hxo, List.idxOf_append, if_pos hxo]
  · have hl : (ord ++ [a]).length = ord.length + 1 := by simp
    rw [hl]
    refine hot.keep fun b o hb ho => ?_
    rw [upd_ne (fun e => ?_)]
    · exact ho
    · subst e
      rcases hos b hb with hc | hc
      · exact e4 hc
      · exact h.ap.2.2 (.inr hc)
  · rcases hos g hc with hc | hc
    · exact e2 hc
    · exact h.ap.2.1 (.inr hc)
  · rcases hos p4 hc with hc | hc
    · exact e4 hc
    · exact h.ap.2.2 (.inr hc)
theorem CSt_live {h0 u : Hp} {p3 p4 p1 p5 g : Nat} {gr : V} {A : Option Addr} {c : Nat} {ts : List (List Pr)} {m : List (Int × Int)} {Aq : Option Addr} {cq : Nat} {hs : List Hd} {tabs : List (List Pr)} {ord : List Nat}
    (h : CSt h0 u p3 p4 p1 p5 g gr A c ts m Aq cq hs tabs ord) {b : Nat} (hb : CS g p4 Aq hs b) : ∃ o, u b = some o := by
  rcases hb with rfl | rfl | hb
  · obtain ⟨o, h1, _⟩ := h.map; exact ⟨o, h1⟩
  · exact ⟨_, h.out⟩
  · exact Option.ne_none_iff_exists'.1 (orows_live h.ot hb)
theorem CSt_keep {h0 u u' : Hp} {p3 p4 p1 p5 g : Nat} {gr : V} {A : Option Addr} {c : Nat} {ts : List (List Pr)} {m : List (Int × Int)} {Aq : Option Addr} {cq : Nat} {hs : List Hd} {tabs : List (List Pr)} {ord : List Nat}
    (h : CSt h0 u p3 p4 p1 p5 g gr A c ts m Aq cq hs tabs ord) (hb : Le h0 u') (hu : ∀ b o, CS g p4 Aq hs b → u b = some o → u' b = some o) : CSt h0 u' p3 p4 p1 p5 g gr A c ts m Aq cq hs tabs ord := by
  obtain ⟨o, h1, h2⟩ := h.map
  exact ⟨⟨o, hu _ _ (.inl rfl) h1, h2⟩, h.keys, hu _ _ (.inr (.inl rfl)) h.out, h.ot.keep fun b o hb ho => hu b o (.inr (.inr hb)) ho, hb, h.off, h.c3, h.c1, h.c5, h.ap, h.tabs⟩
/-- The table that was empty is put in. -/
theorem CSt_put {h0 u u' : Hp} {p3 p4 p1 p5 g : Nat} {gr : V} {A : Option Addr} {c : Nat} {ts : List (List Pr)} {m : List (Int × Int)} {b off cq : Nat} {hs : List Hd} {pre post : List (List Pr)} {t : List Pr} {y : Hd} {ord : List Nat}
    (h : CSt h0 u p3 p4 p1 p5 g gr A c ts m (some ⟨b, off, none⟩) cq hs (pre ++ [] :: post) ord) (hy : y.n = t.length)
    (hO : Own u' (some ⟨b, off, none⟩) ord.length cq 59 1 (setL (hs.flatMap Hd.v) (pre.length * 1) (Hd.v y))) (hu : ∀ x, x ≠ b → u' x = u x) (hOy : Own u y.A y.n y.c 61 8 (t.flatMap Pr.c)) (hap : ∀ x, blk y.A = some x → h0 x = none ∧ ¬ CS g p4 (some ⟨b, off, none⟩) hs x) :
    CSt h0 u' p3 p4 p1 p5 g gr A c ts m (some ⟨b, off, none⟩) cq (hs.set pre.length y) (pre ++ t :: post) ord ∧
    Keep u (fun x => CS g p4 (some ⟨b, off, none⟩) hs x ∨ blk y.A = some x) u' (CS g p4 (some ⟨b, off, none⟩) (hs.set pre.length y)) := by
  have hos : ∀ x, OS (some ⟨b, off, none⟩) (hs.set pre.length y) x → OS (some ⟨b, off, none⟩) hs x ∨ blk y.A = some x := fun x hx => by
    rcases hx with hx | ⟨z, hz, hx⟩
    · exact .inl (.inl hx)
    · rcases List.mem_or_eq_of_mem_set hz with hz | rfl
      · exact .inl (.inr ⟨z, hz, hx⟩)
      · exact .inr hx
  have hcs : ∀ x, CS g p4 (some ⟨b, off, none⟩) (hs.set pre.length y) x → CS g p4 (some ⟨b, off, none⟩) hs x ∨ blk y.A = some x := fun x hx => by
    rcases hx with hx | hx | hx
    · exact .inl (.inl hx)
    · exact .inl (.inr (.inl hx))
    · rcases hos x hx with hx | hx
      · exact .inl (.inr (.inr hx))
      · exact .inr hx
  have hbo : OS (some ⟨b, off, none⟩) hs b := .inl rfl
  have hb0 : h0 b = none := h.off b (.inr (.inr hbo))
  have hgb : g ≠ b := fun e => h.ap.2.1 (e ▸ hbo)
  have hpb : p4 ≠ b := fun e => h.ap.2.2 (e ▸ hbo)
  obtain ⟨o, h1, h2⟩ := h.map
  refine ⟨⟨⟨o, (hu g hgb).trans h1, h2⟩, h.keys, (hu p4 hpb).trans h.out, OT_put h.ot hy hO hu hOy (fun x hx hc => (hap x hx).2 (.inr (.inr hc))), fun x o hx => ?_, fun x hx => ?_, h.c3, h.c1, h.c5, ⟨h.ap.1, fun hc => ?_, fun hc => ?_⟩, h.tabs⟩, fun x o hx hs' => ?_⟩
  · rw [hu x (fun e => by subst e; rw [hb0] at hx; cases hx)]; exact h.base x o hx
  · rcases hcs x hx with hx | hx
    · exact h.off x hx
    · exact (hap x hx).1
  · rcases hos g hc with hc | hc
    · exact h.ap.2.1 hc
    · exact (hap g hc).2 (.inl rfl)
  · rcases hos p4 hc with hc | hc
    · exact h.ap.2.2 hc
    · exact (hap p4 hc).2 (.inr (.inl rfl))
  · simp only [not_or] at hs'
    refine ⟨by rw [hu x (fun e => by subst e; exact hs'.1 (.inr (.inr hbo)))]; exact hx, fun hc => ?_⟩
    rcases hcs x hc with hc | hc
    · exact hs'.1 hc
    · exact hs'.2 hc
end Go.Proofs.YtkamfnmbidnhdaaDoor
namespace Go.Proofs.YtkamfnmbidnhdaaDoor
open Go.Sy
set_option maxRecDepth 100000
set_option maxHeartbeats 4000000
set_option linter.unusedVariables false
set_option linter.unusedSimpArgs false
section
variable {P : Program} {F : Fr} {tm : Tm} {L : Lm} {u : Hp} {Q : Exit → Act → World → Prop}
theorem c_true {c : Operand} {x y : Code} {b : Bool} (hb : b = true) (hc : ev tm c = some (.v (.bool b))) (h1 : St F tm L u (fun a w => x.wp P Q a w)) : St F tm L u (fun a w => (Code.cond c x y).wp P Q a w) :=
  r_cond hc (fun _ => h1) (fun e => by rw [hb] at e; cases e)
theorem c_false {c : Operand} {x y : Code} {b : Bool} (hb : b = false) (hc : ev tm c = some (.v (.bool b))) (h1 : St F tm L u (fun a w => y.wp P Q a w)) : St F tm L u (fun a w => (Code.cond c x y).wp P Q a w) :=
  r_cond hc (fun e => by rw [hb] at e; cases e) (fun _ => h1)
end
abbrev CY := List (Int × Int) × (Option Addr × Nat) × List Hd
theorem hcall : callable Tryd.prog 108 = true := hC 108 rfl
theorem numC (h0 : Hp) (p3 p4 p1 p5 g : Nat) (gr : V) (A : Option Addr) (c : Nat) (ts : List (List Pr)) (hA : AllIn ts) (hn : ts.length ≤ 1000000) (hc : ∀ t ∈ ts, t.length ≤ 1000000) : ∀ (f : Nat) (ord : List Nat) (v r : V) (u : Hp) (m : List (Int × Int)) (Aq : Option Addr) (cq : Nat) (hs : List Hd) (tabs : List (List Pr)),
    CSt h0 u p3 p4 p1 p5 g gr A c ts m Aq cq hs tabs ord → Nm ts.length ord → In ts.length v → ts.length - ord.length < f → r = ren (go ts f ord v) v →
    TriS Tryd.prog 108 [.ag v.sv, .v (ptr p3), .v (ptr p4), .v (ptr p1), .v (ptr p5)] [] u (fun _ : CY => .ag r.sv) (fun _ => []) (fun y u' => CSt h0 u' p3 p4 p1 p5 g gr A c ts y.1 y.2.1.1 y.2.1.2 y.2.2 (tabs ++ cNew ts ord (go ts f ord v)) (go ts f ord v) ∧ Keep u (CS g p4 Aq hs) u' (CS g p4 y.2.1.1 y.2.2))
  | 0, ord, v, r, u, m, Aq, cq, hs, tabs, hC, hN, hv, hf, hr => absurd hf (by omega)
  | f + 1, ord, v, r, u, m, Aq, cq, hs, tabs, hC, hN, hv, hf, hr => by
    have hl := hN.len
    refine enterS Tryd.func108 rfl (n := 70) rfl rfl (fun k N => ?_)
    by_cases h4 : v.k = 4
    · have hva := hv h4
      have hlt : v.a.toNat < ts.length := by omega
      have hcast : ((v.a.toNat : Nat) : Int) = v.a := by omega
      have hk := hC.keys v.a.toNat
      rw [hcast] at hk
      have hat3 : At u p3 0 [Value.map (some g)] := at_of (hC.base _ _ hC.c3)
      by_cases hin : v.a.toNat ∈ ord
      · have hmh : mhas m v.a = true := by rw [hk.1]; simpa using hin
        have hmg := hk.2 hin
        rw [go_old h4 hin, cNew_refl, List.append_nil]
        rw [go_old h4 hin] at hr
        simp only [ren, if_pos h4] at hr
        rw [← hmg] at hr
        subst hr
        repeat' (first | (refine r_pure hT rfl rfl rfl rfl ?_) | (refine r_new hT rfl rfl rfl rfl ?_) | (refine r_write hT rfl rfl rfl ?_) | (refine r_nil ?_) | (refine q_nil ?_) | (refine r_load hT hat3 rfl rfl rfl rfl rfl (Nat.add_zero _).symm rfl rfl rfl rfl rfl ?_) | (refine r_lookok iKeyOps v.a hC.map map88 zero3 rfl rfl rfl rfl rfl rfl rfl ?_) | (refine c_no rfl (fun h => h h4) ?_) | (refine c_false (by rw [hmh]; rfl) rfl ?_) | (refine r_arith rfl rfl rfl rfl rfl rfl rfl (by omega) ?_) | (with_reducible refine r_seq ?_) | (with_reducible refine x_then ?_) | (with_reducible refine r_region ?_) | (refine r_draw hM (by kernel_rfl) ?_) | (with_reducible refine r_skip ?_) | (with_reducible refine r_ret ?_) | (with_reducible refine x_then_ret ?_) | (with_reducible refine r_block ?_) | (with_reducible refine x_block ?_) | (with_reducible refine x_block_ret ?_) | (with_reducible refine r_exit ?_) | (with_reducible refine x_then_exit ?_) | (with_reducible refine x_block_here ?_) | (refine x_block_past rfl ?_) | (refine c_yes rfl (by omega) ?_) | (refine c_no rfl (by omega) ?_) | (refine c_no rfl (fun h => h rfl) ?_) | (refine r_cond_false rfl ?_) | (refine r_cond_true rfl ?_) | (refine r_cond_dec rfl (fun _ => ?_) (fun _ => ?_)) | (refine r_cond_true rfl ?_) | (refine r_cond_false rfl ?_) | (refine c_not rfl (fun _ => ?_) (fun _ => ?_)) | (refine r_off rfl rfl rfl ?_) | (refine q_guard rfl rfl (fun _ => ?_) (fun _ => ?_)) | (refine q_guardn rfl rfl (fun _ => ?_) (fun _ => ?_)))
        exact r_fin hT rfl ((m, (Aq, cq), hs) : CY) rfl rfl rfl trivial rfl ⟨hC, Keep.refl _ _⟩
      · have hmh : mhas m v.a = false := by rw [hk.1]; simpa using hin
        have hat4 : At u p4 0 (gCells V0 Aq ord.length cq) := at_of hC.out
        have hN1 := hN.snoc hlt hin
        have hl1 := hN1.len
        simp only [List.length_append, List.length_singleton] at hl1
        obtain ⟨bt, offt, A1, n1, c1, t, rfl, hd, hix, hm, hat, hc1, hp1⟩ := hC.tabs.elem hlt
        obtain rfl := hp1.1
        rw [go_new h4 hin hix] at hr ⊢
        repeat' (first | (refine r_pure hT rfl rfl rfl rfl ?_) | (refine r_new hT rfl rfl rfl rfl ?_) | (refine r_write hT rfl rfl rfl ?_) | (refine r_nil ?_) | (refine q_nil ?_) | (refine r_load hT hat3 rfl rfl rfl rfl rfl (Nat.add_zero _).symm rfl rfl rfl rfl rfl ?_) | (refine r_lookok iKeyOps v.a hC.map map88 zero3 rfl rfl rfl rfl rfl rfl rfl ?_) | (refine c_no rfl (fun h => h h4) ?_) | (refine c_true (by rw [hmh]; rfl) rfl ?_) | (refine r_load hT hat4 rfl rfl rfl rfl rfl rfl rfl rfl rfl rfl rfl ?_) | ((refine r_mapset iKeyOps v.a hC.map map88 rfl rfl (.inl rfl) rfl rfl rfl rfl (fun u1 hM1 hu1 => ?_) ; have hat4 : At u1 p4 0 (gCells V0 Aq ord.length cq) := at_of ((hu1 p4 (Ne.symm hC.ap.1)).trans hC.out))) | (refine r_build hT rfl rfl rfl rfl rfl rfl rfl rfl rfl ?_) | (refine r_bslice hT (ps := [(0, .tmp 34)]) rfl rfl rfl rfl rfl rfl rfl (by simp) rfl rfl (by decide) (fun b2 hb2 => ?_)) | ((refine r_append hT (cs := hs.flatMap Hd.v) (news := Hd.v ⟨none, 0, 0⟩) rfl rfl rfl rfl rfl rfl rfl rfl rfl rfl rfl (hC.ot.own.le fun b o hb ho => by rw [upd_ne (fun e => by subst e; rw [hu1 _ (fun e => by subst e; exact hC.ap.2.1 (.inl hb))] at hb2; rw [hb2] at ho; cases ho), hu1 b (fun e => by subst e; exact hC.ap.2.1 (.inl hb))]; exact ho) (sl_all (upd_here ..) rfl) (by intro x hx; simp [Hd.v] at hx; subst hx; rfl) (by dsimp only; omega) (by omega) (fun A' c' u3 hO3 hG3 => ?_) ; rw [← hcast] at hM1 ; obtain ⟨hc3, hC4, hK4⟩ := CSt_push hC hin hM1 hu1 hb2 hO3 hG3)) | (refine r_store hT rfl rfl rfl rfl rfl rfl rfl rfl rfl rfl hc3 (Nat.le_refl 5) ?_) | (refine r_arith rfl rfl rfl rfl rfl rfl rfl (by omega) ?_) | (with_reducible refine r_seq ?_) | (with_reducible refine x_then ?_) | (with_reducible refine r_region ?_) | (refine r_draw hM (by kernel_rfl) ?_) | (with_reducible refine r_skip ?_) | (with_reducible refine r_ret ?_) | (with_reducible refine x_then_ret ?_) | (with_reducible refine r_block ?_) | (with_reducible refine x_block ?_) | (with_reducible refine x_block_ret ?_) | (with_reducible refine r_exit ?_) | (with_reducible refine x_then_exit ?_) | (with_reducible refine x_block_here ?_) | (refine x_block_past rfl ?_) | (refine c_yes rfl (by omega) ?_) | (refine c_no rfl (by omega) ?_) | (refine c_no rfl (fun h => h rfl) ?_) | (refine r_cond_false rfl ?_) | (refine r_cond_true rfl ?_) | (refine r_cond_dec rfl (fun _ => ?_) (fun _ => ?_)) | (refine r_cond_true rfl ?_) | (refine r_cond_false rfl ?_) | (refine c_not rfl (fun _ => ?_) (fun _ => ?_)) | (refine r_off rfl rfl rfl ?_) | (refine q_guard rfl rfl (fun _ => ?_) (fun _ => ?_)) | (refine q_guardn rfl rfl (fun _ => ?_) (fun _ => ?_)))
        have hat1 := at_of (hC4.base _ _ hC4.c1)
        have hatt4 := hat.le hC4.base
        repeat' (first | (refine r_pure hT rfl rfl rfl rfl ?_) | (refine r_new hT rfl rfl rfl rfl ?_) | (refine r_write hT rfl rfl rfl ?_) | (refine r_nil ?_) | (refine q_nil ?_) | (refine r_load hT hat1 rfl rfl rfl rfl rfl rfl rfl rfl rfl rfl rfl ?_) | (refine r_index hT rfl rfl rfl rfl rfl rfl rfl rfl rfl hva.1 hva.2 ?_) | (refine r_load hT hatt4 rfl rfl rfl rfl rfl (Nat.add_zero _).symm rfl rfl rfl rfl rfl ?_) | (refine r_arith rfl rfl rfl rfl rfl rfl rfl (by omega) ?_) | (with_reducible refine r_seq ?_) | (with_reducible refine x_then ?_) | (with_reducible refine r_region ?_) | (refine r_draw hM (by kernel_rfl) ?_) | (with_reducible refine r_skip ?_) | (with_reducible refine r_ret ?_) | (with_reducible refine x_then_ret ?_) | (with_reducible refine r_block ?_) | (with_reducible refine x_block ?_) | (with_reducible refine x_block_ret ?_) | (with_reducible refine r_exit ?_) | (with_reducible refine x_then_exit ?_) | (with_reducible refine x_block_here ?_) | (refine x_block_past rfl ?_) | (refine c_yes rfl (by omega) ?_) | (refine c_no rfl (by omega) ?_) | (refine c_no rfl (fun h => h rfl) ?_) | (refine r_cond_false rfl ?_) | (refine r_cond_true rfl ?_) | (refine r_cond_dec rfl (fun _ => ?_) (fun _ => ?_)) | (refine r_cond_true rfl ?_) | (refine r_cond_false rfl ?_) | (refine c_not rfl (fun _ => ?_) (fun _ => ?_)) | (refine r_off rfl rfl rfl ?_) | (refine q_guard rfl rfl (fun _ => ?_) (fun _ => ?_)) | (refine q_guardn rfl rfl (fun _ => ?_) (fun _ => ?_)))
        have hinp : ∀ p ∈ t, In ts.length p.val := hA t hm
        have htl := hc t hm
        refine r_loop (γ := (Nat × Hp) × CY × (Option Addr × Nat)) (fun x => x.1.1 ≤ t.length ∧ CSt h0 x.1.2 p3 p4 p1 p5 g gr (some ⟨bt, offt, none⟩) c ts x.2.1.1 x.2.1.2.1.1 x.2.1.2.1.2 x.2.1.2.2 (tabs ++ [] :: cNew ts (ord ++ [v.a.toNat]) (goes ts f (ord ++ [v.a.toNat]) (t.take x.1.1))) (goes ts f (ord ++ [v.a.toNat]) (t.take x.1.1)) ∧
            Own x.1.2 x.2.2.1 x.1.1 x.2.2.2 61 8 (((t.take x.1.1).map (nPr (goes ts f (ord ++ [v.a.toNat]) (t.take x.1.1)))).flatMap Pr.c) ∧ (∀ b, blk x.2.2.1 = some b → h0 b = none ∧ ¬ CS g p4 x.2.1.2.1.1 x.2.1.2.2 b) ∧
            Keep u (CS g p4 Aq hs) x.1.2 (fun b => CS g p4 x.2.1.2.1.1 x.2.1.2.2 b ∨ blk x.2.2.1 = some b))
          (fun x => [(1, .v (ptr p3)), (2, .v (ptr p4)), (3, .v (ptr p1)), (4, .v (ptr p5)), (5, .p 5 0), (6, .p 6 0), (7, .v (.int .i64 ord.length)), (9, .v (.slice x.2.2.1 x.1.1 x.2.2.2)), (44, .v (.slice A1 t.length c1)), (45, .v (.int .i64 t.length)), (46, .v (.int .i64 x.1.1))])
          (fun _ => [(6, ⟨none, [.v (ZV.val (.int .i64)), .v (ZV.val (.int .i64)), .v (ZV.val .str), .v (ZV.val (.int .i64))], 48⟩), (5, ⟨none, v.sv, 48⟩)]) (fun x => x.1.2) (fun x => t.length - x.1.1)
          ((0, upd u3 p4 (.cells (gCells V0 A' (ord.length + 1) c').toArray 51 (0, 0))), (mset m (v.a.toNat : Int) (ord.length : Int), (A', c'), hs ++ [⟨none, 0, 0⟩]), (none, 0))
          ⟨Nat.zero_le _, by simpa [goes, cNew_refl] using hC4, own_nil, fun b hb => by simp [blk] at hb, fun x o hx hs' => ⟨(hK4 x o hx hs').1, fun hc => by
            rcases hc with hc | hc
            · exact (hK4 x o hx hs').2 hc
            · simp [blk] at hc⟩⟩
          (into rfl ⟨rfl, rfl, rfl, rfl, rfl, rfl, rfl, rfl, rfl, rfl, rfl, trivial⟩ ⟨rfl, rfl, trivial⟩ rfl rfl) ?_
        rintro ⟨⟨j, uj⟩, ⟨mj, ⟨Aj, cj⟩, hsj⟩, ⟨Ap, cp⟩⟩ ⟨hj, hCj, hOp, hap, hKj⟩
        dsimp only at *
        have hNj := goes_nm hA f (t.take j) _ (fun p hp => hinp p (List.mem_of_mem_take hp)) hN1
        have hpre := goes_pre ts f (t.take j) (ord ++ [v.a.toNat])
        have hlenj := hpre.length_le
        simp only [List.length_append, List.length_singleton] at hlenj
        obtain ⟨hclj, htgj⟩ := goes_closed hA f (t.take j) (ord ++ [v.a.toNat]) (fun p hp => hinp p (List.mem_of_mem_take hp)) hN1 (by simp; omega)
        by_cases hltj : j < t.length
        · obtain ⟨b2', off2, p, rfl, hd2, hix2, hm2, hat2⟩ := (hp1.le hCj.base).elem Pr.c_len hltj
          have hle0 := hCj.base
          have hat5 := at_of hCj.c5
          have hnext := goes_nPr hA (f := f) (o := ord ++ [v.a.toNat]) hix2
          repeat' (first | (refine r_pure hT rfl rfl rfl rfl ?_) | (refine r_new hT rfl rfl rfl rfl ?_) | (refine r_write hT rfl rfl rfl ?_) | (refine r_nil ?_) | (refine q_nil ?_) | (refine r_indexN hT rfl rfl rfl rfl rfl rfl rfl rfl rfl (by omega) ?_) | (refine r_load hT hat2 rfl rfl rfl rfl rfl (Nat.add_zero _).symm rfl rfl rfl rfl rfl ?_) | (refine r_load hT hat5 rfl rfl rfl rfl rfl (Nat.add_zero _).symm rfl rfl rfl rfl rfl ?_) | (refine r_many (id := 12) [0, 1, 2, 3, 4, 5] [] h0 hle0 hM (by kernel_rfl) rfl (by kernel_rfl) rfl rfl rfl (fun β0 => ?_)) | ((refine r_callV (numC h0 p3 p4 p1 p5 g gr (some ⟨bt, offt, none⟩) c ts hA hn hc f _ p.val _ uj mj Aj cj hsj _ hCj hNj (hinp p hm2) (by omega) rfl) rfl rfl rfl rfl rfl hcall rfl rfl (fun y uy hy => ?_) ; have hle0 := hy.1.base)) | (refine r_build hT rfl rfl rfl (ps := [(0, .tmp 52), (1, .tmp 56)]) rfl rfl rfl rfl rfl rfl ?_) | ((refine r_bslice hT (ps := [(0, .tmp 57)]) rfl rfl rfl rfl rfl rfl rfl (by simp) rfl rfl (by decide) (fun b3 hb3 => ?_) ; have hle0 := le_fresh (o := .cells (Pr.c (nPr (go ts f (goes ts f (ord ++ [v.a.toNat]) (t.take j)) p.val) p)).toArray 61 (0, 0)) hle0 hb3)) | ((refine r_append hT (cs := ((t.take j).map (nPr (goes ts f (ord ++ [v.a.toNat]) (t.take j)))).flatMap Pr.c) (news := Pr.c (nPr (go ts f (goes ts f (ord ++ [v.a.toNat]) (t.take j)) p.val) p)) rfl rfl rfl rfl rfl rfl rfl rfl rfl rfl rfl (hOp.le fun b o hb ho => by rw [upd_ne (fun e => by subst e; have := (hy.2 _ _ ho (hap _ hb).2).1; rw [hb3] at this; cases this)]; exact (hy.2 _ _ ho (hap _ hb).2).1) (sl_all (upd_here ..) rfl) pr_ones (by dsimp only; omega) (by omega) (fun A9 c9 u9 hO9 hG9 => ?_) ; have hle0 := (hG9 h0 hle0 (fun b hb => (hap b hb).1)).1)) | (refine m_keep hle0 ⟨rfl, rfl, rfl, trivial⟩ rfl rfl ?_) | (refine r_arith rfl rfl rfl rfl rfl rfl rfl (by omega) ?_) | (with_reducible refine r_seq ?_) | (with_reducible refine x_then ?_) | (with_reducible refine r_region ?_) | (with_reducible refine r_skip ?_) | (with_reducible refine r_ret ?_) | (with_reducible refine x_then_ret ?_) | (with_reducible refine r_block ?_) | (with_reducible refine x_block ?_) | (with_reducible refine x_block_ret ?_) | (with_reducible refine r_exit ?_) | (with_reducible refine x_then_exit ?_) | (with_reducible refine x_block_here ?_) | (refine x_block_past rfl ?_) | (refine c_yes rfl (by omega) ?_) | (refine c_no rfl (by omega) ?_) | (refine c_no rfl (fun h => h rfl) ?_) | (refine r_cond_false rfl ?_) | (refine r_cond_true rfl ?_) | (refine r_cond_dec rfl (fun _ => ?_) (fun _ => ?_)) | (refine r_cond_true rfl ?_) | (refine r_cond_false rfl ?_) | (refine c_not rfl (fun _ => ?_) (fun _ => ?_)) | (refine r_off rfl rfl rfl ?_) | (refine q_guard rfl rfl (fun _ => ?_) (fun _ => ?_)) | (refine q_guardn rfl rfl (fun _ => ?_) (fun _ => ?_)) | (refine s_nil ?_) | (with_reducible refine a_full ?_) | (refine m_step rfl rfl (List.cons_ne_nil _ _) ?_) | (refine allR_cons rfl ?_ ?_) | (exact allR_nil) | (refine m_end rfl rfl rfl ?_))
          obtain ⟨hyC, hyK⟩ := hy
          have k3 : ∀ x o, uy x = some o → blk Ap ≠ some x → u9 x = some o ∧ blk A9 ≠ some x := fun x o hx hb => hG9.keep x o (by rw [upd_ne (fun e => by subst e; rw [hb3] at hx; cases hx)]; exact hx) hb
          have hnc : ∀ b, CS g p4 y.2.1.1 y.2.2 b → blk Ap ≠ some b := fun b hb e => by
            obtain ⟨o, ho⟩ := Option.ne_none_iff_exists'.1 (hOp.live e)
            exact (hyK b o ho (hap b e).2).2 hb
          have hCn := CSt_keep hyC hle0 (fun b o hb ho => (k3 b o ho (hnc b hb)).1)
          have hpn := go_pre ts f (goes ts f (ord ++ [v.a.toNat]) (t.take j)) p.val
          refine x_round ((j + 1, u9), y, (A9, c9)) ⟨hltj, ?_, ?_, fun b hb => ⟨?_, fun hc => ?_⟩, fun x o hx hs' => ?_⟩ (by simp; omega) (into rfl ⟨rfl, rfl, rfl, rfl, rfl, rfl, rfl, rfl, rfl, rfl, rfl, trivial⟩ ⟨rfl, rfl, trivial⟩ rfl rfl)
          · show CSt h0 u9 _ _ _ _ _ _ _ _ _ _ _ _ _ (tabs ++ [] :: cNew ts (ord ++ [v.a.toNat]) (goes ts f (ord ++ [v.a.toNat]) (t.take (j + 1)))) (goes ts f (ord ++ [v.a.toNat]) (t.take (j + 1)))
            rw [hnext, cNew_trans hpre hpn hNj hclj]
            simpa using hCn
          · show Own u9 A9 (j + 1) c9 61 8 (((t.take (j + 1)).map (nPr (goes ts f (ord ++ [v.a.toNat]) (t.take (j + 1))))).flatMap Pr.c)
            rw [hnext, take_snoc hix2, List.map_append, List.flatMap_append, nPr_pre hpn htgj]
            simpa using hO9
          · exact (hG9 h0 (le_fresh hyC.base hb3) (fun b hb => (hap b hb).1)).2 b hb
          · obtain ⟨o, ho⟩ := CSt_live hyC hc
            exact (k3 b o ho (hnc b hc)).2 hb
          · obtain ⟨d1, d2⟩ := hKj x o hx hs'
            simp only [not_or] at d2
            obtain ⟨d3, d4⟩ := hyK x o d1 d2.1
            obtain ⟨d5, d6⟩ := k3 x o d3 d2.2
            exact ⟨d5, fun hc => by
              rcases hc with hc | hc
              · exact d4 hc
              · exact d6 hc⟩
        · obtain rfl : j = t.length := by omega
          rw [List.take_length] at hCj hOp hNj hpre hlenj hclj htgj
          have hat4j := at_of hCj.out
          obtain ⟨bj, offj, rfl⟩ := own_some hCj.ot.own (i := ord.length) (by omega)
          have hnum := hC.ot.num
          have hput := hCj.ot.own.len
          repeat' (first | (refine r_pure hT rfl rfl rfl rfl ?_) | (refine r_new hT rfl rfl rfl rfl ?_) | (refine r_write hT rfl rfl rfl ?_) | (refine r_nil ?_) | (refine q_nil ?_) | (refine r_load hT hat4j rfl rfl rfl rfl rfl rfl rfl rfl rfl rfl rfl ?_) | (refine r_indexN hT rfl rfl rfl rfl rfl rfl rfl rfl rfl (by omega) ?_) | (refine r_store_own (o := ord.length * 1) hT hCj.ot.own rfl rfl rfl rfl rfl rfl rfl rfl rfl rfl rfl (by rw [hput]; show ord.length * 1 + 1 ≤ _ * 1; omega) (fun u9 hO9 hu9 => ?_)) | (refine r_arith rfl rfl rfl rfl rfl rfl rfl (by omega) ?_) | (with_reducible refine r_seq ?_) | (with_reducible refine x_then ?_) | (with_reducible refine r_region ?_) | (refine r_draw hM (by kernel_rfl) ?_) | (with_reducible refine r_skip ?_) | (with_reducible refine r_ret ?_) | (with_reducible refine x_then_ret ?_) | (with_reducible refine r_block ?_) | (with_reducible refine x_block ?_) | (with_reducible refine x_block_ret ?_) | (with_reducible refine r_exit ?_) | (with_reducible refine x_then_exit ?_) | (with_reducible refine x_block_here ?_) | (refine x_block_past rfl ?_) | (refine c_yes rfl (by omega) ?_) | (refine c_no rfl (by omega) ?_) | (refine c_no rfl (fun h => h rfl) ?_) | (refine r_cond_false rfl ?_) | (refine r_cond_true rfl ?_) | (refine r_cond_dec rfl (fun _ => ?_) (fun _ => ?_)) | (refine r_cond_true rfl ?_) | (refine r_cond_false rfl ?_) | (refine c_not rfl (fun _ => ?_) (fun _ => ?_)) | (refine r_off rfl rfl rfl ?_) | (refine q_guard rfl rfl (fun _ => ?_) (fun _ => ?_)) | (refine q_guardn rfl rfl (fun _ => ?_) (fun _ => ?_)))
          rw [hnum] at hO9
          obtain ⟨hCf, hKf⟩ := CSt_put (y := ⟨Ap, t.length, cp⟩) (pre := tabs) hCj (by simp) hO9 hu9 hOp hap
          have hidx : (goes ts f (ord ++ [v.a.toNat]) t).idxOf v.a.toNat = ord.length := by
            rw [idx_pre hpre (by simp), List.idxOf_append, if_neg hin]; simp
          simp only [ren, if_pos h4, hidx] at hr
          subst hr
          rw [cNew_new hpre hix]
          exact r_fin hT rfl ((mj, (some ⟨bj, offj, none⟩, cj), hsj.set tabs.length ⟨Ap, t.length, cp⟩) : CY) rfl rfl rfl trivial rfl ⟨hCf, hKj.trans hKf⟩
    · have hg := go_leaf (ts := ts) (f := f + 1) (ord := ord) h4
      rw [hg, cNew_refl, List.append_nil]
      rw [hg] at hr
      have hr' : r = v := by rw [hr, ren, if_neg h4]
      subst hr'
      repeat' (first | (refine r_pure hT rfl rfl rfl rfl ?_) | (refine r_new hT rfl rfl rfl rfl ?_) | (refine r_write hT rfl rfl rfl ?_) | (refine r_nil ?_) | (refine q_nil ?_) | (refine c_yes rfl h4 ?_) | (refine r_arith rfl rfl rfl rfl rfl rfl rfl (by omega) ?_) | (with_reducible refine r_seq ?_) | (with_reducible refine x_then ?_) | (with_reducible refine r_region ?_) | (refine r_draw hM (by kernel_rfl) ?_) | (with_reducible refine r_skip ?_) | (with_reducible refine r_ret ?_) | (with_reducible refine x_then_ret ?_) | (with_reducible refine r_block ?_) | (with_reducible refine x_block ?_) | (with_reducible refine x_block_ret ?_) | (with_reducible refine r_exit ?_) | (with_reducible refine x_then_exit ?_) | (with_reducible refine x_block_here ?_) | (refine x_block_past rfl ?_) | (refine c_yes rfl (by omega) ?_) | (refine c_no rfl (by omega) ?_) | (refine c_no rfl (fun h => h rfl) ?_) | (refine r_cond_false rfl ?_) | (refine r_cond_true rfl ?_) | (refine r_cond_dec rfl (fun _ => ?_) (fun _ => ?_)) | (refine r_cond_true rfl ?_) | (refine r_cond_false rfl ?_) | (refine c_not rfl (fun _ => ?_) (fun _ => ?_)) | (refine r_off rfl rfl rfl ?_) | (refine q_guard rfl rfl (fun _ => ?_) (fun _ => ?_)) | (refine q_guardn rfl rfl (fun _ => ?_) (fun _ => ?_)))
      exact r_fin hT rfl ((m, (Aq, cq), hs) : CY) rfl rfl rfl trivial rfl ⟨hC, Keep.refl _ _⟩
end Go.Proofs.YtkamfnmbidnhdaaDoor
namespace Go.Proofs.YtkamfnmbidnhdaaDoor
open Go.Sy
set_option maxRecDepth 100000
set_option maxHeartbeats 4000000
set_option linter.unusedVariables false
set_option linter.unusedSimpArgs false
abbrev OY := (Option Addr × Nat) × List Hd
theorem implCanon (v : V) (ts : List (List Pr)) (A : Option Addr) (n c : Nat) (h : Hp) (hP : Tabs h A n ts) :
    TriS Tryd.prog 68 [.ag (gsv v A n c)] [] h (fun y : OY => .ag (gsv (cV v ts) y.1.1 (cT v ts).length y.1.2)) (fun _ => []) (fun y h' => OT h' 59 61 y.1.1 (cT v ts).length y.1.2 y.2 (cT v ts) ∧ Le h h' ∧ OffAll h y.1.1 y.2) := by
  obtain rfl := hP.len
  refine enterS Tryd.func68 rfl (n := 18) rfl rfl (fun k N => ?_)
  by_cases hg : GOk v ts
  · obtain ⟨h1, h2, h3, h4⟩ := gok_in hg
    have e1 : cV v ts = ren (ordOf ts v) v := if_pos hg
    have e2 : cT v ts = cTs ts (ordOf ts v) := if_pos hg
    have e3 : (cTs ts (ordOf ts v)).length = (ordOf ts v).length := by simp [cTs]
    rw [e1, e2, e3]
    repeat' (first | (refine r_pure hT rfl rfl rfl rfl ?_) | (refine r_new hT rfl rfl rfl rfl ?_) | (refine r_write hT rfl rfl rfl ?_) | (refine r_nil ?_) | (refine q_nil ?_) | ((refine r_call (implOk v ts A ts.length c _ hP) rfl rfl rfl rfl rfl (hC _ rfl) rfl rfl (fun y u1 hy => ?_) ; obtain ⟨hy1, hle1⟩ := hy ; subst hy1)) | (refine c_not rfl (fun hx => absurd hg hx) (fun _ => ?_)) | (refine r_mkmap rfl rfl rfl rfl (fun g hg0 => ?_)) | (refine r_arith rfl rfl rfl rfl rfl rfl rfl (by omega) ?_) | (with_reducible refine r_seq ?_) | (with_reducible refine x_then ?_) | (with_reducible refine r_region ?_) | (refine r_draw hM (by kernel_rfl) ?_) | (with_reducible refine r_skip ?_) | (with_reducible refine r_ret ?_) | (with_reducible refine x_then_ret ?_) | (with_reducible refine r_block ?_) | (with_reducible refine x_block ?_) | (with_reducible refine x_block_ret ?_) | (with_reducible refine r_exit ?_) | (with_reducible refine x_then_exit ?_) | (with_reducible refine x_block_here ?_) | (refine x_block_past rfl ?_) | (refine c_yes rfl (by omega) ?_) | (refine c_no rfl (by omega) ?_) | (refine c_no rfl (fun h => h rfl) ?_) | (refine r_cond_false rfl ?_) | (refine r_cond_true rfl ?_) | (refine r_cond_dec rfl (fun _ => ?_) (fun _ => ?_)) | (refine r_cond_true rfl ?_) | (refine r_cond_false rfl ?_) | (refine c_not rfl (fun _ => ?_) (fun _ => ?_)) | (refine r_off rfl rfl rfl ?_) | (refine q_guard rfl rfl (fun _ => ?_) (fun _ => ?_)) | (refine q_guardn rfl rfl (fun _ => ?_) (fun _ => ?_)))
    refine r_pub 3 (fun _ => [Value.map (some g)]) rfl rfl (fun _ => rfl) (fun p3 hp3 => ?_)
    refine r_pub 4 (fun _ => gCells V0 none 0 0) rfl rfl (fun _ => rfl) (fun p4 hp4 => ?_)
    refine r_pub 1 (fun _ => gCells v A ts.length c) rfl rfl (fun _ => rfl) (fun p1 hp1 => ?_)
    refine r_pub 5 (fun p5 => [Value.func (.func 108) ⟨[]⟩ ⟨[ptr p3, ptr p4, ptr p1, ptr p5]⟩]) rfl rfl (fun _ => rfl) (fun p5 hp5 => ?_)
    change upd u1 g (.map #[] 0) p3 = none at hp3
    change upd (upd u1 g (.map #[] 0)) p3 (.cells [Value.map (some g)].toArray 90 (0, 0)) p4 = none at hp4
    change upd (upd (upd u1 g (.map #[] 0)) p3 (.cells [Value.map (some g)].toArray 90 (0, 0))) p4 (.cells (gCells V0 none 0 0).toArray 51 (0, 0)) p1 = none at hp1
    change upd (upd (upd (upd u1 g (.map #[] 0)) p3 (.cells [Value.map (some g)].toArray 90 (0, 0))) p4 (.cells (gCells V0 none 0 0).toArray 51 (0, 0))) p1 (.cells (gCells v A ts.length c).toArray 51 (0, 0)) p5 = none at hp5
    have n3 := up_none hp3
    have n4 := up_none hp4
    have n4b := up_none n4.2
    have n1 := up_none hp1
    have n1b := up_none n1.2
    have n1c := up_none n1b.2
    have n5 := up_none hp5
    have n5b := up_none n5.2
    have n5c := up_none n5b.2
    have n5d := up_none n5c.2
    have hle0 : Le u1 (upd (upd (upd u1 p3 (.cells [Value.map (some g)].toArray 90 (0, 0))) p1 (.cells (gCells v A ts.length c).toArray 51 (0, 0))) p5 (.cells [Value.func (.func 108) ⟨[]⟩ ⟨[ptr p3, ptr p4, ptr p1, ptr p5]⟩].toArray 103 (0, 0))) :=
      (((Le.refl u1).upd n3.2).upd n1c.2).upd n5d.2
    have hC0 : CSt (upd (upd (upd u1 p3 (.cells [Value.map (some g)].toArray 90 (0, 0))) p1 (.cells (gCells v A ts.length c).toArray 51 (0, 0))) p5 (.cells [Value.func (.func 108) ⟨[]⟩ ⟨[ptr p3, ptr p4, ptr p1, ptr p5]⟩].toArray 103 (0, 0)))
        (upd (upd (upd (upd (upd u1 g (.map #[] 0)) p3 (.cells [Value.map (some g)].toArray 90 (0, 0))) p4 (.cells (gCells V0 none 0 0).toArray 51 (0, 0))) p1 (.cells (gCells v A ts.length c).toArray 51 (0, 0))) p5 (.cells [Value.func (.func 108) ⟨[]⟩ ⟨[ptr p3, ptr p4, ptr p1, ptr p5]⟩].toArray 103 (0, 0)))
        p3 p4 p1 p5 g v A c ts [] none 0 [] [] [] := by
      refine ⟨(MAt.made Tryd.prog iKey u1 g).same ?_, fun a => ⟨by simp [mhas], fun hx => by cases hx⟩, ?_, ⟨rfl, own_nil, ORows.nil⟩, fun b o hb => ?_, fun b hb => ?_, ?_, ?_, upd_here .., ⟨Ne.symm n4b.1, fun hx => ?_, fun hx => ?_⟩, hP.le (hle1.trans hle0)⟩
      · rw [upd_ne (Ne.symm n5d.1), upd_ne (Ne.symm n1c.1), upd_ne (Ne.symm n4b.1), upd_ne (Ne.symm n3.1)]
      · rw [upd_ne (Ne.symm n5b.1), upd_ne (Ne.symm n1.1), upd_here]; rfl
      · by_cases b5 : b = p5
        · subst b5; rw [upd_here] at hb ⊢; exact hb
        rw [upd_ne b5] at hb ⊢
        by_cases b1 : b = p1
        · subst b1; rw [upd_here] at hb ⊢; exact hb
        rw [upd_ne b1] at hb ⊢
        by_cases b3 : b = p3
        · subst b3; rw [upd_here] at hb; rw [upd_ne (Ne.symm n4.1), upd_here]; exact hb
        rw [upd_ne b3] at hb
        rw [upd_ne (fun e => by subst e; rw [n4b.2] at hb; cases hb), upd_ne b3, upd_ne (fun e => by subst e; rw [hg0] at hb; cases hb)]; exact hb
      · rcases hb with rfl | rfl | hb
        · rw [upd_ne (Ne.symm n5d.1), upd_ne (Ne.symm n1c.1), upd_ne (Ne.symm n3.1)]; exact hg0
        · rw [upd_ne (Ne.symm n5b.1), upd_ne (Ne.symm n1.1), upd_ne n4.1]; exact n4b.2
        · rcases hb with hb | ⟨x, hx, _⟩
          · cases hb
          · cases hx
      · rw [upd_ne (Ne.symm n5c.1), upd_ne (Ne.symm n1b.1), upd_here]
      · rw [upd_ne (Ne.symm n5.1), upd_here]
      · rcases hx with hb | ⟨x, hx, _⟩
        · cases hb
        · cases hx
      · rcases hx with hb | ⟨x, hx, _⟩
        · cases hb
        · cases hx
    repeat' (first | (refine r_pure hT rfl rfl rfl rfl ?_) | (refine r_new hT rfl rfl rfl rfl ?_) | (refine r_write hT rfl rfl rfl ?_) | (refine r_nil ?_) | (refine q_nil ?_) | ((refine r_call (numC _ p3 p4 p1 p5 g v A c ts h1 (by omega) (fun t ht => by have := h4 t ht; omega) (ts.length + 1) [] v _ _ [] none 0 [] [] hC0 (nm_nil _) h2 (by simp) rfl) rfl rfl rfl rfl rfl (hC _ rfl) rfl rfl (fun y u6 hy => ?_) ; obtain ⟨hyC, hyK⟩ := hy)) | ((refine r_store hT rfl rfl rfl rfl rfl rfl rfl rfl rfl rfl hyC.out (Nat.le_succ 4) ?_ ; have hat9 : At (upd u6 p4 (.cells (gCells (ren (go ts (ts.length + 1) [] v) v) y.2.1.1 (go ts (ts.length + 1) [] v).length y.2.1.2).toArray 51 (0, 0))) p4 0 (gCells (ren (go ts (ts.length + 1) [] v) v) y.2.1.1 (go ts (ts.length + 1) [] v).length y.2.1.2) := at_of (upd_here ..))) | (refine r_load hT hat9 rfl rfl rfl rfl rfl (Nat.add_zero _).symm rfl rfl rfl rfl rfl ?_) | (refine r_arith rfl rfl rfl rfl rfl rfl rfl (by omega) ?_) | (with_reducible refine r_seq ?_) | (with_reducible refine x_then ?_) | (with_reducible refine r_region ?_) | (refine r_draw hM (by kernel_rfl) ?_) | (with_reducible refine r_skip ?_) | (with_reducible refine r_ret ?_) | (with_reducible refine x_then_ret ?_) | (with_reducible refine r_block ?_) | (with_reducible refine x_block ?_) | (with_reducible refine x_block_ret ?_) | (with_reducible refine r_exit ?_) | (with_reducible refine x_then_exit ?_) | (with_reducible refine x_block_here ?_) | (refine x_block_past rfl ?_) | (refine c_yes rfl (by omega) ?_) | (refine c_no rfl (by omega) ?_) | (refine c_no rfl (fun h => h rfl) ?_) | (refine r_cond_false rfl ?_) | (refine r_cond_true rfl ?_) | (refine r_cond_dec rfl (fun _ => ?_) (fun _ => ?_)) | (refine r_cond_true rfl ?_) | (refine r_cond_false rfl ?_) | (refine c_not rfl (fun _ => ?_) (fun _ => ?_)) | (refine r_off rfl rfl rfl ?_) | (refine q_guard rfl rfl (fun _ => ?_) (fun _ => ?_)) | (refine q_guardn rfl rfl (fun _ => ?_) (fun _ => ?_)))
    rw [List.nil_append, cNew_nil] at hyC
    refine r_fin hT rfl ((y.2.1, y.2.2) : OY) rfl rfl rfl trivial rfl ⟨hyC.ot.keep fun b o hb ho => ?_, fun x o hx => ?_, fun b hb => ?_, fun x hx b hb => ?_⟩
    · rw [upd_ne (fun e => by subst e; exact hyC.ap.2.2 hb)]; exact ho
    · rw [upd_ne (fun e => by subst e; rw [hle1 _ _ hx] at n4b; cases n4b.2)]
      exact hyC.base x o (hle0 x o (hle1 x o hx))
    · have h0n := hyC.off b (.inr (.inr (.inl hb)))
      cases hh : h b with
      | none => rfl
      | some o => rw [hle0 b o (hle1 b o hh)] at h0n; cases h0n
    · have h0n := hyC.off b (.inr (.inr (.inr ⟨x, hx, hb⟩)))
      cases hh : h b with
      | none => rfl
      | some o => rw [hle0 b o (hle1 b o hh)] at h0n; cases h0n
  · have e1 : cV v ts = V0 := if_neg hg
    have e2 : cT v ts = [] := if_neg hg
    rw [e1, e2]
    repeat' (first | (refine r_pure hT rfl rfl rfl rfl ?_) | (refine r_new hT rfl rfl rfl rfl ?_) | (refine r_write hT rfl rfl rfl ?_) | (refine r_nil ?_) | (refine q_nil ?_) | ((refine r_call (implOk v ts A ts.length c _ hP) rfl rfl rfl rfl rfl (hC _ rfl) rfl rfl (fun y u1 hy => ?_) ; obtain ⟨hy1, hle1⟩ := hy ; subst hy1)) | (refine c_not rfl (fun _ => ?_) (fun hx => absurd hx hg)) | (refine r_build hT rfl rfl rfl rfl rfl rfl rfl rfl rfl ?_) | (refine r_arith rfl rfl rfl rfl rfl rfl rfl (by omega) ?_) | (with_reducible refine r_seq ?_) | (with_reducible refine x_then ?_) | (with_reducible refine r_region ?_) | (refine r_draw hM (by kernel_rfl) ?_) | (with_reducible refine r_skip ?_) | (with_reducible refine r_ret ?_) | (with_reducible refine x_then_ret ?_) | (with_reducible refine r_block ?_) | (with_reducible refine x_block ?_) | (with_reducible refine x_block_ret ?_) | (with_reducible refine r_exit ?_) | (with_reducible refine x_then_exit ?_) | (with_reducible refine x_block_here ?_) | (refine x_block_past rfl ?_) | (refine c_yes rfl (by omega) ?_) | (refine c_no rfl (by omega) ?_) | (refine c_no rfl (fun h => h rfl) ?_) | (refine r_cond_false rfl ?_) | (refine r_cond_true rfl ?_) | (refine r_cond_dec rfl (fun _ => ?_) (fun _ => ?_)) | (refine r_cond_true rfl ?_) | (refine r_cond_false rfl ?_) | (refine c_not rfl (fun _ => ?_) (fun _ => ?_)) | (refine r_off rfl rfl rfl ?_) | (refine q_guard rfl rfl (fun _ => ?_) (fun _ => ?_)) | (refine q_guardn rfl rfl (fun _ => ?_) (fun _ => ?_)))
    exact r_fin hT rfl (((none, 0), []) : OY) rfl rfl rfl trivial rfl ⟨⟨rfl, own_nil, ORows.nil⟩, hle1, off_nil, fun x hx => by cases hx⟩
end Go.Proofs.YtkamfnmbidnhdaaDoor
namespace Go.Proofs.YtkamfnmbidnhdaaDoor
open Go.Sy
set_option maxRecDepth 100000
set_option linter.unusedVariables false
end Go.Proofs.YtkamfnmbidnhdaaDoor
