/- What impl.Canon's walk holds. -/
import Derived.Test.YtkamfnmbidnhdaaDoorSqAV
import Derived.Test.YtkamfnmbidnhdaaDoorSqAY
set_option linter.unusedVariables false
set_option linter.unusedSimpArgs false
set_option linter.unusedSectionVars false
namespace Go.Proofs.YtkamfnmbidnhdaaDoor
open Go.Sy
set_option maxRecDepth 100000
set_option maxHeartbeats 4000000
set_option linter.unusedVariables false
set_option linter.unusedSimpArgs false
def gCells (v : V) (A : Option Addr) (n c : Nat) : List Value := [.int .i64 v.k, .int .i64 v.n, .string v.s, .int .i64 v.a, .slice A n c]
def ptr (b : Nat) : Value := .pointer (some ⟨b, 0, none⟩)
/-- The blocks of the tables. -/
def OS (Aq : Option Addr) (hs : List Hd) : Nat → Prop := fun b => blk Aq = some b ∨ ∃ x ∈ hs, blk x.A = some b
def CS (g p4 : Nat) (Aq : Option Addr) (hs : List Hd) : Nat → Prop := fun b => b = g ∨ b = p4 ∨ OS Aq hs b
structure CSt (h0 u : Hp) (p3 p4 p1 p5 g : Nat) (gr : V) (A : Option Addr) (c : Nat) (ts : List (List Pr)) (m : List (Int × Int)) (Aq : Option Addr) (cq : Nat) (hs : List Hd) (tabs : List (List Pr)) (ord : List Nat) : Prop where
  map : MAt Tryd.prog iKey u g m
  keys : ∀ a : Nat, mhas m (a : Int) = decide (a ∈ ord) ∧ (a ∈ ord → mget m (a : Int) = (ord.idxOf a : Int))
  out : u p4 = some (.cells (gCells V0 Aq ord.length cq).toArray 51 (0, 0))
  ot : OT u 59 61 Aq ord.length cq hs tabs
  base : Le h0 u
  off : ∀ b, CS g p4 Aq hs b → h0 b = none
  c3 : h0 p3 = some (.cells [Value.map (some g)].toArray 90 (0, 0))
  c1 : h0 p1 = some (.cells (gCells gr A ts.length c).toArray 51 (0, 0))
  c5 : h0 p5 = some (.cells [Value.func (.func 108) ⟨[]⟩ ⟨[ptr p3, ptr p4, ptr p1, ptr p5]⟩].toArray 103 (0, 0))
  ap : g ≠ p4 ∧ ¬ OS Aq hs g ∧ ¬ OS Aq hs p4
  tabs : Tabs h0 A ts.length ts
theorem at_of {u : Hp} {b : Nat} {cs : List Value} {t : TypeId} {fr : Nat × Nat} (h : u b = some (.cells cs.toArray t fr)) : At u b 0 cs := ⟨_, _, _, h, fun j v hj => by simpa using hj⟩
theorem orows_live {u : Hp} {eT eP : TypeId} {Aq : Option Addr} {n cq : Nat} {hs : List Hd} {tabs : List (List Pr)} (h : OT u eT eP Aq n cq hs tabs) {b : Nat} (hb : OS Aq hs b) : u b ≠ none := by
  rcases hb with hb | ⟨x, hx, hb⟩
  · exact h.own.live hb
  · exact h.rows.live hx hb
/-- The row of tables grows by an empty one. -/
theorem OT_push {u u' : Hp} {Aq A' : Option Addr} {n cq c' : Nat} {hs : List Hd} {tabs : List (List Pr)} (h : OT u 59 61 Aq n cq hs tabs) (hO : Own u' A' (n + 1) c' 59 1 (hs.flatMap Hd.v ++ Hd.v ⟨none, 0, 0⟩))
    (hk : ∀ b o, u b = some o → blk Aq ≠ some b → u' b = some o ∧ blk A' ≠ some b) : OT u' 59 61 A' (n + 1) c' (hs ++ [⟨none, 0, 0⟩]) (tabs ++ [[]]) := by
  have hne : ∀ b, (∃ x ∈ hs, blk x.A = some b) → blk Aq ≠ some b := fun b ⟨x, hx, hb⟩ e => by
    obtain ⟨i, hi, ex⟩ := List.getElem_of_mem hx
    exact (h.rows.apart i x b (by rw [List.getElem?_eq_getElem hi, ex]) hb).1 e
  have hl : ∀ b o, (∃ x ∈ hs, blk x.A = some b) → u b = some o → u' b = some o := fun b o hb ho => (hk b o ho (hne b hb)).1
  refine ⟨by have := h.num; simp; omega, by rw [List.flatMap_append]; simpa using hO, ?_⟩
  have h1 : ORows u 61 (blk A') hs tabs := ⟨h.rows.len, h.rows.rows, fun i x b hx hb => ⟨fun e => by
    have hxm : x ∈ hs := List.mem_of_getElem? hx
    cases ho : u b with
    | none => exact absurd ho (h.rows.live hxm hb)
    | some o => exact (hk b o ho (hne b ⟨x, hxm, hb⟩)).2 e, (h.rows.apart i x b hx hb).2⟩⟩
  exact h1.snoc hl (y := ⟨none, 0, 0⟩) (t := []) rfl own_nil (fun b hb => by simp [blk] at hb)
/-- A header is set: an empty table becomes a full one. -/
theorem OT_put {u u' : Hp} {b off n cq : Nat} {hs : List Hd} {pre post : List (List Pr)} {t : List Pr} {y : Hd} (h : OT u 59 61 (some ⟨b, off, none⟩) n cq hs (pre ++ [] :: post)) (hy : y.n = t.length)
    (hO : Own u' (some ⟨b, off, none⟩) n cq 59 1 (setL (hs.flatMap Hd.v) (pre.length * 1) (Hd.v y))) (hu : ∀ x, x ≠ b → u' x = u x) (hOy : Own u y.A y.n y.c 61 8 (t.flatMap Pr.c)) (hap : ∀ x, blk y.A = some x → ¬ OS (some ⟨b, off, none⟩) hs x) :
    OT u' 59 61 (some ⟨b, off, none⟩) n cq (hs.set pre.length y) (pre ++ t :: post) := by
  have hlen := h.rows.len
  simp at hlen
  have hpl : pre.length < hs.length := by omega
  have hfl : setL (hs.flatMap Hd.v) (pre.length * 1) (Hd.v y) = (hs.set pre.length y).flatMap Hd.v := by
    rw [Nat.mul_one]
    have e : ∀ l : List Hd, l.flatMap Hd.v = l.map fun x => Value.slice x.A x.n x.c := fun l => by
      induction l with
      | nil => rfl
      | cons a r ih => simp [Hd.v, ih]
    rw [e, e, List.map_set]
    apply List.ext_getElem?
    intro j
    rw [setL_get _ _ _ (by simp [Hd.v]; omega), List.getElem?_set]
    by_cases hj : j = pre.length
    · subst hj
      rw [if_pos (by simp [Hd.v]), if_pos rfl, if_pos (by simpa using hpl)]
      simp [Hd.v]
    · rw [if_neg (by simp [Hd.v]; omega), if_neg (fun e => hj e.symm)]
  have hkeep : ∀ x o, x ≠ b → u x = some o → u' x = some o := fun x o hx ho => by rw [hu x hx]; exact ho
  refine ⟨by have := h.num; simp at this ⊢; omega, by rw [← hfl]; exact hO, ⟨by simp [hlen], fun i x s hx hs' => ?_, fun i x d hx hd => ?_⟩⟩
  · by_cases hi : i = pre.length
    · subst hi
      rw [List.getElem?_set, if_pos rfl, if_pos hpl] at hx
      have e := Option.some.inj hx; subst e
      simp at hs'; subst hs'
      exact ⟨hy, hOy.le fun d o hd ho => hkeep d o (fun e => hap d hd (.inl (by rw [e]; rfl))) ho⟩
    · rw [List.getElem?_set, if_neg (fun e => hi e.symm)] at hx
      have hs2 : (pre ++ [] :: post)[i]? = some s := by
        rw [List.getElem?_append] at hs' ⊢
        split
        · rename_i hlt; rw [if_pos hlt] at hs'; exact hs'
        · rename_i hlt; rw [if_neg hlt] at hs'
          rw [List.getElem?_cons] at hs' ⊢
          have : i - pre.length ≠ 0 := by omega
          rw [if_neg this] at hs' ⊢; exact hs'
      obtain ⟨g1, g2⟩ := h.rows.rows i x s hx hs2
      exact ⟨g1, g2.le fun d o hd ho => hkeep d o (fun e => (h.rows.apart i x d hx hd).1 (by rw [e]; rfl)) ho⟩
  · by_cases hi : i = pre.length
    · subst hi
      rw [List.getElem?_set, if_pos rfl, if_pos hpl] at hx
      have e := Option.some.inj hx; subst e
      have hn := hap d hd
      refine ⟨fun e => hn (.inl e), fun j z hz hzd => ?_⟩
      rw [List.getElem?_set] at hz
      split at hz
      · assumption
      · exact absurd (.inr ⟨z, List.mem_of_getElem? hz, hzd⟩) hn
    · rw [List.getElem?_set, if_neg (fun e => hi e.symm)] at hx
      obtain ⟨g1, g2⟩ := h.rows.apart i x d hx hd
      refine ⟨g1, fun j z hz hzd => ?_⟩
      rw [List.getElem?_set] at hz
      split at hz
      · rename_i e
        have e := Option.some.inj hz; subst e
        exact absurd (.inr ⟨x, List.mem_of_getElem? hx, hd⟩) (hap d hzd)
      · exact g2 j z hz hzd
/-- One table more is met. -/
theorem CSt_push {h0 u u1 u3 : Hp} {p3 p4 p1 p5 g : Nat} {gr : V} {A : Option Addr} {c : Nat} {ts : List (List Pr)} {m : List (Int × Int)} {Aq A' : Option Addr} {cq c' : Nat} {hs : List Hd} {tabs : List (List Pr)} {ord : List Nat} {a b2 : Nat} {o2 : Obj}
    (h : CSt h0 u p3 p4 p1 p5 g gr A c ts m Aq cq hs tabs ord) (hn : a ∉ ord) (hM : MAt Tryd.prog iKey u1 g (mset m (a : Int) (ord.length : Int))) (hu1 : ∀ x, x ≠ g → u1 x = u x) (hb2 : u1 b2 = none)
    (hO : Own u3 A' (ord.length + 1) c' 59 1 (hs.flatMap Hd.v ++ Hd.v ⟨none, 0, 0⟩)) (hG : Grown (upd u1 b2 o2) u3 Aq A') :
    u3 p4 = some (.cells (gCells V0 Aq ord.length cq).toArray 51 (0, 0)) ∧
    CSt h0 (upd u3 p4 (.cells (gCells V0 A' (ord.length + 1) c').toArray 51 (0, 0))) p3 p4 p1 p5 g gr A c ts (mset m (a : Int) (ord.length : Int)) A' c' (hs ++ [⟨none, 0, 0⟩]) (tabs ++ [[]]) (ord ++ [a]) ∧
    Keep u (CS g p4 Aq hs) (upd u3 p4 (.cells (gCells V0 A' (ord.length + 1) c').toArray 51 (0, 0))) (CS g p4 A' (hs ++ [⟨none, 0, 0⟩])) := by
  have hK := hG.keep
  have k1 : ∀ x o, u1 x = some o → blk Aq ≠ some x → u3 x = some o ∧ blk A' ≠ some x := fun x o hx hb => hK x o (by rw [upd_ne (fun e => by subst e; rw [hb2] at hx; cases hx)]; exact hx) hb
  obtain ⟨og, hg1, hg2⟩ := hM
  obtain ⟨e1, e2⟩ := k1 g og hg1 (fun e => h.ap.2.1 (.inl e))
  have ho1 := (hu1 p4 (Ne.symm h.ap.1)).trans h.out
  obtain ⟨e3, e4⟩ := k1 p4 _ ho1 (fun e => h.ap.2.2 (.inl e))
  have hos : ∀ b, OS A' (hs ++ [⟨none, 0, 0⟩]) b → blk A' = some b ∨ ∃ x ∈ hs, blk x.A = some b := fun b hb => by
    rcases hb with hb | ⟨x, hx, hb⟩
    · exact .inl hb
    · rcases List.mem_append.1 hx with hx | hx
      · exact .inr ⟨x, hx, hb⟩
      · rw [List.mem_singleton] at hx; subst hx; simp [blk] at hb
  have kk : Keep u (CS g p4 Aq hs) (upd u3 p4 (.cells (gCells V0 A' (ord.length + 1) c').toArray 51 (0, 0))) (CS g p4 A' (hs ++ [⟨none, 0, 0⟩])) := fun x o hx hs' => by
    simp only [CS, OS, not_or] at hs'
    obtain ⟨d1, d2⟩ := k1 x o (by rw [hu1 x hs'.1]; exact hx) hs'.2.2.1
    refine ⟨by rw [upd_ne hs'.2.1]; exact d1, fun hc => ?_⟩
    rcases hc with hc | hc | hc
    · exact hs'.1 hc
    · exact hs'.2.1 hc
    · rcases hos x hc with hc | hc
      · exact d2 hc
      · exact hs'.2.2.2 hc
  obtain ⟨f1, f2⟩ := kk.le h.base h.off
  have hot : OT u3 59 61 A' (ord.length + 1) c' (hs ++ [⟨none, 0, 0⟩]) (tabs ++ [[]]) := OT_push (u := u1) (h.ot.keep fun b o hb ho => by rw [hu1 b (fun e => by subst e; exact h.ap.2.1 hb)]; exact ho) hO k1
  refine ⟨e3, ⟨⟨og, by rw [upd_ne h.ap.1]; exact e1, hg2⟩, fun x => ?_, by rw [upd_here]; simp, ?_, f1, f2, h.c3, h.c1, h.c5, ⟨h.ap.1, fun hc => ?_, fun hc => ?_⟩, h.tabs⟩, kk⟩
  · have hca : ((x : Int) = (a : Int)) ↔ x = a := by omega
    rw [mhas_mset, mget_mset, (h.keys x).1]
    refine ⟨?_, fun hx => ?_⟩
    · rw [Bool.eq_iff_iff]; simp [hca, or_comm]
    · by_cases hxa : x = a
      · subst hxa
        rw [if_pos rfl, List.idxOf_append, if_neg hn]; simp
      · rw [if_neg (fun e => hxa (hca.1 e))]
        have hxo : x ∈ ord := by simpa [hxa] using hx
        rw [(h.keys x).2 hxo, List.idxOf_append, if_pos hxo]
  · have hl : (ord ++ [a]).length = ord.length + 1 := by simp
    rw [hl]
    refine hot.keep fun b o hb ho => ?_
    rw [upd_ne (fun e => ?_)]
    · exact ho
    · subst e
      rcases hos b hb with hc | hc
      · exact e4 hc
      · exact h.ap.2.2 (.inr hc)
  · rcases hos g hc with hc | hc
    · exact e2 hc
    · exact h.ap.2.1 (.inr hc)
  · rcases hos p4 hc with hc | hc
    · exact e4 hc
    · exact h.ap.2.2 (.inr hc)
theorem CSt_live {h0 u : Hp} {p3 p4 p1 p5 g : Nat} {gr : V} {A : Option Addr} {c : Nat} {ts : List (List Pr)} {m : List (Int × Int)} {Aq : Option Addr} {cq : Nat} {hs : List Hd} {tabs : List (List Pr)} {ord : List Nat}
    (h : CSt h0 u p3 p4 p1 p5 g gr A c ts m Aq cq hs tabs ord) {b : Nat} (hb : CS g p4 Aq hs b) : ∃ o, u b = some o := by
  rcases hb with rfl | rfl | hb
  · obtain ⟨o, h1, _⟩ := h.map; exact ⟨o, h1⟩
  · exact ⟨_, h.out⟩
  · exact Option.ne_none_iff_exists'.1 (orows_live h.ot hb)
theorem CSt_keep {h0 u u' : Hp} {p3 p4 p1 p5 g : Nat} {gr : V} {A : Option Addr} {c : Nat} {ts : List (List Pr)} {m : List (Int × Int)} {Aq : Option Addr} {cq : Nat} {hs : List Hd} {tabs : List (List Pr)} {ord : List Nat}
    (h : CSt h0 u p3 p4 p1 p5 g gr A c ts m Aq cq hs tabs ord) (hb : Le h0 u') (hu : ∀ b o, CS g p4 Aq hs b → u b = some o → u' b = some o) : CSt h0 u' p3 p4 p1 p5 g gr A c ts m Aq cq hs tabs ord := by
  obtain ⟨o, h1, h2⟩ := h.map
  exact ⟨⟨o, hu _ _ (.inl rfl) h1, h2⟩, h.keys, hu _ _ (.inr (.inl rfl)) h.out, h.ot.keep fun b o hb ho => hu b o (.inr (.inr hb)) ho, hb, h.off, h.c3, h.c1, h.c5, h.ap, h.tabs⟩
/-- The table that was empty is put in. -/
theorem CSt_put {h0 u u' : Hp} {p3 p4 p1 p5 g : Nat} {gr : V} {A : Option Addr} {c : Nat} {ts : List (List Pr)} {m : List (Int × Int)} {b off cq : Nat} {hs : List Hd} {pre post : List (List Pr)} {t : List Pr} {y : Hd} {ord : List Nat}
    (h : CSt h0 u p3 p4 p1 p5 g gr A c ts m (some ⟨b, off, none⟩) cq hs (pre ++ [] :: post) ord) (hy : y.n = t.length)
    (hO : Own u' (some ⟨b, off, none⟩) ord.length cq 59 1 (setL (hs.flatMap Hd.v) (pre.length * 1) (Hd.v y))) (hu : ∀ x, x ≠ b → u' x = u x) (hOy : Own u y.A y.n y.c 61 8 (t.flatMap Pr.c)) (hap : ∀ x, blk y.A = some x → h0 x = none ∧ ¬ CS g p4 (some ⟨b, off, none⟩) hs x) :
    CSt h0 u' p3 p4 p1 p5 g gr A c ts m (some ⟨b, off, none⟩) cq (hs.set pre.length y) (pre ++ t :: post) ord ∧
    Keep u (fun x => CS g p4 (some ⟨b, off, none⟩) hs x ∨ blk y.A = some x) u' (CS g p4 (some ⟨b, off, none⟩) (hs.set pre.length y)) := by
  have hos : ∀ x, OS (some ⟨b, off, none⟩) (hs.set pre.length y) x → OS (some ⟨b, off, none⟩) hs x ∨ blk y.A = some x := fun x hx => by
    rcases hx with hx | ⟨z, hz, hx⟩
    · exact .inl (.inl hx)
    · rcases List.mem_or_eq_of_mem_set hz with hz | rfl
      · exact .inl (.inr ⟨z, hz, hx⟩)
      · exact .inr hx
  have hcs : ∀ x, CS g p4 (some ⟨b, off, none⟩) (hs.set pre.length y) x → CS g p4 (some ⟨b, off, none⟩) hs x ∨ blk y.A = some x := fun x hx => by
    rcases hx with hx | hx | hx
    · exact .inl (.inl hx)
    · exact .inl (.inr (.inl hx))
    · rcases hos x hx with hx | hx
      · exact .inl (.inr (.inr hx))
      · exact .inr hx
  have hbo : OS (some ⟨b, off, none⟩) hs b := .inl rfl
  have hb0 : h0 b = none := h.off b (.inr (.inr hbo))
  have hgb : g ≠ b := fun e => h.ap.2.1 (e ▸ hbo)
  have hpb : p4 ≠ b := fun e => h.ap.2.2 (e ▸ hbo)
  obtain ⟨o, h1, h2⟩ := h.map
  refine ⟨⟨⟨o, (hu g hgb).trans h1, h2⟩, h.keys, (hu p4 hpb).trans h.out, OT_put h.ot hy hO hu hOy (fun x hx hc => (hap x hx).2 (.inr (.inr hc))), fun x o hx => ?_, fun x hx => ?_, h.c3, h.c1, h.c5, ⟨h.ap.1, fun hc => ?_, fun hc => ?_⟩, h.tabs⟩, fun x o hx hs' => ?_⟩
  · rw [hu x (fun e => by subst e; rw [hb0] at hx; cases hx)]; exact h.base x o hx
  · rcases hcs x hx with hx | hx
    · exact h.off x hx
    · exact (hap x hx).1
  · rcases hos g hc with hc | hc
    · exact h.ap.2.1 hc
    · exact (hap g hc).2 (.inl rfl)
  · rcases hos p4 hc with hc | hc
    · exact h.ap.2.2 hc
    · exact (hap p4 hc).2 (.inr (.inl rfl))
  · simp only [not_or] at hs'
    refine ⟨by rw [hu x (fun e => by subst e; exact hs'.1 (.inr (.inr hbo)))]; exact hx, fun hc => ?_⟩
    rcases hcs x hc with hc | hc
    · exact hs'.1 hc
    · exact hs'.2 hc
end Go.Proofs.YtkamfnmbidnhdaaDoor
namespace Go.Proofs.YtkamfnmbidnhdaaDoor
open Go.Sy
set_option maxRecDepth 100000
set_option maxHeartbeats 4000000
set_option linter.unusedVariables false
set_option linter.unusedSimpArgs false
section
variable {P : Program} {F : Fr} {tm : Tm} {L : Lm} {u : Hp} {Q : Exit → Act → World → Prop}
theorem c_true {c : Operand} {x y : Code} {b : Bool} (hb : b = true) (hc : ev tm c = some (.v (.bool b))) (h1 : St F tm L u (fun a w => x.wp P Q a w)) : St F tm L u (fun a w => (Code.cond c x y).wp P Q a w) :=
  r_cond hc (fun _ => h1) (fun e => by rw [hb] at e; cases e)
theorem c_false {c : Operand} {x y : Code} {b : Bool} (hb : b = false) (hc : ev tm c = some (.v (.bool b))) (h1 : St F tm L u (fun a w => y.wp P Q a w)) : St F tm L u (fun a w => (Code.cond c x y).wp P Q a w) :=
  r_cond hc (fun e => by rw [hb] at e; cases e) (fun _ => h1)
end
abbrev CY := List (Int × Int) × (Option Addr × Nat) × List Hd
theorem hcall : callable Tryd.prog 108 = true := hC 108 rfl
theorem numC (h0 : Hp) (p3 p4 p1 p5 g : Nat) (gr : V) (A : Option Addr) (c : Nat) (ts : List (List Pr)) (hA : AllIn ts) (hn : ts.length ≤ 1000000) (hc : ∀ t ∈ ts, t.length ≤ 1000000) : ∀ (f : Nat) (ord : List Nat) (v r : V) (u : Hp) (m : List (Int × Int)) (Aq : Option Addr) (cq : Nat) (hs : List Hd) (tabs : List (List Pr)),
    CSt h0 u p3 p4 p1 p5 g gr A c ts m Aq cq hs tabs ord → Nm ts.length ord → In ts.length v → ts.length - ord.length < f → r = ren (go ts f ord v) v →
    TriS Tryd.prog 108 [.ag v.sv, .v (ptr p3), .v (ptr p4), .v (ptr p1), .v (ptr p5)] [] u (fun _ : CY => .ag r.sv) (fun _ => []) (fun y u' => CSt h0 u' p3 p4 p1 p5 g gr A c ts y.1 y.2.1.1 y.2.1.2 y.2.2 (tabs ++ cNew ts ord (go ts f ord v)) (go ts f ord v) ∧ Keep u (CS g p4 Aq hs) u' (CS g p4 y.2.1.1 y.2.2))
  | 0, ord, v, r, u, m, Aq, cq, hs, tabs, hC, hN, hv, hf, hr => absurd hf (by omega)
  | f + 1, ord, v, r, u, m, Aq, cq, hs, tabs, hC, hN, hv, hf, hr => by
    have hl := hN.len
    refine enterS Tryd.func108 rfl (n := 70) rfl rfl (fun k N => ?_)
    by_cases h4 : v.k = 4
    · have hva := hv h4
      have hlt : v.a.toNat < ts.length := by omega
      have hcast : ((v.a.toNat : Nat) : Int) = v.a := by omega
      have hk := hC.keys v.a.toNat
      rw [hcast] at hk
      have hat3 : At u p3 0 [Value.map (some g)] := at_of (hC.base _ _ hC.c3)
      by_cases hin : v.a.toNat ∈ ord
      · have hmh : mhas m v.a = true := by rw [hk.1]; simpa using hin
        have hmg := hk.2 hin
        rw [go_old h4 hin, cNew_refl, List.append_nil]
        rw [go_old h4 hin] at hr
        simp only [ren, if_pos h4] at hr
        rw [← hmg] at hr
        subst hr
        repeat' (first | (refine r_pure hT rfl rfl rfl rfl ?_) | (refine r_new hT rfl rfl rfl rfl ?_) | (refine r_write hT rfl rfl rfl ?_) | (refine r_nil ?_) | (refine q_nil ?_) | (refine r_load hT hat3 rfl rfl rfl rfl rfl (Nat.add_zero _).symm rfl rfl rfl rfl rfl ?_) | (refine r_lookok iKeyOps v.a hC.map map88 zero3 rfl rfl rfl rfl rfl rfl rfl ?_) | (refine c_no rfl (fun h => h h4) ?_) | (refine c_false (by rw [hmh]; rfl) rfl ?_) | (refine r_arith rfl rfl rfl rfl rfl rfl rfl (by omega) ?_) | (with_reducible refine r_seq ?_) | (with_reducible refine x_then ?_) | (with_reducible refine r_region ?_) | (refine r_draw hM (by kernel_rfl) ?_) | (with_reducible refine r_skip ?_) | (with_reducible refine r_ret ?_) | (with_reducible refine x_then_ret ?_) | (with_reducible refine r_block ?_) | (with_reducible refine x_block ?_) | (with_reducible refine x_block_ret ?_) | (with_reducible refine r_exit ?_) | (with_reducible refine x_then_exit ?_) | (with_reducible refine x_block_here ?_) | (refine x_block_past rfl ?_) | (refine c_yes rfl (by omega) ?_) | (refine c_no rfl (by omega) ?_) | (refine c_no rfl (fun h => h rfl) ?_) | (refine r_cond_false rfl ?_) | (refine r_cond_true rfl ?_) | (refine r_cond_dec rfl (fun _ => ?_) (fun _ => ?_)) | (refine r_cond_true rfl ?_) | (refine r_cond_false rfl ?_) | (refine c_not rfl (fun _ => ?_) (fun _ => ?_)) | (refine r_off rfl rfl rfl ?_) | (refine q_guard rfl rfl (fun _ => ?_) (fun _ => ?_)) | (refine q_guardn rfl rfl (fun _ => ?_) (fun _ => ?_)))
        exact r_fin hT rfl ((m, (Aq, cq), hs) : CY) rfl rfl rfl trivial rfl ⟨hC, Keep.refl _ _⟩
      · have hmh : mhas m v.a = false := by rw [hk.1]; simpa using hin
        have hat4 : At u p4 0 (gCells V0 Aq ord.length cq) := at_of hC.out
        have hN1 := hN.snoc hlt hin
        have hl1 := hN1.len
        simp only [List.length_append, List.length_singleton] at hl1
        obtain ⟨bt, offt, A1, n1, c1, t, rfl, hd, hix, hm, hat, hc1, hp1⟩ := hC.tabs.elem hlt
        obtain rfl := hp1.1
        rw [go_new h4 hin hix] at hr ⊢
        repeat' (first | (refine r_pure hT rfl rfl rfl rfl ?_) | (refine r_new hT rfl rfl rfl rfl ?_) | (refine r_write hT rfl rfl rfl ?_) | (refine r_nil ?_) | (refine q_nil ?_) | (refine r_load hT hat3 rfl rfl rfl rfl rfl (Nat.add_zero _).symm rfl rfl rfl rfl rfl ?_) | (refine r_lookok iKeyOps v.a hC.map map88 zero3 rfl rfl rfl rfl rfl rfl rfl ?_) | (refine c_no rfl (fun h => h h4) ?_) | (refine c_true (by rw [hmh]; rfl) rfl ?_) | (refine r_load hT hat4 rfl rfl rfl rfl rfl rfl rfl rfl rfl rfl rfl ?_) | ((refine r_mapset iKeyOps v.a hC.map map88 rfl rfl (.inl rfl) rfl rfl rfl rfl (fun u1 hM1 hu1 => ?_) ; have hat4 : At u1 p4 0 (gCells V0 Aq ord.length cq) := at_of ((hu1 p4 (Ne.symm hC.ap.1)).trans hC.out))) | (refine r_build hT rfl rfl rfl rfl rfl rfl rfl rfl rfl ?_) | (refine r_bslice hT (ps := [(0, .tmp 34)]) rfl rfl rfl rfl rfl rfl rfl (by simp) rfl rfl (by decide) (fun b2 hb2 => ?_)) | ((refine r_append hT (cs := hs.flatMap Hd.v) (news := Hd.v ⟨none, 0, 0⟩) rfl rfl rfl rfl rfl rfl rfl rfl rfl rfl rfl (hC.ot.own.le fun b o hb ho => by rw [upd_ne (fun e => by subst e; rw [hu1 _ (fun e => by subst e; exact hC.ap.2.1 (.inl hb))] at hb2; rw [hb2] at ho; cases ho), hu1 b (fun e => by subst e; exact hC.ap.2.1 (.inl hb))]; exact ho) (sl_all (upd_here ..) rfl) (by intro x hx; simp [Hd.v] at hx; subst hx; rfl) (by dsimp only; omega) (by omega) (fun A' c' u3 hO3 hG3 => ?_) ; rw [← hcast] at hM1 ; obtain ⟨hc3, hC4, hK4⟩ := CSt_push hC hin hM1 hu1 hb2 hO3 hG3)) | (refine r_store hT rfl rfl rfl rfl rfl rfl rfl rfl rfl rfl hc3 (Nat.le_refl 5) ?_) | (refine r_arith rfl rfl rfl rfl rfl rfl rfl (by omega) ?_) | (with_reducible refine r_seq ?_) | (with_reducible refine x_then ?_) | (with_reducible refine r_region ?_) | (refine r_draw hM (by kernel_rfl) ?_) | (with_reducible refine r_skip ?_) | (with_reducible refine r_ret ?_) | (with_reducible refine x_then_ret ?_) | (with_reducible refine r_block ?_) | (with_reducible refine x_block ?_) | (with_reducible refine x_block_ret ?_) | (with_reducible refine r_exit ?_) | (with_reducible refine x_then_exit ?_) | (with_reducible refine x_block_here ?_) | (refine x_block_past rfl ?_) | (refine c_yes rfl (by omega) ?_) | (refine c_no rfl (by omega) ?_) | (refine c_no rfl (fun h => h rfl) ?_) | (refine r_cond_false rfl ?_) | (refine r_cond_true rfl ?_) | (refine r_cond_dec rfl (fun _ => ?_) (fun _ => ?_)) | (refine r_cond_true rfl ?_) | (refine r_cond_false rfl ?_) | (refine c_not rfl (fun _ => ?_) (fun _ => ?_)) | (refine r_off rfl rfl rfl ?_) | (refine q_guard rfl rfl (fun _ => ?_) (fun _ => ?_)) | (refine q_guardn rfl rfl (fun _ => ?_) (fun _ => ?_)))
        have hat1 := at_of (hC4.base _ _ hC4.c1)
        have hatt4 := hat.le hC4.base
        repeat' (first | (refine r_pure hT rfl rfl rfl rfl ?_) | (refine r_new hT rfl rfl rfl rfl ?_) | (refine r_write hT rfl rfl rfl ?_) | (refine r_nil ?_) | (refine q_nil ?_) | (refine r_load hT hat1 rfl rfl rfl rfl rfl rfl rfl rfl rfl rfl rfl ?_) | (refine r_index hT rfl rfl rfl rfl rfl rfl rfl rfl rfl hva.1 hva.2 ?_) | (refine r_load hT hatt4 rfl rfl rfl rfl rfl (Nat.add_zero _).symm rfl rfl rfl rfl rfl ?_) | (refine r_arith rfl rfl rfl rfl rfl rfl rfl (by omega) ?_) | (with_reducible refine r_seq ?_) | (with_reducible refine x_then ?_) | (with_reducible refine r_region ?_) | (refine r_draw hM (by kernel_rfl) ?_) | (with_reducible refine r_skip ?_) | (with_reducible refine r_ret ?_) | (with_reducible refine x_then_ret ?_) | (with_reducible refine r_block ?_) | (with_reducible refine x_block ?_) | (with_reducible refine x_block_ret ?_) | (with_reducible refine r_exit ?_) | (with_reducible refine x_then_exit ?_) | (with_reducible refine x_block_here ?_) | (refine x_block_past rfl ?_) | (refine c_yes rfl (by omega) ?_) | (refine c_no rfl (by omega) ?_) | (refine c_no rfl (fun h => h rfl) ?_) | (refine r_cond_false rfl ?_) | (refine r_cond_true rfl ?_) | (refine r_cond_dec rfl (fun _ => ?_) (fun _ => ?_)) | (refine r_cond_true rfl ?_) | (refine r_cond_false rfl ?_) | (refine c_not rfl (fun _ => ?_) (fun _ => ?_)) | (refine r_off rfl rfl rfl ?_) | (refine q_guard rfl rfl (fun _ => ?_) (fun _ => ?_)) | (refine q_guardn rfl rfl (fun _ => ?_) (fun _ => ?_)))
        have hinp : ∀ p ∈ t, In ts.length p.val := hA t hm
        have htl := hc t hm
        refine r_loop (γ := (Nat × Hp) × CY × (Option Addr × Nat)) (fun x => x.1.1 ≤ t.length ∧ CSt h0 x.1.2 p3 p4 p1 p5 g gr (some ⟨bt, offt, none⟩) c ts x.2.1.1 x.2.1.2.1.1 x.2.1.2.1.2 x.2.1.2.2 (tabs ++ [] :: cNew ts (ord ++ [v.a.toNat]) (goes ts f (ord ++ [v.a.toNat]) (t.take x.1.1))) (goes ts f (ord ++ [v.a.toNat]) (t.take x.1.1)) ∧
            Own x.1.2 x.2.2.1 x.1.1 x.2.2.2 61 8 (((t.take x.1.1).map (nPr (goes ts f (ord ++ [v.a.toNat]) (t.take x.1.1)))).flatMap Pr.c) ∧ (∀ b, blk x.2.2.1 = some b → h0 b = none ∧ ¬ CS g p4 x.2.1.2.1.1 x.2.1.2.2 b) ∧
            Keep u (CS g p4 Aq hs) x.1.2 (fun b => CS g p4 x.2.1.2.1.1 x.2.1.2.2 b ∨ blk x.2.2.1 = some b))
          (fun x => [(1, .v (ptr p3)), (2, .v (ptr p4)), (3, .v (ptr p1)), (4, .v (ptr p5)), (5, .p 5 0), (6, .p 6 0), (7, .v (.int .i64 ord.length)), (9, .v (.slice x.2.2.1 x.1.1 x.2.2.2)), (44, .v (.slice A1 t.length c1)), (45, .v (.int .i64 t.length)), (46, .v (.int .i64 x.1.1))])
          (fun _ => [(6, ⟨none, [.v (ZV.val (.int .i64)), .v (ZV.val (.int .i64)), .v (ZV.val .str), .v (ZV.val (.int .i64))], 48⟩), (5, ⟨none, v.sv, 48⟩)]) (fun x => x.1.2) (fun x => t.length - x.1.1)
          ((0, upd u3 p4 (.cells (gCells V0 A' (ord.length + 1) c').toArray 51 (0, 0))), (mset m (v.a.toNat : Int) (ord.length : Int), (A', c'), hs ++ [⟨none, 0, 0⟩]), (none, 0))
          ⟨Nat.zero_le _, by simpa [goes, cNew_refl] using hC4, own_nil, fun b hb => by simp [blk] at hb, fun x o hx hs' => ⟨(hK4 x o hx hs').1, fun hc => by
            rcases hc with hc | hc
            · exact (hK4 x o hx hs').2 hc
            · simp [blk] at hc⟩⟩
          (into rfl ⟨rfl, rfl, rfl, rfl, rfl, rfl, rfl, rfl, rfl, rfl, rfl, trivial⟩ ⟨rfl, rfl, trivial⟩ rfl rfl) ?_
        rintro ⟨⟨j, uj⟩, ⟨mj, ⟨Aj, cj⟩, hsj⟩, ⟨Ap, cp⟩⟩ ⟨hj, hCj, hOp, hap, hKj⟩
        dsimp only at *
        have hNj := goes_nm hA f (t.take j) _ (fun p hp => hinp p (List.mem_of_mem_take hp)) hN1
        have hpre := goes_pre ts f (t.take j) (ord ++ [v.a.toNat])
        have hlenj := hpre.length_le
        simp only [List.length_append, List.length_singleton] at hlenj
        obtain ⟨hclj, htgj⟩ := goes_closed hA f (t.take j) (ord ++ [v.a.toNat]) (fun p hp => hinp p (List.mem_of_mem_take hp)) hN1 (by simp; omega)
        by_cases hltj : j < t.length
        · obtain ⟨b2', off2, p, rfl, hd2, hix2, hm2, hat2⟩ := (hp1.le hCj.base).elem Pr.c_len hltj
          have hle0 := hCj.base
          have hat5 := at_of hCj.c5
          have hnext := goes_nPr hA (f := f) (o := ord ++ [v.a.toNat]) hix2
          repeat' (first | (refine r_pure hT rfl rfl rfl rfl ?_) | (refine r_new hT rfl rfl rfl rfl ?_) | (refine r_write hT rfl rfl rfl ?_) | (refine r_nil ?_) | (refine q_nil ?_) | (refine r_indexN hT rfl rfl rfl rfl rfl rfl rfl rfl rfl (by omega) ?_) | (refine r_load hT hat2 rfl rfl rfl rfl rfl (Nat.add_zero _).symm rfl rfl rfl rfl rfl ?_) | (refine r_load hT hat5 rfl rfl rfl rfl rfl (Nat.add_zero _).symm rfl rfl rfl rfl rfl ?_) | (refine r_many (id := 12) [0, 1, 2, 3, 4, 5] [] h0 hle0 hM (by kernel_rfl) rfl (by kernel_rfl) rfl rfl rfl (fun β0 => ?_)) | ((refine r_callV (numC h0 p3 p4 p1 p5 g gr (some ⟨bt, offt, none⟩) c ts hA hn hc f _ p.val _ uj mj Aj cj hsj _ hCj hNj (hinp p hm2) (by omega) rfl) rfl rfl rfl rfl rfl hcall rfl rfl (fun y uy hy => ?_) ; have hle0 := hy.1.base)) | (refine r_build hT rfl rfl rfl (ps := [(0, .tmp 52), (1, .tmp 56)]) rfl rfl rfl rfl rfl rfl ?_) | ((refine r_bslice hT (ps := [(0, .tmp 57)]) rfl rfl rfl rfl rfl rfl rfl (by simp) rfl rfl (by decide) (fun b3 hb3 => ?_) ; have hle0 := le_fresh (o := .cells (Pr.c (nPr (go ts f (goes ts f (ord ++ [v.a.toNat]) (t.take j)) p.val) p)).toArray 61 (0, 0)) hle0 hb3)) | ((refine r_append hT (cs := ((t.take j).map (nPr (goes ts f (ord ++ [v.a.toNat]) (t.take j)))).flatMap Pr.c) (news := Pr.c (nPr (go ts f (goes ts f (ord ++ [v.a.toNat]) (t.take j)) p.val) p)) rfl rfl rfl rfl rfl rfl rfl rfl rfl rfl rfl (hOp.le fun b o hb ho => by rw [upd_ne (fun e => by subst e; have := (hy.2 _ _ ho (hap _ hb).2).1; rw [hb3] at this; cases this)]; exact (hy.2 _ _ ho (hap _ hb).2).1) (sl_all (upd_here ..) rfl) pr_ones (by dsimp only; omega) (by omega) (fun A9 c9 u9 hO9 hG9 => ?_) ; have hle0 := (hG9 h0 hle0 (fun b hb => (hap b hb).1)).1)) | (refine m_keep hle0 ⟨rfl, rfl, rfl, trivial⟩ rfl rfl ?_) | (refine r_arith rfl rfl rfl rfl rfl rfl rfl (by omega) ?_) | (with_reducible refine r_seq ?_) | (with_reducible refine x_then ?_) | (with_reducible refine r_region ?_) | (with_reducible refine r_skip ?_) | (with_reducible refine r_ret ?_) | (with_reducible refine x_then_ret ?_) | (with_reducible refine r_block ?_) | (with_reducible refine x_block ?_) | (with_reducible refine x_block_ret ?_) | (with_reducible refine r_exit ?_) | (with_reducible refine x_then_exit ?_) | (with_reducible refine x_block_here ?_) | (refine x_block_past rfl ?_) | (refine c_yes rfl (by omega) ?_) | (refine c_no rfl (by omega) ?_) | (refine c_no rfl (fun h => h rfl) ?_) | (refine r_cond_false rfl ?_) | (refine r_cond_true rfl ?_) | (refine r_cond_dec rfl (fun _ => ?_) (fun _ => ?_)) | (refine r_cond_true rfl ?_) | (refine r_cond_false rfl ?_) | (refine c_not rfl (fun _ => ?_) (fun _ => ?_)) | (refine r_off rfl rfl rfl ?_) | (refine q_guard rfl rfl (fun _ => ?_) (fun _ => ?_)) | (refine q_guardn rfl rfl (fun _ => ?_) (fun _ => ?_)) | (refine s_nil ?_) | (with_reducible refine a_full ?_) | (refine m_step rfl rfl (List.cons_ne_nil _ _) ?_) | (refine allR_cons rfl ?_ ?_) | (exact allR_nil) | (refine m_end rfl rfl rfl ?_))
          obtain ⟨hyC, hyK⟩ := hy
          have k3 : ∀ x o, uy x = some o → blk Ap ≠ some x → u9 x = some o ∧ blk A9 ≠ some x := fun x o hx hb => hG9.keep x o (by rw [upd_ne (fun e => by subst e; rw [hb3] at hx; cases hx)]; exact hx) hb
          have hnc : ∀ b, CS g p4 y.2.1.1 y.2.2 b → blk Ap ≠ some b := fun b hb e => by
            obtain ⟨o, ho⟩ := Option.ne_none_iff_exists'.1 (hOp.live e)
            exact (hyK b o ho (hap b e).2).2 hb
          have hCn := CSt_keep hyC hle0 (fun b o hb ho => (k3 b o ho (hnc b hb)).1)
          have hpn := go_pre ts f (goes ts f (ord ++ [v.a.toNat]) (t.take j)) p.val
          refine x_round ((j + 1, u9), y, (A9, c9)) ⟨hltj, ?_, ?_, fun b hb => ⟨?_, fun hc => ?_⟩, fun x o hx hs' => ?_⟩ (by simp; omega) (into rfl ⟨rfl, rfl, rfl, rfl, rfl, rfl, rfl, rfl, rfl, rfl, rfl, trivial⟩ ⟨rfl, rfl, trivial⟩ rfl rfl)
          · show CSt h0 u9 _ _ _ _ _ _ _ _ _ _ _ _ _ (tabs ++ [] :: cNew ts (ord ++ [v.a.toNat]) (goes ts f (ord ++ [v.a.toNat]) (t.take (j + 1)))) (goes ts f (ord ++ [v.a.toNat]) (t.take (j + 1)))
            rw [hnext, cNew_trans hpre hpn hNj hclj]
            simpa using hCn
          · show Own u9 A9 (j + 1) c9 61 8 (((t.take (j + 1)).map (nPr (goes ts f (ord ++ [v.a.toNat]) (t.take (j + 1))))).flatMap Pr.c)
            rw [hnext, take_snoc hix2, List.map_append, List.flatMap_append, nPr_pre hpn htgj]
            simpa using hO9
          · exact (hG9 h0 (le_fresh hyC.base hb3) (fun b hb => (hap b hb).1)).2 b hb
          · obtain ⟨o, ho⟩ := CSt_live hyC hc
            exact (k3 b o ho (hnc b hc)).2 hb
          · obtain ⟨d1, d2⟩ := hKj x o hx hs'
            simp only [not_or] at d2
            obtain ⟨d3, d4⟩ := hyK x o d1 d2.1
            obtain ⟨d5, d6⟩ := k3 x o d3 d2.2
            exact ⟨d5, fun hc => by
              rcases hc with hc | hc
              · exact d4 hc
              · exact d6 hc⟩
        · obtain rfl : j = t.length := by omega
          rw [List.take_length] at hCj hOp hNj hpre hlenj hclj htgj
          have hat4j := at_of hCj.out
          obtain ⟨bj, offj, rfl⟩ := own_some hCj.ot.own (i := ord.length) (by omega)
          have hnum := hC.ot.num
          have hput := hCj.ot.own.len
          repeat' (first | (refine r_pure hT rfl rfl rfl rfl ?_) | (refine r_new hT rfl rfl rfl rfl ?_) | (refine r_write hT rfl rfl rfl ?_) | (refine r_nil ?_) | (refine q_nil ?_) | (refine r_load hT hat4j rfl rfl rfl rfl rfl rfl rfl rfl rfl rfl rfl ?_) | (refine r_indexN hT rfl rfl rfl rfl rfl rfl rfl rfl rfl (by omega) ?_) | (refine r_store_own (o := ord.length * 1) hT hCj.ot.own rfl rfl rfl rfl rfl rfl rfl rfl rfl rfl rfl (by rw [hput]; show ord.length * 1 + 1 ≤ _ * 1; omega) (fun u9 hO9 hu9 => ?_)) | (refine r_arith rfl rfl rfl rfl rfl rfl rfl (by omega) ?_) | (with_reducible refine r_seq ?_) | (with_reducible refine x_then ?_) | (with_reducible refine r_region ?_) | (refine r_draw hM (by kernel_rfl) ?_) | (with_reducible refine r_skip ?_) | (with_reducible refine r_ret ?_) | (with_reducible refine x_then_ret ?_) | (with_reducible refine r_block ?_) | (with_reducible refine x_block ?_) | (with_reducible refine x_block_ret ?_) | (with_reducible refine r_exit ?_) | (with_reducible refine x_then_exit ?_) | (with_reducible refine x_block_here ?_) | (refine x_block_past rfl ?_) | (refine c_yes rfl (by omega) ?_) | (refine c_no rfl (by omega) ?_) | (refine c_no rfl (fun h => h rfl) ?_) | (refine r_cond_false rfl ?_) | (refine r_cond_true rfl ?_) | (refine r_cond_dec rfl (fun _ => ?_) (fun _ => ?_)) | (refine r_cond_true rfl ?_) | (refine r_cond_false rfl ?_) | (refine c_not rfl (fun _ => ?_) (fun _ => ?_)) | (refine r_off rfl rfl rfl ?_) | (refine q_guard rfl rfl (fun _ => ?_) (fun _ => ?_)) | (refine q_guardn rfl rfl (fun _ => ?_) (fun _ => ?_)))
          rw [hnum] at hO9
          obtain ⟨hCf, hKf⟩ := CSt_put (y := ⟨Ap, t.length, cp⟩) (pre := tabs) hCj (by simp) hO9 hu9 hOp hap
          have hidx : (goes ts f (ord ++ [v.a.toNat]) t).idxOf v.a.toNat = ord.length := by
            rw [idx_pre hpre (by simp), List.idxOf_append, if_neg hin]; simp
          simp only [ren, if_pos h4, hidx] at hr
          subst hr
          rw [cNew_new hpre hix]
          exact r_fin hT rfl ((mj, (some ⟨bj, offj, none⟩, cj), hsj.set tabs.length ⟨Ap, t.length, cp⟩) : CY) rfl rfl rfl trivial rfl ⟨hCf, hKj.trans hKf⟩
    · have hg := go_leaf (ts := ts) (f := f + 1) (ord := ord) h4
      rw [hg, cNew_refl, List.append_nil]
      rw [hg] at hr
      have hr' : r = v := by rw [hr, ren, if_neg h4]
      subst hr'
      repeat' (first | (refine r_pure hT rfl rfl rfl rfl ?_) | (refine r_new hT rfl rfl rfl rfl ?_) | (refine r_write hT rfl rfl rfl ?_) | (refine r_nil ?_) | (refine q_nil ?_) | (refine c_yes rfl h4 ?_) | (refine r_arith rfl rfl rfl rfl rfl rfl rfl (by omega) ?_) | (with_reducible refine r_seq ?_) | (with_reducible refine x_then ?_) | (with_reducible refine r_region ?_) | (refine r_draw hM (by kernel_rfl) ?_) | (with_reducible refine r_skip ?_) | (with_reducible refine r_ret ?_) | (with_reducible refine x_then_ret ?_) | (with_reducible refine r_block ?_) | (with_reducible refine x_block ?_) | (with_reducible refine x_block_ret ?_) | (with_reducible refine r_exit ?_) | (with_reducible refine x_then_exit ?_) | (with_reducible refine x_block_here ?_) | (refine x_block_past rfl ?_) | (refine c_yes rfl (by omega) ?_) | (refine c_no rfl (by omega) ?_) | (refine c_no rfl (fun h => h rfl) ?_) | (refine r_cond_false rfl ?_) | (refine r_cond_true rfl ?_) | (refine r_cond_dec rfl (fun _ => ?_) (fun _ => ?_)) | (refine r_cond_true rfl ?_) | (refine r_cond_false rfl ?_) | (refine c_not rfl (fun _ => ?_) (fun _ => ?_)) | (refine r_off rfl rfl rfl ?_) | (refine q_guard rfl rfl (fun _ => ?_) (fun _ => ?_)) | (refine q_guardn rfl rfl (fun _ => ?_) (fun _ => ?_)))
      exact r_fin hT rfl ((m, (Aq, cq), hs) : CY) rfl rfl rfl trivial rfl ⟨hC, Keep.refl _ _⟩
end Go.Proofs.YtkamfnmbidnhdaaDoor
