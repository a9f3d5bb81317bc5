/- What impl.Canon's walk holds. -/
import Derived.Test.YtkamfnmbidnhdaaSy1Y
import Derived.Test.YtkamfnmbidnhdaaSy1O
namespace Go.Proofs.Ytkamfnmbidnhdaa
open Go.Sy
set_option maxRecDepth 100000
set_option maxHeartbeats 4000000
set_option linter.unusedVariables false
set_option linter.unusedSimpArgs false
def gCells (v : V) (A : Option Addr) (n c : Nat) : List Value := [.int .i64 v.k, .int .i64 v.n, .string v.s, .int .i64 v.a, .slice A n c]
def ptr (b : Nat) : Value := .pointer (some ⟨b, 0, none⟩)
/-- The blocks of the tables. -/
def OS (Aq : Option Addr) (hs : List Hd) : Nat → Prop := fun b => blk Aq = some b ∨ ∃ x ∈ hs, blk x.A = some b
def CS (g p4 : Nat) (Aq : Option Addr) (hs : List Hd) : Nat → Prop := fun b => b = g ∨ b = p4 ∨ OS Aq hs b
structure CSt (h0 u : Hp) (p3 p4 p1 p5 g : Nat) (gr : V) (A : Option Addr) (c : Nat) (ts : List (List Pr)) (m : List (Int × Int)) (Aq : Option Addr) (cq : Nat) (hs : List Hd) (tabs : List (List Pr)) (ord : List Nat) : Prop where
  map : MAt Try.prog iKey u g m
  keys : ∀ a : Nat, mhas m (a : Int) = decide (a ∈ ord) ∧ (a ∈ ord → mget m (a : Int) = (ord.idxOf a : Int))
  out : u p4 = some (.cells (gCells V0 Aq ord.length cq).toArray 48 (0, 0))
  ot : OT u 80 82 Aq ord.length cq hs tabs
  base : Le h0 u
  off : ∀ b, CS g p4 Aq hs b → h0 b = none
  c3 : h0 p3 = some (.cells [Value.map (some g)].toArray 88 (0, 0))
  c1 : h0 p1 = some (.cells (gCells gr A ts.length c).toArray 48 (0, 0))
  c5 : h0 p5 = some (.cells [Value.func (.func 63) ⟨[]⟩ ⟨[ptr p3, ptr p4, ptr p1, ptr p5]⟩].toArray 89 (0, 0))
  ap : g ≠ p4 ∧ ¬ OS Aq hs g ∧ ¬ OS Aq hs p4
  tabs : Tabs h0 A ts.length ts
theorem at_of {u : Hp} {b : Nat} {cs : List Value} {t : TypeId} {fr : Nat × Nat} (h : u b = some (.cells cs.toArray t fr)) : At u b 0 cs := ⟨_, _, _, h, fun j v hj => by simpa using hj⟩
theorem orows_live {u : Hp} {eT eP : TypeId} {Aq : Option Addr} {n cq : Nat} {hs : List Hd} {tabs : List (List Pr)} (h : OT u eT eP Aq n cq hs tabs) {b : Nat} (hb : OS Aq hs b) : u b ≠ none := by
  rcases hb with hb | ⟨x, hx, hb⟩
  · exact h.own.live hb
  · exact h.rows.live hx hb
/-- The row of tables grows by an empty one. -/
theorem OT_push {u u' : Hp} {Aq A' : Option Addr} {n cq c' : Nat} {hs : List Hd} {tabs : List (List Pr)} (h : OT u 80 82 Aq n cq hs tabs) (hO : Own u' A' (n + 1) c' 80 1 (hs.flatMap Hd.v ++ Hd.v ⟨none, 0, 0⟩))
    (hk : ∀ b o, u b = some o → blk Aq ≠ some b → u' b = some o ∧ blk A' ≠ some b) : OT u' 80 82 A' (n + 1) c' (hs ++ [⟨none, 0, 0⟩]) (tabs ++ [[]]) := by
  have hne : ∀ b, (∃ x ∈ hs, blk x.A = some b) → blk Aq ≠ some b := fun b ⟨x, hx, hb⟩ e => by
    obtain ⟨i, hi, ex⟩ := List.getElem_of_mem hx
    exact (h.rows.apart i x b (by rw [List.getElem?_eq_getElem hi, ex]) hb).1 e
  have hl : ∀ b o, (∃ x ∈ hs, blk x.A = some b) → u b = some o → u' b = some o := fun b o hb ho => (hk b o ho (hne b hb)).1
  refine ⟨by have := h.num; simp; omega, by rw [List.flatMap_append]; simpa using hO, ?_⟩
  have h1 : ORows u 82 (blk A') hs tabs := ⟨h.rows.len, h.rows.rows, fun i x b hx hb => ⟨fun e => by
    have hxm : x ∈ hs := List.mem_of_getElem? hx
    cases ho : u b with
    | none => exact absurd ho (h.rows.live hxm hb)
    | some o => exact (hk b o ho (hne b ⟨x, hxm, hb⟩)).2 e, (h.rows.apart i x b hx hb).2⟩⟩
  exact h1.snoc hl (y := ⟨none, 0, 0⟩) (t := []) rfl own_nil (fun b hb => by simp [blk] at hb)
/-- A header is set: an empty table becomes a full one. -/
theorem OT_put {u u' : Hp} {b off n cq : Nat} {hs : List Hd} {pre post : List (List Pr)} {t : List Pr} {y : Hd} (h : OT u 80 82 (some ⟨b, off, none⟩) n cq hs (pre ++ [] :: post)) (hy : y.n = t.length)
    (hO : Own u' (some ⟨b, off, none⟩) n cq 80 1 (setL (hs.flatMap Hd.v) (pre.length * 1) (Hd.v y))) (hu : ∀ x, x ≠ b → u' x = u x) (hOy : Own u y.A y.n y.c 82 8 (t.flatMap Pr.c)) (hap : ∀ x, blk y.A = some x → ¬ OS (some ⟨b, off, none⟩) hs x) :
    OT u' 80 82 (some ⟨b, off, none⟩) n cq (hs.set pre.length y) (pre ++ t :: post) := by
  have hlen := h.rows.len
  simp at hlen
  have hpl : pre.length < hs.length := by omega
  have hfl : setL (hs.flatMap Hd.v) (pre.length * 1) (Hd.v y) = (hs.set pre.length y).flatMap Hd.v := by
    rw [Nat.mul_one]
    have e : ∀ l : List Hd, l.flatMap Hd.v = l.map fun x => Value.slice x.A x.n x.c := fun l => by
      induction l with
      | nil => rfl
      | cons a r ih => simp [Hd.v, ih]
    rw [e, e, List.map_set]
    apply List.ext_getElem?
    intro j
    rw [setL_get _ _ _ (by simp [Hd.v]; omega), List.getElem?_set]
    by_cases hj : j = pre.length
    · subst hj
      rw [if_pos (by simp [Hd.v]), if_pos rfl, if_pos (by simpa using hpl)]
      simp [Hd.v]
    · rw [if_neg (by simp [Hd.v]; omega), if_neg (fun e => hj e.symm)]
  have hkeep : ∀ x o, x ≠ b → u x = some o → u' x = some o := fun x o hx ho => by rw [hu x hx]; exact ho
  refine ⟨by have := h.num; simp at this ⊢; omega, by rw [← hfl]; exact hO, ⟨by simp [hlen], fun i x s hx hs' => ?_, fun i x d hx hd => ?_⟩⟩
  · by_cases hi : i = pre.length
    · subst hi
      rw [List.getElem?_set, if_pos rfl, if_pos hpl] at hx
      have e := Option.some.inj hx; subst e
      simp at hs'; subst hs'
      exact ⟨hy, hOy.le fun d o hd ho => hkeep d o (fun e => hap d hd (.inl (by rw [e]; rfl))) ho⟩
    · rw [List.getElem?_set, if_neg (fun e => hi e.symm)] at hx
      have hs2 : (pre ++ [] :: post)[i]? = some s := by
        rw [List.getElem?_append] at hs' ⊢
        split
        · rename_i hlt; rw [if_pos hlt] at hs'; exact hs'
        · rename_i hlt; rw [if_neg hlt] at hs'
          rw [List.getElem?_cons] at hs' ⊢
          have : i - pre.length ≠ 0 := by omega
          rw [if_neg this] at hs' ⊢; exact hs'
      obtain ⟨g1, g2⟩ := h.rows.rows i x s hx hs2
      exact ⟨g1, g2.le fun d o hd ho => hkeep d o (fun e => (h.rows.apart i x d hx hd).1 (by rw [e]; rfl)) ho⟩
  · by_cases hi : i = pre.length
    · subst hi
      rw [List.getElem?_set, if_pos rfl, if_pos hpl] at hx
      have e := Option.some.inj hx; subst e
      have hn := hap d hd
      refine ⟨fun e => hn (.inl e), fun j z hz hzd => ?_⟩
      rw [List.getElem?_set] at hz
      split at hz
      · assumption
      · exact absurd (.inr ⟨z, List.mem_of_getElem? hz, hzd⟩) hn
    · rw [List.getElem?_set, if_neg (fun e => hi e.symm)] at hx
      obtain ⟨g1, g2⟩ := h.rows.apart i x d hx hd
      refine ⟨g1, fun j z hz hzd => ?_⟩
      rw [List.getElem?_set] at hz
      split at hz
      · rename_i e
        have e := Option.some.inj hz; subst e
        exact absurd (.inr ⟨x, List.mem_of_getElem? hx, hd⟩) (hap d hzd)
      · exact g2 j z hz hzd
/-- One table more is met. -/
theorem CSt_push {h0 u u1 u3 : Hp} {p3 p4 p1 p5 g : Nat} {gr : V} {A : Option Addr} {c : Nat} {ts : List (List Pr)} {m : List (Int × Int)} {Aq A' : Option Addr} {cq c' : Nat} {hs : List Hd} {tabs : List (List Pr)} {ord : List Nat} {a b2 : Nat} {o2 : Obj}
    (h : CSt h0 u p3 p4 p1 p5 g gr A c ts m Aq cq hs tabs ord) (hn : a ∉ ord) (hM : MAt Try.prog iKey u1 g (mset m (a : Int) (ord.length : Int))) (hu1 : ∀ x, x ≠ g → u1 x = u x) (hb2 : u1 b2 = none)
    (hO : Own u3 A' (ord.length + 1) c' 80 1 (hs.flatMap Hd.v ++ Hd.v ⟨none, 0, 0⟩)) (hG : Grown (upd u1 b2 o2) u3 Aq A') :
    u3 p4 = some (.cells (gCells V0 Aq ord.length cq).toArray 48 (0, 0)) ∧
    CSt h0 (upd u3 p4 (.cells (gCells V0 A' (ord.length + 1) c').toArray 48 (0, 0))) p3 p4 p1 p5 g gr A c ts (mset m (a : Int) (ord.length : Int)) A' c' (hs ++ [⟨none, 0, 0⟩]) (tabs ++ [[]]) (ord ++ [a]) ∧
    Keep u (CS g p4 Aq hs) (upd u3 p4 (.cells (gCells V0 A' (ord.length + 1) c').toArray 48 (0, 0))) (CS g p4 A' (hs ++ [⟨none, 0, 0⟩])) := by
  have hK := hG.keep
  have k1 : ∀ x o, u1 x = some o → blk Aq ≠ some x → u3 x = some o ∧ blk A' ≠ some x := fun x o hx hb => hK x o (by rw [upd_ne (fun e => by subst e; rw [hb2] at hx; cases hx)]; exact hx) hb
  obtain ⟨og, hg1, hg2⟩ := hM
  obtain ⟨e1, e2⟩ := k1 g og hg1 (fun e => h.ap.2.1 (.inl e))
  have ho1 := (hu1 p4 (Ne.symm h.ap.1)).trans h.out
  obtain ⟨e3, e4⟩ := k1 p4 _ ho1 (fun e => h.ap.2.2 (.inl e))
  have hos : ∀ b, OS A' (hs ++ [⟨none, 0, 0⟩]) b → blk A' = some b ∨ ∃ x ∈ hs, blk x.A = some b := fun b hb => by
    rcases hb with hb | ⟨x, hx, hb⟩
    · exact .inl hb
    · rcases List.mem_append.1 hx with hx | hx
      · exact .inr ⟨x, hx, hb⟩
      · rw [List.mem_singleton] at hx; subst hx; simp [blk] at hb
  have kk : Keep u (CS g p4 Aq hs) (upd u3 p4 (.cells (gCells V0 A' (ord.length + 1) c').toArray 48 (0, 0))) (CS g p4 A' (hs ++ [⟨none, 0, 0⟩])) := fun x o hx hs' => by
    simp only [CS, OS, not_or] at hs'
    obtain ⟨d1, d2⟩ := k1 x o (by rw [hu1 x hs'.1]; exact hx) hs'.2.2.1
    refine ⟨by rw [upd_ne hs'.2.1]; exact d1, fun hc => ?_⟩
    rcases hc with hc | hc | hc
    · exact hs'.1 hc
    · exact hs'.2.1 hc
    · rcases hos x hc with hc | hc
      · exact d2 hc
      · exact hs'.2.2.2 hc
  obtain ⟨f1, f2⟩ := kk.le h.base h.off
  have hot : OT u3 80 82 A' (ord.length + 1) c' (hs ++ [⟨none, 0, 0⟩]) (tabs ++ [[]]) := OT_push (u := u1) (h.ot.keep fun b o hb ho => by rw [hu1 b (fun e => by subst e; exact h.ap.2.1 hb)]; exact ho) hO k1
  refine ⟨e3, ⟨⟨og, by rw [upd_ne h.ap.1]; exact e1, hg2⟩, fun x => ?_, by rw [upd_here]; simp, ?_, f1, f2, h.c3, h.c1, h.c5, ⟨h.ap.1, fun hc => ?_, fun hc => ?_⟩, h.tabs⟩, kk⟩
  · have hca : ((x : Int) = (a : Int)) ↔ x = a := by omega
    rw [mhas_mset, mget_mset, (h.keys x).1]
    refine ⟨?_, fun hx => ?_⟩
    · rw [Bool.eq_iff_iff]; simp [hca, or_comm]
    · by_cases hxa : x = a
      · subst hxa
        rw [if_pos rfl, List.idxOf_append, if_neg hn]; simp
      · rw [if_neg (fun e => hxa (hca.1 e))]
        have hxo : x ∈ ord := by simpa [hxa] using hx
        rw [(h.keys x).2 hxo, List.idxOf_append, if_pos hxo]
  · have hl : (ord ++ [a]).length = ord.length + 1 := by simp
    rw [hl]
    refine hot.keep fun b o hb ho => ?_
    rw [upd_ne (fun e => ?_)]
    · exact ho
    · subst e
      rcases hos b hb with hc | hc
      · exact e4 hc
      · exact h.ap.2.2 (.inr hc)
  · rcases hos g hc with hc | hc
    · exact e2 hc
    · exact h.ap.2.1 (.inr hc)
  · rcases hos p4 hc with hc | hc
    · exact e4 hc
    · exact h.ap.2.2 (.inr hc)
theorem CSt_live {h0 u : Hp} {p3 p4 p1 p5 g : Nat} {gr : V} {A : Option Addr} {c : Nat} {ts : List (List Pr)} {m : List (Int × Int)} {Aq : Option Addr} {cq : Nat} {hs : List Hd} {tabs : List (List Pr)} {ord : List Nat}
    (h : CSt h0 u p3 p4 p1 p5 g gr A c ts m Aq cq hs tabs ord) {b : Nat} (hb : CS g p4 Aq hs b) : ∃ o, u b = some o := by
  rcases hb with rfl | rfl | hb
  · obtain ⟨o, h1, _⟩ := h.map; exact ⟨o, h1⟩
  · exact ⟨_, h.out⟩
  · exact Option.ne_none_iff_exists'.1 (orows_live h.ot hb)
theorem CSt_keep {h0 u u' : Hp} {p3 p4 p1 p5 g : Nat} {gr : V} {A : Option Addr} {c : Nat} {ts : List (List Pr)} {m : List (Int × Int)} {Aq : Option Addr} {cq : Nat} {hs : List Hd} {tabs : List (List Pr)} {ord : List Nat}
    (h : CSt h0 u p3 p4 p1 p5 g gr A c ts m Aq cq hs tabs ord) (hb : Le h0 u') (hu : ∀ b o, CS g p4 Aq hs b → u b = some o → u' b = some o) : CSt h0 u' p3 p4 p1 p5 g gr A c ts m Aq cq hs tabs ord := by
  obtain ⟨o, h1, h2⟩ := h.map
  exact ⟨⟨o, hu _ _ (.inl rfl) h1, h2⟩, h.keys, hu _ _ (.inr (.inl rfl)) h.out, h.ot.keep fun b o hb ho => hu b o (.inr (.inr hb)) ho, hb, h.off, h.c3, h.c1, h.c5, h.ap, h.tabs⟩
/-- The table that was empty is put in. -/
theorem CSt_put {h0 u u' : Hp} {p3 p4 p1 p5 g : Nat} {gr : V} {A : Option Addr} {c : Nat} {ts : List (List Pr)} {m : List (Int × Int)} {b off cq : Nat} {hs : List Hd} {pre post : List (List Pr)} {t : List Pr} {y : Hd} {ord : List Nat}
    (h : CSt h0 u p3 p4 p1 p5 g gr A c ts m (some ⟨b, off, none⟩) cq hs (pre ++ [] :: post) ord) (hy : y.n = t.length)
    (hO : Own u' (some ⟨b, off, none⟩) ord.length cq 80 1 (setL (hs.flatMap Hd.v) (pre.length * 1) (Hd.v y))) (hu : ∀ x, x ≠ b → u' x = u x) (hOy : Own u y.A y.n y.c 82 8 (t.flatMap Pr.c)) (hap : ∀ x, blk y.A = some x → h0 x = none ∧ ¬ CS g p4 (some ⟨b, off, none⟩) hs x) :
    CSt h0 u' p3 p4 p1 p5 g gr A c ts m (some ⟨b, off, none⟩) cq (hs.set pre.length y) (pre ++ t :: post) ord ∧
    Keep u (fun x => CS g p4 (some ⟨b, off, none⟩) hs x ∨ blk y.A = some x) u' (CS g p4 (some ⟨b, off, none⟩) (hs.set pre.length y)) := by
  have hos : ∀ x, OS (some ⟨b, off, none⟩) (hs.set pre.length y) x → OS (some ⟨b, off, none⟩) hs x ∨ blk y.A = some x := fun x hx => by
    rcases hx with hx | ⟨z, hz, hx⟩
    · exact .inl (.inl hx)
    · rcases List.mem_or_eq_of_mem_set hz with hz | rfl
      · exact .inl (.inr ⟨z, hz, hx⟩)
      · exact .inr hx
  have hcs : ∀ x, CS g p4 (some ⟨b, off, none⟩) (hs.set pre.length y) x → CS g p4 (some ⟨b, off, none⟩) hs x ∨ blk y.A = some x := fun x hx => by
    rcases hx with hx | hx | hx
    · exact .inl (.inl hx)
    · exact .inl (.inr (.inl hx))
    · rcases hos x hx with hx | hx
      · exact .inl (.inr (.inr hx))
      · exact .inr hx
  have hbo : OS (some ⟨b, off, none⟩) hs b := .inl rfl
  have hb0 : h0 b = none := h.off b (.inr (.inr hbo))
  have hgb : g ≠ b := fun e => h.ap.2.1 (e ▸ hbo)
  have hpb : p4 ≠ b := fun e => h.ap.2.2 (e ▸ hbo)
  obtain ⟨o, h1, h2⟩ := h.map
  refine ⟨⟨⟨o, (hu g hgb).trans h1, h2⟩, h.keys, (hu p4 hpb).trans h.out, OT_put h.ot hy hO hu hOy (fun x hx hc => (hap x hx).2 (.inr (.inr hc))), fun x o hx => ?_, fun x hx => ?_, h.c3, h.c1, h.c5, ⟨h.ap.1, fun hc => ?_, fun hc => ?_⟩, h.tabs⟩, fun x o hx hs' => ?_⟩
  · rw [hu x (fun e => by subst e; rw [hb0] at hx; cases hx)]; exact h.base x o hx
  · rcases hcs x hx with hx | hx
    · exact h.off x hx
    · exact (hap x hx).1
  · rcases hos g hc with hc | hc
    · exact h.ap.2.1 hc
    · exact (hap g hc).2 (.inl rfl)
  · rcases hos p4 hc with hc | hc
    · exact h.ap.2.2 hc
    · exact (hap p4 hc).2 (.inr (.inl rfl))
  · simp only [not_or] at hs'
    refine ⟨by rw [hu x (fun e => by subst e; exact hs'.1 (.inr (.inr hbo)))]; exact hx, fun hc => ?_⟩
    rcases hcs x hc with hc | hc
    · exact hs'.1 hc
    · exact hs'.2 hc
end Go.Proofs.Ytkamfnmbidnhdaa
