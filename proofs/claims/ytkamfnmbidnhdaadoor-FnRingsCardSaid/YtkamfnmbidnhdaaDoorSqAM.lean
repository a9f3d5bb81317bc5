/- The laws' functions over rows of whole numbers: sizes, copies, comparisons of what is alike, marks. -/
import Derived.Test.YtkamfnmbidnhdaaDoorSqAL
import Derived.Test.YtkamfnmbidnhdaaDoorSqAF
import Derived.Test.YtkamfnmbidnhdaaDoorSqAH
import Derived.Test.YtkamfnmbidnhdaaDoorSqAK
import Derived.Test.YtkamfnmbidnhdaaDoorSqAJ
import Derived.Test.YtkamfnmbidnhdaaDoorSqAI
import Derived.Test.YtkamfnmbidnhdaaDoorSqAC
set_option linter.unusedVariables false
set_option linter.unusedSimpArgs false
set_option linter.unusedSectionVars false
namespace Go.Proofs.YtkamfnmbidnhdaaDoor
open Go.Sy
set_option maxRecDepth 100000
set_option maxHeartbeats 4000000
set_option linter.unusedVariables false
end Go.Proofs.YtkamfnmbidnhdaaDoor
namespace Go.Proofs.YtkamfnmbidnhdaaDoor
open Go.Sy
set_option maxRecDepth 100000
set_option maxHeartbeats 4000000
set_option linter.unusedVariables false
end Go.Proofs.YtkamfnmbidnhdaaDoor
namespace Go.Proofs.YtkamfnmbidnhdaaDoor
open Go.Sy
set_option maxRecDepth 100000
set_option maxHeartbeats 4000000
set_option linter.unusedVariables false
/-! eq.. of what is alike -/
end Go.Proofs.YtkamfnmbidnhdaaDoor
namespace Go.Proofs.YtkamfnmbidnhdaaDoor
open Go.Sy
set_option maxRecDepth 100000
set_option maxHeartbeats 4000000
set_option linter.unusedVariables false
end Go.Proofs.YtkamfnmbidnhdaaDoor
namespace Go.Proofs.YtkamfnmbidnhdaaDoor
open Go.Sy
set_option maxRecDepth 100000
set_option maxHeartbeats 4000000
set_option linter.unusedVariables false
def cnt : List (List Pr) → Nat
  | [] => 0
  | t :: r => t.length + cnt r
end Go.Proofs.YtkamfnmbidnhdaaDoor
namespace Go.Sy
end Go.Sy
namespace Go.Proofs.YtkamfnmbidnhdaaDoor
open Go.Sy
set_option maxRecDepth 100000
set_option maxHeartbeats 4000000
set_option linter.unusedVariables false
set_option linter.unusedSimpArgs false
theorem cnt_le : ∀ (ts : List (List Pr)) (m : Nat), (∀ t ∈ ts, t.length ≤ m) → cnt ts ≤ ts.length * m
  | [], m, _ => by simp [cnt]
  | t :: r, m, h => by
    have h1 := cnt_le r m (fun s hs => h s (.tail _ hs))
    have h2 := h t (.head _)
    simp only [cnt, List.length_cons, Nat.add_mul]; omega
end Go.Proofs.YtkamfnmbidnhdaaDoor
namespace Go.Proofs.YtkamfnmbidnhdaaDoor
open Go.Sy
set_option maxRecDepth 100000
set_option maxHeartbeats 4000000
set_option linter.unusedVariables false
set_option linter.unusedSimpArgs false
end Go.Proofs.YtkamfnmbidnhdaaDoor
/- The laws' functions over rows of whole numbers: marks. -/
namespace Go.Proofs.YtkamfnmbidnhdaaDoor
open Go.Sy
set_option maxRecDepth 100000
set_option maxHeartbeats 4000000
set_option linter.unusedVariables false
set_option linter.unusedSimpArgs false
end Go.Proofs.YtkamfnmbidnhdaaDoor
/- Classes, of both; FnExactClasses, the law's walk. No condition. -/
namespace Go.Proofs.YtkamfnmbidnhdaaDoor
open Go.Sy
set_option maxRecDepth 100000
set_option maxHeartbeats 4000000
set_option linter.unusedVariables false
set_option linter.unusedSimpArgs false
theorem gok_cl {v : V} {ts : List (List Pr)} (h : GOk v ts) (hr : RngG v ts) : ClOk ts := ⟨Nat.le_trans h.1 (by decide), h.2.2, (gok_fit h hr).2.1⟩
end Go.Proofs.YtkamfnmbidnhdaaDoor
/- spec.Same. No condition. -/
namespace Go.Proofs.YtkamfnmbidnhdaaDoor
open Go.Sy
set_option maxRecDepth 100000
set_option maxHeartbeats 4000000
set_option linter.unusedVariables false
set_option linter.unusedSimpArgs false
/-- What Same answers. -/
def sameB (v v' : V) (a b : List (List Pr)) : Bool := if GOk v a ∧ GOk v' b then alike (cls ((both a b).map srt)) v (shV a.length v') else false
theorem both_len (a b : List (List Pr)) : (both a b).length = a.length + b.length := by simp [both]
theorem clsB_len {v v' : V} {a b : List (List Pr)} (hg : GOk v a) (hg' : GOk v' b) (hr : RngG v a) (hr' : RngG v' b) : ClOk (both a b) ∧ (cls ((both a b).map srt)).length = a.length + b.length := by
  have h1 := cl_both (gok_cl hg hr) (gok_cl hg' hr') hg.1 hg'.1
  exact ⟨h1, by rw [cls_len _ h1.inSrt, List.length_map, both_len]⟩
theorem gok_rows {v : V} {ts : List (List Pr)} (h : GOk v ts) : (∀ t ∈ ts, t.length ≤ 1000) ∧ ∀ t ∈ ts, ∀ p ∈ t, In ts.length p.val :=
  ⟨fun t ht => Nat.le_trans (h.2.2 t ht).1 (by decide), (gok_in h).1⟩
end Go.Proofs.YtkamfnmbidnhdaaDoor
/- spec.Shrink. No condition. -/
namespace Go.Proofs.YtkamfnmbidnhdaaDoor
open Go.Sy
set_option maxRecDepth 100000
set_option maxHeartbeats 8000000
set_option linter.unusedVariables false
set_option linter.unusedSimpArgs false
def shT (C : List Nat) (ts : List (List Pr)) : List (List Pr) := ts.map fun t => lookT C (srt t)
/-- What Shrink answers. -/
def kV (v : V) (ts : List (List Pr)) : V := if GOk v ts then cV (lk (cls (ts.map srt)) v) (shT (cls (ts.map srt)) ts) else V0
def kT (v : V) (ts : List (List Pr)) : List (List Pr) := if GOk v ts then cT (lk (cls (ts.map srt)) v) (shT (cls (ts.map srt)) ts) else []
theorem gok_shT {v : V} {ts : List (List Pr)} (hg : GOk v ts) : GOk (lk (cls (ts.map srt)) v) (shT (cls (ts.map srt)) ts) := by
  have h1 := (cls_fix (allin_srt (gok_in hg).1)).1
  rw [List.length_map] at h1
  exact gok_look hg (good_cin h1)
end Go.Proofs.YtkamfnmbidnhdaaDoor
/- The classes of the tables of rings, in plain words. No program in sight; no condition. -/
namespace Go.Sy
set_option linter.unusedVariables false
def tb (x : Nat) : V := ⟨4, 0, ⟨#[]⟩, (x : Int)⟩
theorem lk_tb (c : List Nat) (x : Nat) : lk c (tb x) = tb (at0 c x) := by
  unfold lk at0
  rw [if_pos (show (tb x).k = 4 from rfl)]
  simp only [tb]
  have : ((x : Nat) : Int).toNat = x := by omega
  rw [this]
theorem nxt_const {st : List (List Pr)} {c : List Nat} (h : ∀ t ∈ st, ∀ t' ∈ st, keyS c t = keyS c t') : nxt st c = List.replicate st.length 0 := by
  refine good_ext (nxt_len st c) (by simp) fun i hi => ?_
  have h0 : 0 < st.length := by omega
  have e := (nxt_iff (c := c) hi h0).2 (h _ (List.getElem_mem hi) _ (List.getElem_mem h0))
  have g := (good_nxt st c).le 0 h0
  rw [at0_zero, e]
  omega
/-- Tables that have one table each, at one key: all are the same. -/
theorem cls_ring {st : List (List Pr)} {K : V} (h : ∀ t ∈ st, ∃ x, t = [⟨K, tb x⟩]) : cls st = List.replicate st.length 0 := by
  have hk : ∀ t ∈ st, ∀ t' ∈ st, keyS (List.replicate st.length 0) t = keyS (List.replicate st.length 0) t' := fun t ht t' ht' => by
    obtain ⟨x, rfl⟩ := h t ht
    obtain ⟨y, rfl⟩ := h t' ht'
    have e : ∀ z, lk (List.replicate st.length 0) (tb z) = tb 0 := fun z => by rw [lk_tb, at0_zero]
    unfold keyS lookT
    simp only [List.map_cons, List.map_nil, e]
  exact (rch_start st).stop (nxt_const hk)
/-- A ring whose last table has more than the others: no two are the same. -/
theorem cls_marked {st : List (List Pr)} {K : V} {n : Nat} (hl : st.length = n + 1) (h : ∀ i (hi : i < n), st[i]'(by omega) = [⟨K, tb (i + 1)⟩]) (hlast : ∃ p q r, st[n]'(by omega) = p :: q :: r) (hA : AllIn st) : ∀ i, i < n + 1 → at0 (cls st) i = i := by
  obtain ⟨hG, hF, hN⟩ := cls_fix hA
  have key : ∀ d i j, i < j → (hj : j < n + 1) → n - j = d → at0 (cls st) i ≠ at0 (cls st) j := by
    intro d
    induction d with
    | zero =>
      intro i j hij hj hd e
      obtain rfl : j = n := by omega
      rw [← hN] at e
      have e2 := keyS_iff.1 ((nxt_iff (by omega) (by omega)).1 e)
      obtain ⟨p, q, r, h3⟩ := hlast
      rw [h i hij, h3] at e2
      have := congrArg List.length e2
      simp [lookT] at this
    | succ d ih =>
      intro i j hij hj hd e
      have hjn : j < n := by omega
      rw [← hN] at e
      have e2 := keyS_iff.1 ((nxt_iff (by omega) (by omega)).1 e)
      rw [h i (by omega), h j hjn] at e2
      simp only [lookT, List.map_cons, List.map_nil, List.cons.injEq, Pr.mk.injEq, true_and, and_true, lk_tb] at e2
      have e3 := congrArg V.a e2
      simp only [tb] at e3
      exact ih (i + 1) (j + 1) (by omega) (by omega) (by omega) (by omega)
  intro i hi
  have h1 := hG.le i (by omega)
  have h2 := hG.idem i (by omega)
  rcases Nat.lt_or_ge (at0 (cls st) i) i with h3 | h3
  · exact absurd h2 (key (n - i) _ i h3 hi rfl)
  · omega
end Go.Sy
/- What can be seen of a value of a graph along paths of keys: the classes tell apart just what looks otherwise; classes taken and tables numbered anew leave what can be seen, and what comes of that hangs on what can be seen alone. No program in sight; no condition. -/
namespace Go.Sy
set_option linter.unusedVariables false
set_option linter.unusedSimpArgs false
def tabA (ts : List (List Pr)) (a : Nat) : List Pr := ts.getD a []
theorem tabA_get {ts : List (List Pr)} {a : Nat} (h : a < ts.length) : tabA ts a = ts[a] := by
  unfold tabA
  rw [List.getD_eq_getElem?_getD, List.getElem?_eq_getElem h]; rfl
theorem tabA_mem {ts : List (List Pr)} {a : Nat} (h : a < ts.length) : tabA ts a ∈ ts := by rw [tabA_get h]; exact List.getElem_mem h
def fndO : List Pr → V → Option V
  | [], _ => none
  | p :: r, k => if vEq p.key k = true then some p.val else fndO r k
theorem fnd_mem : ∀ {t : List Pr} {k x : V}, fndO t k = some x → ∃ p ∈ t, p.key = k ∧ p.val = x
  | [], k, x, h => by simp [fndO] at h
  | p :: r, k, x, h => by
    unfold fndO at h
    by_cases hk : vEq p.key k = true
    · rw [if_pos hk] at h
      exact ⟨p, .head _, vEq_iff.1 hk, Option.some.inj h⟩
    · rw [if_neg hk] at h
      obtain ⟨q, hq, e⟩ := fnd_mem h
      exact ⟨q, .tail _ hq, e⟩
theorem fnd_of : ∀ {t : List Pr} {p : Pr}, (t.map Pr.key).Nodup → p ∈ t → fndO t p.key = some p.val
  | q :: r, p, hn, hp => by
    rw [List.map_cons, List.nodup_cons] at hn
    unfold fndO
    rcases List.mem_cons.1 hp with rfl | hp
    · rw [if_pos (vEq_iff.2 rfl)]
    · rw [if_neg (fun e => hn.1 (by rw [vEq_iff.1 e]; exact List.mem_map_of_mem hp))]
      exact fnd_of hn.2 hp
theorem fnd_some {t : List Pr} {k : V} (h : k ∈ t.map Pr.key) : ∃ x, fndO t k = some x := by
  induction t with
  | nil => cases h
  | cons p r ih =>
    unfold fndO
    by_cases hk : vEq p.key k = true
    · exact ⟨p.val, if_pos hk⟩
    · rw [if_neg hk]
      rcases List.mem_cons.1 h with e | h
      · exact absurd (vEq_iff.2 e.symm) hk
      · exact ih h
theorem fnd_iff {t : List Pr} (hn : (t.map Pr.key).Nodup) {k x : V} : fndO t k = some x ↔ (⟨k, x⟩ : Pr) ∈ t :=
  ⟨fun h => by obtain ⟨p, hp, rfl, rfl⟩ := fnd_mem h; exact hp, fun h => fnd_of hn h⟩
theorem fnd_perm {t t' : List Pr} (h : t.Perm t') (hn : (t.map Pr.key).Nodup) (k : V) : fndO t k = fndO t' k := by
  have hn' : (t'.map Pr.key).Nodup := (h.map _).nodup_iff.1 hn
  cases e : fndO t k with
  | some x => exact ((fnd_iff hn').2 (h.mem_iff.1 ((fnd_iff hn).1 e))).symm
  | none =>
    cases e' : fndO t' k with
    | none => rfl
    | some x => rw [(fnd_iff hn).2 (h.mem_iff.2 ((fnd_iff hn').1 e'))] at e; cases e
theorem fnd_map (f : V → V) (k : V) : ∀ t : List Pr, fndO (t.map fun p => ⟨p.key, f p.val⟩) k = (fndO t k).map f
  | [] => rfl
  | p :: r => by
    simp only [List.map_cons, fndO]
    by_cases hk : vEq p.key k = true
    · rw [if_pos hk, if_pos hk]; rfl
    · rw [if_neg hk, if_neg hk]; exact fnd_map f k r
def ksort (l : List V) : List V := l.mergeSort fun a b => !kl b a
inductive Lf where
  | leaf (v : V)
  | tab (ks : List V)
/-- What stands at the end of a path of keys. -/
def beh (ts : List (List Pr)) : List V → V → Option Lf
  | [], v => some (if v.k = 4 then .tab ((tabA ts v.a.toNat).map Pr.key) else .leaf v)
  | k :: p, v => if v.k = 4 then (fndO (tabA ts v.a.toNat) k).bind (fun x => beh ts p x) else none
def Beq (ts us : List (List Pr)) (v w : V) : Prop := ∀ p, beh ts p v = beh us p w
theorem Beq.refl (ts : List (List Pr)) (v : V) : Beq ts ts v v := fun _ => rfl
theorem Beq.symm {ts us : List (List Pr)} {v w : V} (h : Beq ts us v w) : Beq us ts w v := fun p => (h p).symm
theorem Beq.trans {ts us xs : List (List Pr)} {v w x : V} (h : Beq ts us v w) (g : Beq us xs w x) : Beq ts xs v x := fun p => (h p).trans (g p)
section
variable {ts us : List (List Pr)} {v w : V}
theorem Beq.k4 (h : Beq ts us v w) : v.k = 4 ↔ w.k = 4 := by
  have e := Option.some.inj (h [])
  by_cases h1 : v.k = 4 <;> by_cases h2 : w.k = 4
  · exact ⟨fun _ => h2, fun _ => h1⟩
  · rw [if_pos h1, if_neg h2] at e; cases e
  · rw [if_neg h1, if_pos h2] at e; cases e
  · exact ⟨fun x => absurd x h1, fun x => absurd x h2⟩
theorem Beq.leaf (h : Beq ts us v w) (h4 : v.k ≠ 4) : v = w := by
  have e := Option.some.inj (h [])
  rw [if_neg h4, if_neg (fun x => h4 (h.k4.2 x))] at e
  exact Lf.leaf.inj e
theorem Beq.keys (h : Beq ts us v w) (h4 : v.k = 4) : (tabA ts v.a.toNat).map Pr.key = (tabA us w.a.toNat).map Pr.key := by
  have e := Option.some.inj (h [])
  rw [if_pos h4, if_pos (h.k4.1 h4)] at e
  exact Lf.tab.inj e
theorem Beq.kid (h : Beq ts us v w) (h4 : v.k = 4) {k x y : V} (hx : fndO (tabA ts v.a.toNat) k = some x) (hy : fndO (tabA us w.a.toNat) k = some y) : Beq ts us x y := fun p => by
  have e := h (k :: p)
  simp only [beh, if_pos h4, if_pos (h.k4.1 h4), hx, hy, Option.bind_some] at e
  exact e
theorem beh_tb (p : List V) (h4 : v.k = 4) : beh ts p v = beh ts p (tb v.a.toNat) := by
  have e : (tb v.a.toNat).a.toNat = v.a.toNat := by simp only [tb]; omega
  cases p with
  | nil => simp only [beh, if_pos h4, e, if_pos (show (tb v.a.toNat).k = 4 from rfl)]
  | cons k p => simp only [beh, if_pos h4, e, if_pos (show (tb v.a.toNat).k = 4 from rfl)]
theorem Beq.tb (h : Beq ts us v w) (h4 : v.k = 4) : Beq ts us (tb v.a.toNat) (tb w.a.toNat) := fun p => by rw [← beh_tb p h4, ← beh_tb p (h.k4.1 h4)]; exact h p
end
/-- Element by element. -/
inductive All2 {α β : Type} (R : α → β → Prop) : List α → List β → Prop
  | nil : All2 R [] []
  | cons {a : α} {b : β} {l : List α} {m : List β} : R a b → All2 R l m → All2 R (a :: l) (b :: m)
section
variable {α β : Type} {R S : α → β → Prop}
theorem All2.imp (hi : ∀ a b, R a b → S a b) : ∀ {l : List α} {m : List β}, All2 R l m → All2 S l m
  | _, _, .nil => .nil
  | _, _, .cons h t => .cons (hi _ _ h) (t.imp hi)
theorem All2.len : ∀ {l : List α} {m : List β}, All2 R l m → l.length = m.length
  | _, _, .nil => rfl
  | _, _, .cons _ t => by simp [t.len]
theorem All2.snoc {a : α} {b : β} (hab : R a b) : ∀ {l : List α} {m : List β}, All2 R l m → All2 R (l ++ [a]) (m ++ [b])
  | _, _, .nil => .cons hab .nil
  | _, _, .cons h t => .cons h (t.snoc hab)
theorem All2.left : ∀ {l : List α} {m : List β}, All2 R l m → ∀ a ∈ l, ∃ b ∈ m, R a b
  | _, _, .nil, a, h => by cases h
  | _, _, .cons (b := b) (m := m) h t, a, ha => by
    rcases List.mem_cons.1 ha with rfl | ha
    · exact ⟨b, .head _, h⟩
    · obtain ⟨b, hb, e⟩ := t.left a ha; exact ⟨b, .tail _ hb, e⟩
theorem All2.right : ∀ {l : List α} {m : List β}, All2 R l m → ∀ b ∈ m, ∃ a ∈ l, R a b
  | _, _, .nil, a, h => by cases h
  | _, _, .cons (a := a) h t, b, hb => by
    rcases List.mem_cons.1 hb with rfl | hb
    · exact ⟨a, .head _, h⟩
    · obtain ⟨a, ha, e⟩ := t.right b hb; exact ⟨a, .tail _ ha, e⟩
theorem All2.map_eq {γ : Type} (f : α → γ) (g : β → γ) (h : ∀ a b, R a b → f a = g b) : ∀ {l : List α} {m : List β}, All2 R l m → l.map f = m.map g
  | _, _, .nil => rfl
  | _, _, .cons hab t => by rw [List.map_cons, List.map_cons, h _ _ hab, t.map_eq f g h]
theorem All2.get : ∀ {l : List α} {m : List β}, All2 R l m → ∀ i (h : i < l.length) (h' : i < m.length), R l[i] m[i]
  | _, _, .cons h t, 0, _, _ => h
  | _, _, .cons h t, i + 1, h1, h2 => t.get i (by simpa using h1) (by simpa using h2)
end
def PR (R : V → V → Prop) (p q : Pr) : Prop := p.key = q.key ∧ R p.val q.val
/-- Same keys, related values. -/
theorem pos_rel {R : V → V → Prop} : ∀ {l m : List Pr}, l.map Pr.key = m.map Pr.key → (l.map Pr.key).Nodup → (∀ k x y, fndO l k = some x → fndO m k = some y → R x y) → All2 (PR R) l m
  | [], [], _, _, _ => .nil
  | [], q :: m, h, _, _ => by simp at h
  | p :: l, [], h, _, _ => by simp at h
  | p :: l, q :: m, h, hn, hR => by
    have hn2 : ((q :: m).map Pr.key).Nodup := h ▸ hn
    simp only [List.map_cons, List.cons.injEq] at h
    have h1 := fnd_of hn (List.mem_cons_self (a := p) (l := l))
    have h2 := fnd_of hn2 (List.mem_cons_self (a := q) (l := m))
    rw [← h.1] at h2
    refine .cons ⟨h.1, hR _ _ _ h1 h2⟩ (pos_rel h.2 (by rw [List.map_cons, List.nodup_cons] at hn; exact hn.2) fun k x y hx hy => ?_)
    obtain ⟨p', hp', rfl, rfl⟩ := fnd_mem hx
    obtain ⟨q', hq', e, rfl⟩ := fnd_mem hy
    refine hR p'.key _ _ (fnd_of hn (.tail _ hp')) ?_
    rw [← e]
    exact fnd_of hn2 (.tail _ hq')
theorem pr_look {c d : List Nat} {l m : List Pr} (h : All2 (PR fun x y => lk c x = lk d y) l m) : lookT c l = lookT d m :=
  h.map_eq _ _ fun p q e => by rw [e.1, e.2]
/-- Tables that are well laid: their values name tables there are, their keys are told apart. -/
structure Wl (st : List (List Pr)) : Prop where
  inn : AllIn st
  tv : ∀ t ∈ st, ∀ p ∈ t, Tv p.val
  nod : ∀ t ∈ st, (t.map Pr.key).Nodup
theorem Wl.kid {st : List (List Pr)} (h : Wl st) {a : Nat} {k x : V} (hx : fndO (tabA st a) k = some x) : In st.length x ∧ Tv x ∧ a < st.length := by
  obtain ⟨p, hp, _, rfl⟩ := fnd_mem hx
  by_cases ha : a < st.length
  · exact ⟨h.inn _ (tabA_mem ha) p hp, h.tv _ (tabA_mem ha) p hp, ha⟩
  · unfold tabA at hp
    rw [List.getD_eq_getElem?_getD, List.getElem?_eq_none (by omega)] at hp
    cases hp
/-! ### what looks the same is in one class -/
def Cb (st : List (List Pr)) (c : List Nat) : Prop := ∀ i j, i < st.length → j < st.length → Beq st st (tb i) (tb j) → at0 c i = at0 c j
theorem lk_beq {st : List (List Pr)} {c : List Nat} (hc : Cb st c) {v w : V} (h : Beq st st v w) (iv : In st.length v) (iw : In st.length w) (tv : Tv v) (tw : Tv w) : lk c v = lk c w := by
  by_cases h4 : v.k = 4
  · have h4' := h.k4.1 h4
    have e := hc v.a.toNat w.a.toNat (by have := iv h4; omega) (by have := iw h4'; omega) (h.tb h4)
    exact (alike_lk tv tw).1 (by unfold alike; rw [if_pos (h4.trans h4'.symm), if_pos h4, decide_eq_true_eq]; exact e)
  · rw [h.leaf h4]
theorem cb_nxt {st : List (List Pr)} {c : List Nat} (hW : Wl st) (hc : Cb st c) : Cb st (nxt st c) := by
  intro i j hi hj h
  rw [nxt_iff hi hj]
  refine keyS_iff.2 (pr_look ?_)
  have hk := h.keys rfl
  have e1 : ∀ x : Nat, (tb x).a.toNat = x := fun x => by simp only [tb]; omega
  rw [e1, e1, tabA_get hi, tabA_get hj] at hk
  refine pos_rel hk (hW.nod _ (List.getElem_mem hi)) fun k x y hx hy => ?_
  rw [← tabA_get hi] at hx
  rw [← tabA_get hj] at hy
  have hb := h.kid (k := k) (x := x) (y := y) rfl (by rw [e1]; exact hx) (by rw [e1]; exact hy)
  obtain ⟨i1, i2, _⟩ := hW.kid hx
  obtain ⟨j1, j2, _⟩ := hW.kid hy
  exact lk_beq hc hb i1 j1 i2 j2
theorem cb_rounds {st : List (List Pr)} (hW : Wl st) : ∀ (f : Nat) (c : List Nat), Cb st c → Cb st (rounds st f c)
  | 0, c, h => h
  | f + 1, c, h => by
    unfold rounds
    split
    · exact h
    · exact cb_rounds hW f _ (cb_nxt hW h)
theorem cls_cb {st : List (List Pr)} (hW : Wl st) : Cb st (cls st) := cb_rounds hW _ _ fun i j _ _ _ => by rw [at0_zero, at0_zero]
/-! ### what is in one class looks the same -/
theorem look_keys (c : List Nat) (t : List Pr) : (lookT c t).map Pr.key = t.map Pr.key := by simp [lookT]
theorem cls_look {st : List (List Pr)} (hA : AllIn st) {i j : Nat} (hi : i < st.length) (hj : j < st.length) (h : at0 (cls st) i = at0 (cls st) j) : lookT (cls st) (tabA st i) = lookT (cls st) (tabA st j) := by
  have hN := (cls_fix hA).2.2
  rw [← hN] at h
  have := keyS_iff.1 ((nxt_iff hi hj).1 h)
  rw [tabA_get hi, tabA_get hj]; exact this
theorem lk_k4 {c : List Nat} {v w : V} (h : lk c v = lk c w) : v.k = w.k := by
  have := congrArg V.k h
  unfold lk at this
  split at this <;> split at this <;> exact this
theorem lk_at {c : List Nat} {v w : V} (h : lk c v = lk c w) (h4 : v.k = 4) : at0 c v.a.toNat = at0 c w.a.toNat := by
  have e := lk_k4 h
  unfold lk at h
  rw [if_pos h4, if_pos (e ▸ h4)] at h
  have := congrArg V.a h
  simp only at this
  unfold at0; omega
theorem lk_leaf {c : List Nat} {v w : V} (h : lk c v = lk c w) (h4 : v.k ≠ 4) : v = w := by
  have e := lk_k4 h
  unfold lk at h
  rw [if_neg h4, if_neg (e ▸ h4)] at h
  exact h
theorem cls_eqv {st : List (List Pr)} (hW : Wl st) : ∀ (p : List V) (v w : V), In st.length v → In st.length w → lk (cls st) v = lk (cls st) w → beh st p v = beh st p w := by
  intro p
  induction p with
  | nil =>
    intro v w hv hw h
    by_cases h4 : v.k = 4
    · have h4' : w.k = 4 := lk_k4 h ▸ h4
      have e := cls_look hW.inn (i := v.a.toNat) (j := w.a.toNat) (by have := hv h4; omega) (by have := hw h4'; omega) (lk_at h h4)
      have e2 := congrArg (List.map Pr.key) e
      rw [look_keys, look_keys] at e2
      simp only [beh, if_pos h4, if_pos h4', e2]
    · rw [lk_leaf h h4]
  | cons k p ih =>
    intro v w hv hw h
    by_cases h4 : v.k = 4
    · have h4' : w.k = 4 := lk_k4 h ▸ h4
      have e := cls_look hW.inn (i := v.a.toNat) (j := w.a.toNat) (by have := hv h4; omega) (by have := hw h4'; omega) (lk_at h h4)
      have e2 := congrArg (fun t => fndO t k) e
      simp only [lookT, fnd_map] at e2
      simp only [beh, if_pos h4, if_pos h4']
      cases hx : fndO (tabA st v.a.toNat) k with
      | none =>
        cases hy : fndO (tabA st w.a.toNat) k with
        | none => rfl
        | some y => rw [hx, hy] at e2; cases e2
      | some x =>
        cases hy : fndO (tabA st w.a.toNat) k with
        | none => rw [hx, hy] at e2; cases e2
        | some y =>
          rw [hx, hy] at e2
          exact ih x y (hW.kid hx).1 (hW.kid hy).1 (Option.some.inj e2)
    · rw [lk_leaf h h4]
theorem tb_in {n i : Nat} (h : i < n) : In n (tb i) := fun _ => by simp only [tb]; omega
theorem cls_iff {st : List (List Pr)} (hW : Wl st) {i j : Nat} (hi : i < st.length) (hj : j < st.length) : at0 (cls st) i = at0 (cls st) j ↔ Beq st st (tb i) (tb j) :=
  ⟨fun h p => cls_eqv hW p _ _ (tb_in hi) (tb_in hj) (by rw [lk_tb, lk_tb, h]), cls_cb hW i j hi hj⟩
/-- Two values are alike just where they look the same. -/
theorem alike_iff {st : List (List Pr)} (hW : Wl st) {v w : V} (iv : In st.length v) (iw : In st.length w) (tv : Tv v) (tw : Tv w) : alike (cls st) v w = true ↔ Beq st st v w := by
  rw [alike_lk tv tw]
  exact ⟨fun h p => cls_eqv hW p v w iv iw h, fun h => lk_beq (cls_cb hW) h iv iw tv tw⟩
/-! ### tables beside one another -/
theorem beh_left {A X : List (List Pr)} (hA : AllIn A) : ∀ (p : List V) (v : V), In A.length v → beh (A ++ X) p v = beh A p v := by
  have ht : ∀ v : V, v.k = 4 → In A.length v → tabA (A ++ X) v.a.toNat = tabA A v.a.toNat := fun v h4 hv => by
    have := hv h4
    unfold tabA
    rw [List.getD_eq_getElem?_getD, List.getD_eq_getElem?_getD, List.getElem?_append_left (by omega)]
  intro p
  induction p with
  | nil => intro v hv; by_cases h4 : v.k = 4
           · simp only [beh, ht v h4 hv]
           · simp only [beh, if_neg h4]
  | cons k p ih =>
    intro v hv
    by_cases h4 : v.k = 4
    · simp only [beh, if_pos h4, ht v h4 hv]
      cases hx : fndO (tabA A v.a.toNat) k with
      | none => rfl
      | some x =>
        obtain ⟨q, hq, _, rfl⟩ := fnd_mem hx
        exact ih q.val (hA _ (tabA_mem (by have := hv h4; omega)) q hq)
    · simp only [beh, if_neg h4]
theorem beh_right {A B : List (List Pr)} {sh : V → V} (hs4 : ∀ v, v.k = 4 → (sh v).k = 4 ∧ (sh v).a = v.a + (A.length : Int)) (hs : ∀ v, v.k ≠ 4 → sh v = v) (hB : AllIn B) :
    ∀ (p : List V) (v : V), In B.length v → beh (A ++ B.map fun t => t.map fun q => ⟨q.key, sh q.val⟩) p (sh v) = beh B p v := by
  have ht : ∀ v : V, v.k = 4 → In B.length v → tabA (A ++ B.map fun t => t.map fun q => ⟨q.key, sh q.val⟩) (sh v).a.toNat = (tabA B v.a.toNat).map fun q => ⟨q.key, sh q.val⟩ := fun v h4 hv => by
    have h1 := hv h4
    have h2 := (hs4 v h4).2
    unfold tabA
    rw [List.getD_eq_getElem?_getD, List.getD_eq_getElem?_getD, List.getElem?_append_right (by omega), List.getElem?_map]
    have e : (sh v).a.toNat - A.length = v.a.toNat := by omega
    rw [e, List.getElem?_eq_getElem (by omega : v.a.toNat < B.length)]
    rfl
  intro p
  induction p with
  | nil =>
    intro v hv
    by_cases h4 : v.k = 4
    · simp only [beh, if_pos h4, if_pos (hs4 v h4).1, ht v h4 hv, List.map_map]
      rfl
    · rw [hs v h4]; simp only [beh, if_neg h4]
  | cons k p ih =>
    intro v hv
    by_cases h4 : v.k = 4
    · simp only [beh, if_pos h4, if_pos (hs4 v h4).1, ht v h4 hv, fnd_map]
      cases hx : fndO (tabA B v.a.toNat) k with
      | none => rfl
      | some x =>
        obtain ⟨q, hq, _, rfl⟩ := fnd_mem hx
        exact ih q.val (hB _ (tabA_mem (by have := hv h4; omega)) q hq)
    · rw [hs v h4]; simp only [beh, if_neg h4]
/-! ### tables led to by their classes -/
theorem beh_look {st : List (List Pr)} (hW : Wl st) : ∀ (p : List V) (v : V), In st.length v → beh (st.map (lookT (cls st))) p (lk (cls st) v) = beh st p v := by
  have hG := (cls_fix hW.inn).1
  have ht : ∀ v : V, v.k = 4 → In st.length v → tabA (st.map (lookT (cls st))) (lk (cls st) v).a.toNat = lookT (cls st) (tabA st v.a.toNat) := fun v h4 hv => by
    have h1 := hv h4
    have hlt : v.a.toNat < st.length := by omega
    have h2 := hG.le v.a.toNat hlt
    have e : (lk (cls st) v).a.toNat = at0 (cls st) v.a.toNat := by unfold lk at0; rw [if_pos h4]; simp only; omega
    have hlt3 : at0 (cls st) v.a.toNat < st.length := by omega
    have g1 : tabA st (at0 (cls st) v.a.toNat) = st[at0 (cls st) v.a.toNat] := tabA_get hlt3
    rw [e, ← cls_look hW.inn (i := at0 (cls st) v.a.toNat) hlt3 hlt (hG.idem _ hlt), g1, tabA_get (ts := st.map (lookT (cls st))) (a := at0 (cls st) v.a.toNat) (by rw [List.length_map]; exact hlt3), List.getElem_map]
  intro p
  induction p with
  | nil =>
    intro v hv
    by_cases h4 : v.k = 4
    · have h4' : (lk (cls st) v).k = 4 := by unfold lk; rw [if_pos h4]; exact h4
      simp only [beh, if_pos h4, if_pos h4', ht v h4 hv, look_keys]
    · have e : lk (cls st) v = v := by unfold lk; rw [if_neg h4]
      rw [e]; simp only [beh, if_neg h4]
  | cons k p ih =>
    intro v hv
    by_cases h4 : v.k = 4
    · have h4' : (lk (cls st) v).k = 4 := by unfold lk; rw [if_pos h4]; exact h4
      simp only [beh, if_pos h4, if_pos h4', ht v h4 hv, lookT, fnd_map]
      cases hx : fndO (tabA st v.a.toNat) k with
      | none => rfl
      | some x => exact ih x (hW.kid hx).1
    · have e : lk (cls st) v = v := by unfold lk; rw [if_neg h4]
      rw [e]; simp only [beh, if_neg h4]
/-! ### tables numbered as they are met -/
/-! ### the fuel of the numbering -/
theorem go_fuel {ts : List (List Pr)} (hA : AllIn ts) : ∀ (f : Nat) (ord : List Nat) (v : V), Nm ts.length ord → In ts.length v → ts.length - ord.length < f → go ts (f + 1) ord v = go ts f ord v
  | 0, ord, v, _, _, h => absurd h (by omega)
  | f + 1, ord, v, hN, hv, hf => by
    by_cases h4 : v.k = 4
    · by_cases hin : v.a.toNat ∈ ord
      · rw [go_old h4 hin, go_old h4 hin]
      · have hlt : v.a.toNat < ts.length := by have := hv h4; omega
        have hix : ts[v.a.toNat]? = some ts[v.a.toNat] := List.getElem?_eq_getElem hlt
        rw [go_new h4 hin hix, go_new h4 hin hix]
        have hN1 := hN.snoc hlt hin
        have hl1 := hN1.len
        simp only [List.length_append, List.length_singleton] at hl1
        have key : ∀ (l : List Pr) (o : List Nat), (∀ p ∈ l, In ts.length p.val) → Nm ts.length o → ord.length + 1 ≤ o.length → goes ts (f + 1) o l = goes ts f o l := fun l => by
          induction l with
          | nil => exact fun o _ _ _ => rfl
          | cons p r ih =>
            intro o hl hN hlen
            have h1 := go_fuel hA f o p.val hN (hl p (.head _)) (by omega)
            show goes ts (f + 1) (go ts (f + 1) o p.val) r = goes ts f (go ts f o p.val) r
            rw [h1]
            exact ih _ (fun q hq => hl q (.tail _ hq)) (go_nm hA f o p.val hN (hl p (.head _))) (Nat.le_trans hlen (go_pre ts f o p.val).length_le)
        exact key _ _ (hA _ (List.getElem_mem hlt)) hN1 (by simp)
    · rw [go_leaf h4, go_leaf h4]
theorem ordOf_fuel {ts : List (List Pr)} (hA : AllIn ts) {v : V} (hv : In ts.length v) : ∀ d : Nat, go ts (ts.length + 1 + d) [] v = ordOf ts v
  | 0 => rfl
  | d + 1 => by
    have := go_fuel hA (ts.length + 1 + d) [] v (nm_nil _) hv (by simp; omega)
    rw [← ordOf_fuel hA hv d, ← this]; rfl
/-! ### two graphs that look the same are numbered alike -/
/-- All that is led to is P. -/
def Led (T : List (List Pr)) (P : Nat → Prop) : Prop := ∀ t ∈ T, ∀ p ∈ t, p.val.k = 4 → P p.val.a.toNat
def Dst (T : List (List Pr)) (P : Nat → Prop) : Prop := ∀ i j, P i → P j → Beq T T (tb i) (tb j) → i = j
theorem led_tab {T : List (List Pr)} {P : Nat → Prop} (h : Led T P) {a : Nat} {p : Pr} (hp : p ∈ tabA T a) (h4 : p.val.k = 4) : P p.val.a.toNat := by
  by_cases ha : a < T.length
  · exact h _ (tabA_mem ha) p hp h4
  · unfold tabA at hp
    rw [List.getD_eq_getElem?_getD, List.getElem?_eq_none (by omega)] at hp
    cases hp
theorem go_sim {T U : List (List Pr)} {P Q : Nat → Prop} (hT : Led T P) (hU : Led U Q) (dT : Dst T P) (dU : Dst U Q) (nT : ∀ a, ((tabA T a).map Pr.key).Nodup) :
    ∀ (f : Nat) (o o' : List Nat) (x y : V), All2 (fun i j => Beq T U (tb i) (tb j)) o o' → (∀ i ∈ o, P i) → (∀ j ∈ o', Q j) → Beq T U x y → (x.k = 4 → P x.a.toNat) → (y.k = 4 → Q y.a.toNat) →
      All2 (fun i j => Beq T U (tb i) (tb j)) (go T f o x) (go U f o' y) ∧ (∀ i ∈ go T f o x, P i) ∧ ∀ j ∈ go U f o' y, Q j
  | 0, o, o', x, y, h, p1, p2, _, _, _ => ⟨h, p1, p2⟩
  | f + 1, o, o', x, y, h, p1, p2, hxy, px, py => by
    by_cases h4 : x.k = 4
    · have h4' := hxy.k4.1 h4
      have hb := hxy.tb h4
      have hmem : x.a.toNat ∈ o ↔ y.a.toNat ∈ o' := by
        constructor
        · intro hm
          obtain ⟨j, hj, e⟩ := h.left _ hm
          rw [dU y.a.toNat j (py h4') (p2 j hj) (hb.symm.trans e)]; exact hj
        · intro hm
          obtain ⟨i, hi, e⟩ := h.right _ hm
          rw [dT x.a.toNat i (px h4) (p1 i hi) (hb.trans e.symm)]; exact hi
      by_cases hin : x.a.toNat ∈ o
      · rw [go_old h4 hin, go_old h4' (hmem.1 hin)]; exact ⟨h, p1, p2⟩
      · have hin' : y.a.toNat ∉ o' := fun e => hin (hmem.2 e)
        have e1 : go T (f + 1) o x = goes T f (o ++ [x.a.toNat]) (tabA T x.a.toNat) := by simp only [go, if_pos h4, if_neg hin]; rfl
        have e2 : go U (f + 1) o' y = goes U f (o' ++ [y.a.toNat]) (tabA U y.a.toNat) := by simp only [go, if_pos h4', if_neg hin']; rfl
        rw [e1, e2]
        have hrel := pos_rel (R := Beq T U) (hxy.keys h4) (nT _) (fun k a b ha hb => hxy.kid h4 ha hb)
        have key : ∀ (l m : List Pr), All2 (PR (Beq T U)) l m → (∀ p ∈ l, p.val.k = 4 → P p.val.a.toNat) → (∀ p ∈ m, p.val.k = 4 → Q p.val.a.toNat) → ∀ o o', All2 (fun i j => Beq T U (tb i) (tb j)) o o' → (∀ i ∈ o, P i) → (∀ j ∈ o', Q j) →
            All2 (fun i j => Beq T U (tb i) (tb j)) (goes T f o l) (goes U f o' m) ∧ (∀ i ∈ goes T f o l, P i) ∧ ∀ j ∈ goes U f o' m, Q j := by
          intro l m hlm
          induction hlm with
          | nil => exact fun _ _ o o' h p1 p2 => ⟨h, p1, p2⟩
          | cons hab t ih =>
            intro hl hm o o' h p1 p2
            obtain ⟨g1, g2, g3⟩ := go_sim hT hU dT dU nT f o o' _ _ h p1 p2 hab.2 (hl _ (.head _)) (hm _ (.head _))
            exact ih (fun p hp => hl p (.tail _ hp)) (fun p hp => hm p (.tail _ hp)) _ _ g1 g2 g3
        refine key _ _ hrel (fun p hp => led_tab hT hp) (fun p hp => led_tab hU hp) _ _ (All2.snoc (R := fun i j => Beq T U (tb i) (tb j)) hb h) (fun i hi => ?_) (fun j hj => ?_)
        · rcases List.mem_append.1 hi with hi | hi
          · exact p1 i hi
          · rw [List.mem_singleton] at hi; rw [hi]; exact px h4
        · rcases List.mem_append.1 hj with hj | hj
          · exact p2 j hj
          · rw [List.mem_singleton] at hj; rw [hj]; exact py h4'
    · rw [go_leaf h4, go_leaf (fun e => h4 (hxy.k4.2 e))]; exact ⟨h, p1, p2⟩
theorem idx_all2 {R : Nat → Nat → Prop} : ∀ {o o' : List Nat} {a b : Nat}, All2 R o o' → (∀ i ∈ o, ∀ j ∈ o', R i j → (i = a ↔ j = b)) → o.idxOf a = o'.idxOf b
  | _, _, a, b, .nil, _ => rfl
  | _, _, a, b, .cons (a := i) (b := j) h t, hR => by
    have e := hR i (.head _) j (.head _) h
    rw [List.idxOf_cons, List.idxOf_cons]
    by_cases hi : i = a
    · have hj := e.1 hi
      rw [beq_iff_eq.2 hi, beq_iff_eq.2 hj]
      rfl
    · have hj : ¬ j = b := fun x => hi (e.2 x)
      rw [beq_eq_false_iff_ne.2 hi, beq_eq_false_iff_ne.2 hj]
      show List.idxOf _ _ + 1 = List.idxOf _ _ + 1
      rw [idx_all2 t fun i hi j hj => hR i (.tail _ hi) j (.tail _ hj)]
/-- The graph's tables, and where they are met first. -/
structure Mt (T : List (List Pr)) (P : Nat → Prop) (v : V) : Prop where
  wl : Wl T
  inn : In T.length v
  tv : Tv v
  led : Led T P
  dst : Dst T P
  root : v.k = 4 → P v.a.toNat
theorem Wl.nodA {T : List (List Pr)} (h : Wl T) (a : Nat) : ((tabA T a).map Pr.key).Nodup := by
  by_cases ha : a < T.length
  · exact h.nod _ (tabA_mem ha)
  · unfold tabA
    rw [List.getD_eq_getElem?_getD, List.getElem?_eq_none (by omega)]
    simp
theorem Wl.closed {T : List (List Pr)} (h : Wl T) {v : V} (hv : In T.length v) : ∀ a ∈ ordOf T v, ∀ p ∈ tabA T a, p.val.k = 4 → p.val.a.toNat ∈ ordOf T v := fun a ha p hp h4 => by
  have hlt := (ordOf_nm h.inn hv).lt a ha
  rw [tabA_get hlt] at hp
  exact ordOf_in h.inn hv ha (List.getElem?_eq_getElem hlt) hp h4
theorem mt_uniq {T U : List (List Pr)} {P Q : Nat → Prop} {v w : V} (hT : Mt T P v) (hU : Mt U Q w) (h : Beq T U v w) : ren (ordOf T v) v = ren (ordOf U w) w ∧ cTs T (ordOf T v) = cTs U (ordOf U w) := by
  have hs := go_sim hT.led hU.led hT.dst hU.dst hT.wl.nodA (T.length + 1 + (U.length + 1)) [] [] v w .nil (fun i hi => by cases hi) (fun i hi => by cases hi) h hT.root hU.root
  have f1 := ordOf_fuel hT.wl.inn hT.inn (U.length + 1)
  have f2 := ordOf_fuel hU.wl.inn hU.inn (T.length + 1)
  rw [show U.length + 1 + (T.length + 1) = T.length + 1 + (U.length + 1) by omega] at f2
  rw [f1, f2] at hs
  obtain ⟨h1, h2, h3⟩ := hs
  have hren : ∀ x y : V, Beq T U x y → Tv x → Tv y → (x.k = 4 → P x.a.toNat) → (y.k = 4 → Q y.a.toNat) → ren (ordOf T v) x = ren (ordOf U w) y := fun x y hxy tx ty px py => by
    by_cases h4 : x.k = 4
    · have h4' := hxy.k4.1 h4
      have e : (ordOf T v).idxOf x.a.toNat = (ordOf U w).idxOf y.a.toNat := idx_all2 h1 fun i hi j hj hij => by
        constructor
        · intro e; subst e
          exact (hU.dst j y.a.toNat (h3 j hj) (py h4') (hij.symm.trans (hxy.tb h4)))
        · intro e; subst e
          exact (hT.dst i x.a.toNat (h2 i hi) (px h4) (hij.trans (hxy.tb h4).symm))
      unfold ren
      rw [if_pos h4, if_pos h4', e, h4, h4', (tx h4).1, (ty h4').1, bytes_ext ((tx h4).2.trans (ty h4').2.symm)]
    · have e1 : ren (ordOf T v) x = x := by unfold ren; rw [if_neg h4]
      have e2 : ren (ordOf U w) y = y := by unfold ren; rw [if_neg (fun e => h4 (hxy.k4.2 e))]
      rw [e1, e2]; exact hxy.leaf h4
  refine ⟨hren v w h hT.tv hU.tv hT.root hU.root, h1.map_eq _ _ fun i j hij => ?_⟩
  have e1 : ∀ x : Nat, (tb x).a.toNat = x := fun x => by simp only [tb]; omega
  have hk := hij.keys rfl
  rw [e1, e1] at hk
  have hrel := pos_rel (R := fun x y => ren (ordOf T v) x = ren (ordOf U w) y) hk (hT.wl.nodA _) (fun k a b ha hb => by
    have hb2 := hij.kid rfl (by rw [e1]; exact ha) (by rw [e1]; exact hb)
    obtain ⟨p, hp, _, rfl⟩ := fnd_mem ha
    obtain ⟨q, hq, _, rfl⟩ := fnd_mem hb
    exact hren _ _ hb2 (hT.wl.kid ha).2.1 (hU.wl.kid hb).2.1 (fun h4 => led_tab hT.led hp h4) (fun h4 => led_tab hU.led hq h4))
  exact hrel.map_eq _ _ fun p q e => by unfold nPr; rw [e.1, e.2]
end Go.Sy
/- What Shrink answers hangs on what can be seen alone; sameness is to look the same. Plain; no condition. -/
namespace Go.Proofs.YtkamfnmbidnhdaaDoor
open Go.Sy
set_option linter.unusedVariables false
set_option linter.unusedSimpArgs false
theorem wl_srt {v : V} {ts : List (List Pr)} (hg : GOk v ts) : Wl (ts.map srt) := by
  refine ⟨allin_srt (gok_in hg).1, fun t ht p hp => ?_, fun t ht => ?_⟩
  · obtain ⟨t', ht', rfl⟩ := List.mem_map.1 ht
    exact tv_of ((hg.2.2 t' ht').2.1 p ((srt_perm t').mem_iff.1 hp)).2.1
  · obtain ⟨t', ht', rfl⟩ := List.mem_map.1 ht
    exact (tok_srt (hg.2.2 t' ht')).2.2
theorem gok_tv {v : V} {ts : List (List Pr)} (hg : GOk v ts) : Tv v := tv_of hg.2.1
theorem gok_ins {v : V} {ts : List (List Pr)} (hg : GOk v ts) : In (ts.map srt).length v := by rw [List.length_map]; exact (gok_in hg).2.1
theorem rt_in {v : V} {ts : List (List Pr)} (h4 : v.k = 4) : v.a.toNat ∈ ordOf ts v := go_mem ts ts.length [] v h4
theorem cTt_length (ts : List (List Pr)) (O : List Nat) : (cTs ts O).length = O.length := by simp [cTs]
/-! ### sameness -/
theorem srt_sh (n : Nat) (t : List Pr) : srt (t.map (shP n)) = (srt t).map (shP n) := by
  unfold srt
  rw [List.map_mergeSort]
  intro a _ b _
  rfl
theorem both_srt (a b : List (List Pr)) : (both a b).map srt = a.map srt ++ (b.map srt).map fun t => t.map (shP a.length) := by
  unfold both
  rw [List.map_append, List.map_map, List.map_map]
  congr 1
  refine List.map_congr_left fun t _ => ?_
  exact srt_sh a.length t
theorem shV_4 {n : Nat} {v : V} (h4 : v.k = 4) : (shV n v).k = 4 ∧ (shV n v).a = v.a + (n : Int) := by unfold shV; rw [if_pos h4]; exact ⟨h4, rfl⟩
theorem shV_no {n : Nat} {v : V} (h4 : v.k ≠ 4) : shV n v = v := by unfold shV; rw [if_neg h4]
theorem same_iff {v v' : V} {a b : List (List Pr)} (hg : GOk v a) (hg' : GOk v' b) : sameB v v' a b = true ↔ Beq (a.map srt) (b.map srt) v v' := by
  have e0 : sameB v v' a b = alike (cls ((both a b).map srt)) v (shV a.length v') := if_pos ⟨hg, hg'⟩
  have wA := wl_srt hg
  have wB := wl_srt hg'
  have hvt := gok_tv hg
  have hvt' := gok_tv hg'
  have hiv := gok_ins hg
  have hiv' := gok_ins hg'
  have hL : ∀ p, beh ((both a b).map srt) p v = beh (a.map srt) p v := fun p => by rw [both_srt]; exact beh_left wA.inn p v hiv
  have hR : ∀ p, beh ((both a b).map srt) p (shV a.length v') = beh (b.map srt) p v' := fun p => by
    rw [both_srt]
    have := beh_right (A := a.map srt) (sh := shV a.length) (fun v h4 => by rw [List.length_map]; exact shV_4 h4) (fun v h4 => shV_no h4) wB.inn p v' hiv'
    exact this
  have hW : Wl ((both a b).map srt) := by
    rw [both_srt]
    have hlen : (a.map srt ++ (b.map srt).map fun t => t.map (shP a.length)).length = a.length + b.length := by simp
    refine ⟨fun t ht p hp => ?_, fun t ht p hp => ?_, fun t ht => ?_⟩
    · rw [hlen]
      rcases List.mem_append.1 ht with ht | ht
      · intro h4
        have := wA.inn t ht p hp h4
        rw [List.length_map] at this; omega
      · obtain ⟨t', ht', rfl⟩ := List.mem_map.1 ht
        obtain ⟨q, hq, rfl⟩ := List.mem_map.1 hp
        intro h4
        by_cases h5 : q.val.k = 4
        · have h6 := wB.inn t' ht' q hq h5
          have h7 := (shV_4 (n := a.length) h5).2
          rw [List.length_map] at h6
          show 0 ≤ (shV a.length q.val).a ∧ (shV a.length q.val).a < ((a.length + b.length : Nat) : Int)
          omega
        · have : (shP a.length q).val = q.val := shV_no h5
          rw [this] at h4; exact absurd h4 h5
    · rcases List.mem_append.1 ht with ht | ht
      · exact wA.tv t ht p hp
      · obtain ⟨t', ht', rfl⟩ := List.mem_map.1 ht
        obtain ⟨q, hq, rfl⟩ := List.mem_map.1 hp
        intro h4
        by_cases h5 : q.val.k = 4
        · have h6 := wB.tv t' ht' q hq h5
          show (shV a.length q.val).n = 0 ∧ (shV a.length q.val).s.data.toList = []
          unfold shV
          rw [if_pos h5]; exact h6
        · have : (shP a.length q).val = q.val := shV_no h5
          rw [this] at h4; exact absurd h4 h5
    · rcases List.mem_append.1 ht with ht | ht
      · exact wA.nod t ht
      · obtain ⟨t', ht', rfl⟩ := List.mem_map.1 ht
        have : (t'.map (shP a.length)).map Pr.key = t'.map Pr.key := by simp [shP]
        rw [this]; exact wB.nod t' ht'
  have hlen : ((both a b).map srt).length = a.length + b.length := by rw [both_srt]; simp
  rw [List.length_map] at hiv hiv'
  have hi1 : In ((both a b).map srt).length v := fun h4 => by have := hiv h4; rw [hlen]; omega
  have htv2 : Tv (shV a.length v') := fun h4 => by
    by_cases h5 : v'.k = 4
    · have := hvt' h5
      unfold shV; rw [if_pos h5]; exact this
    · rw [shV_no h5] at h4; exact absurd h4 h5
  have hi2 : In ((both a b).map srt).length (shV a.length v') := fun h4 => by
    by_cases h5 : v'.k = 4
    · have := hiv' h5
      have h7 := (shV_4 (n := a.length) h5).2
      rw [hlen]; omega
    · rw [shV_no h5] at h4; exact absurd h4 h5
  rw [e0, alike_iff hW hi1 hi2 hvt htv2]
  exact ⟨fun h p => by rw [← hL p, ← hR p]; exact h p, fun h p => by rw [hL p, hR p]; exact h p⟩
/-! ### what Shrink answers -/
abbrev sS (ts : List (List Pr)) : List (List Pr) := ts.map srt
theorem shT_eq (ts : List (List Pr)) : shT (cls (sS ts)) ts = (sS ts).map (lookT (cls (sS ts))) := by
  unfold shT
  rw [List.map_map]; rfl
section
variable {v : V} {ts : List (List Pr)}
theorem k_eq (hg : GOk v ts) : kV v ts = ren (ordOf (shT (cls (sS ts)) ts) (lk (cls (sS ts)) v)) (lk (cls (sS ts)) v) ∧ kT v ts = cTs (shT (cls (sS ts)) ts) (ordOf (shT (cls (sS ts)) ts) (lk (cls (sS ts)) v)) :=
  ⟨(if_pos hg).trans (if_pos (gok_shT hg)), (if_pos hg).trans (if_pos (gok_shT hg))⟩
theorem wl_shT (hg : GOk v ts) : Wl (shT (cls (sS ts)) ts) := by
  have hS := gok_shT hg
  exact ⟨(gok_in hS).1, fun t ht p hp => tv_of ((hS.2.2 t ht).2.1 p hp).2.1, fun t ht => (hS.2.2 t ht).2.2⟩
theorem in_shT (hg : GOk v ts) : In (shT (cls (sS ts)) ts).length (lk (cls (sS ts)) v) := (gok_in (gok_shT hg)).2.1
/-- Tables that are the first of their class. -/
def Ld (ts : List (List Pr)) (i : Nat) : Prop := i < ts.length ∧ at0 (cls (sS ts)) i = i
theorem ld_lk (hg : GOk v ts) {x : V} (hx : In ts.length x) (h4 : (lk (cls (sS ts)) x).k = 4) : Ld ts (lk (cls (sS ts)) x).a.toNat := by
  have hG := (cls_fix (wl_srt hg).inn).1
  rw [List.length_map] at hG
  have h4' : x.k = 4 := by rw [lk_k] at h4; exact h4
  have h1 := hx h4'
  have hlt : x.a.toNat < ts.length := by omega
  have h2 := hG.le x.a.toNat hlt
  have e : (lk (cls (sS ts)) x).a.toNat = at0 (cls (sS ts)) x.a.toNat := by unfold lk at0; rw [if_pos h4']; simp only; omega
  rw [e]
  exact ⟨Nat.lt_of_le_of_lt h2 hlt, hG.idem _ hlt⟩
theorem k_dst (hg : GOk v ts) : Dst (shT (cls (sS ts)) ts) (Ld ts) := by
  intro i j hi hj h
  have e : ∀ i, Ld ts i → ∀ p, beh (shT (cls (sS ts)) ts) p (tb i) = beh (sS ts) p (tb i) := fun i hi p => by
    have := beh_look (wl_srt hg) p (tb i) (by rw [List.length_map]; exact tb_in hi.1)
    rw [lk_tb, hi.2] at this
    rw [shT_eq]; exact this
  have hb : Beq (sS ts) (sS ts) (tb i) (tb j) := fun p => by rw [← e i hi p, ← e j hj p]; exact h p
  have := (cls_iff (wl_srt hg) (i := i) (j := j) (by rw [List.length_map]; exact hi.1) (by rw [List.length_map]; exact hj.1)).2 hb
  rw [hi.2, hj.2] at this
  exact this
theorem k_mt (hg : GOk v ts) : Mt (shT (cls (sS ts)) ts) (Ld ts) (lk (cls (sS ts)) v) := by
  refine ⟨wl_shT hg, in_shT hg, tv_of (gok_shT hg).2.1, fun t ht p hp h4 => ?_, k_dst hg, fun h4 => ld_lk hg (gok_in hg).2.1 h4⟩
  obtain ⟨t0, ht0, rfl⟩ := List.mem_map.1 ht
  obtain ⟨q, hq, rfl⟩ := List.mem_map.1 hp
  exact ld_lk hg ((gok_in hg).1 t0 ht0 q ((srt_perm t0).mem_iff.1 hq)) h4
theorem k_uniq {w : V} {us : List (List Pr)} (hg : GOk v ts) (hg' : GOk w us) (h : Beq (sS ts) (sS us) v w) : kV v ts = kV w us ∧ kT v ts = kT w us := by
  have h2 : Beq (shT (cls (sS ts)) ts) (shT (cls (sS us)) us) (lk (cls (sS ts)) v) (lk (cls (sS us)) w) := fun p => by
    rw [shT_eq, shT_eq, beh_look (wl_srt hg) p v (gok_ins hg), beh_look (wl_srt hg') p w (gok_ins hg')]
    exact h p
  rw [(k_eq hg).1, (k_eq hg).2, (k_eq hg').1, (k_eq hg').2]
  exact mt_uniq (k_mt hg) (k_mt hg') h2
end
end Go.Proofs.YtkamfnmbidnhdaaDoor
/- What the drawer draws, as functions of the bytes and the cursor. No program in sight; no condition. -/
namespace Go.Sy
set_option linter.unusedVariables false
/-- The cursor: where it stands, and its seed. -/
abbrev DS := Nat × Int
def lo8 (st : Int) : Int := IntKind.i64.wrap (IntKind.u64.wrap (((BitVec.ofInt IntKind.u64.bits (st.fdiv (2 ^ 40)) &&& BitVec.ofInt IntKind.u64.bits 255).toNat : Nat) : Int))
def sd0 (st : Int) : Int := IntKind.u64.wrap (IntKind.u64.wrap (st * 6364136223846793005) + 1442695040888963407)
def sd1 (st x : Int) : Int := IntKind.u64.wrap (IntKind.u64.wrap (IntKind.u64.wrap (st * 6364136223846793005) + IntKind.u64.wrap x) + 1442695040888963407)
def nx (bs : List Int) (s : DS) : Int × DS := if s.1 < bs.length then (bs.getD s.1 0, (s.1 + 1, sd1 s.2 (bs.getD s.1 0))) else (lo8 (sd0 s.2), (s.1 + 1, sd0 s.2))
def pk (bs : List Int) (k : Nat) (s : DS) : Nat × DS :=
  if k ≤ 1 then (0, s) else if k ≤ 200 then ((nx bs s).1.toNat % k, (nx bs s).2) else (((nx bs s).1.toNat * 256 + (nx bs (nx bs s).2).1.toNat) % k, (nx bs (nx bs s).2).2)
theorem pk_lt (bs : List Int) {k : Nat} (s : DS) (h : 0 < k) : (pk bs k s).1 < k := by
  unfold pk
  split
  · exact h
  · split
    · exact Nat.mod_lt _ h
    · exact Nat.mod_lt _ h
theorem nx_at (bs : List Int) (s : DS) : (nx bs s).2.1 = s.1 + 1 := by unfold nx; split <;> rfl
theorem pk_at (bs : List Int) (k : Nat) (s : DS) : s.1 ≤ (pk bs k s).2.1 ∧ (pk bs k s).2.1 ≤ s.1 + 2 := by
  unfold pk
  split
  · exact ⟨Nat.le_refl _, Nat.le_add_right _ _⟩
  · split
    · rw [nx_at]; omega
    · rw [nx_at, nx_at]; omega
/-- whole -/
def whl (bs : List Int) (s : DS) : Int × DS :=
  let a := pk bs 6 s
  if a.1 = 0 then (9223372036854775807 - ((pk bs 3 a.2).1 : Int), (pk bs 3 a.2).2)
  else if a.1 = 1 then (-9223372036854775808 + ((pk bs 3 a.2).1 : Int), (pk bs 3 a.2).2)
  else if a.1 = 2 then (((pk bs 70000 a.2).1 : Int) - 35000, (pk bs 70000 a.2).2)
  else (((pk bs 12 a.2).1 : Int) - 3, (pk bs 12 a.2).2)
theorem whl_rng (bs : List Int) (s : DS) : -9223372036854775808 ≤ (whl bs s).1 ∧ (whl bs s).1 ≤ 9223372036854775807 := by
  unfold whl
  have h1 := pk_lt bs (k := 3) (pk bs 6 s).2 (by decide)
  have h2 := pk_lt bs (k := 70000) (pk bs 6 s).2 (by decide)
  have h3 := pk_lt bs (k := 12) (pk bs 6 s).2 (by decide)
  dsimp only
  split
  · dsimp only; omega
  · split
    · dsimp only; omega
    · split
      · dsimp only; omega
      · dsimp only; omega
/-- n bytes -/
def byD (bs : List Int) : Nat → DS → List UInt8 × DS
  | 0, s => ([], s)
  | n + 1, s => (UInt8.ofNat (nx bs s).1.toNat :: (byD bs n (nx bs s).2).1, (byD bs n (nx bs s).2).2)
theorem byD_len (bs : List Int) : ∀ (n : Nat) (s : DS), (byD bs n s).1.length = n
  | 0, _ => rfl
  | n + 1, s => by simp only [byD, List.length_cons, byD_len bs n]
theorem byD_at (bs : List Int) : ∀ (n : Nat) (s : DS), (byD bs n s).2.1 = s.1 + n
  | 0, _ => rfl
  | n + 1, s => by simp only [byD, byD_at bs n, nx_at]; omega
/-- one byte more -/
theorem byD_snoc (bs : List Int) : ∀ (n : Nat) (s : DS), byD bs (n + 1) s = ((byD bs n s).1 ++ [UInt8.ofNat (nx bs (byD bs n s).2).1.toNat], (nx bs (byD bs n s).2).2)
  | 0, s => rfl
  | n + 1, s => by
    rw [byD, byD_snoc bs n (nx bs s).2]
    rfl
def digT : List UInt8 := [48, 49, 50, 51, 52, 53, 54, 55, 56, 57]
def dbl : Nat → List UInt8
  | 0 => digT
  | n + 1 => dbl n ++ dbl n
theorem dbl_len : ∀ n, (dbl n).length = 10 * 2 ^ n
  | 0 => rfl
  | n + 1 => by rw [dbl, List.length_append, dbl_len n, Nat.pow_succ]; omega
/-- text -/
def txD (bs : List Int) (s : DS) : List UInt8 × DS :=
  let a := pk bs 30 s
  if a.1 = 0 then ((dbl 6).take (500 - (pk bs 2 a.2).1), (pk bs 2 a.2).2)
  else
    let b := pk bs 4 a.2
    if b.1 = 0 then ([], b.2)
    else if b.1 = 1 then byD bs (pk bs 4 b.2).1 (pk bs 4 b.2).2
    else ([UInt8.ofNat (97 + (pk bs 3 b.2).1)], (pk bs 3 b.2).2)
theorem txD_len (bs : List Int) (s : DS) : (txD bs s).1.length ≤ 500 := by
  unfold txD
  dsimp only
  split
  · rw [List.length_take]; omega
  · split
    · simp
    · split
      · rw [byD_len]
        have := pk_lt bs (k := 4) (pk bs 4 (pk bs 30 s).2).2 (by decide)
        omega
      · simp
theorem whl_at (bs : List Int) (s : DS) : s.1 ≤ (whl bs s).2.1 ∧ (whl bs s).2.1 ≤ s.1 + 4 := by
  unfold whl
  dsimp only
  have h0 := pk_at bs 6 s
  have h1 := pk_at bs 3 (pk bs 6 s).2
  have h2 := pk_at bs 70000 (pk bs 6 s).2
  have h3 := pk_at bs 12 (pk bs 6 s).2
  split
  · dsimp only; omega
  · split
    · dsimp only; omega
    · split <;> (dsimp only; omega)
theorem txD_at (bs : List Int) (s : DS) : s.1 ≤ (txD bs s).2.1 ∧ (txD bs s).2.1 ≤ s.1 + 12 := by
  unfold txD
  dsimp only
  have h0 := pk_at bs 30 s
  have h1 := pk_at bs 2 (pk bs 30 s).2
  have h2 := pk_at bs 4 (pk bs 30 s).2
  have h3 := pk_at bs 4 (pk bs 4 (pk bs 30 s).2).2
  have h4 := pk_at bs 3 (pk bs 4 (pk bs 30 s).2).2
  have h5 := pk_lt bs (k := 4) (pk bs 4 (pk bs 30 s).2).2 (by decide)
  split
  · dsimp only; omega
  · split
    · dsimp only; omega
    · split
      · rw [byD_at]; omega
      · dsimp only; omega
def nvV : V := ⟨0, 0, ⟨⟨[]⟩⟩, 0⟩
def inV (n : Int) : V := ⟨2, n, ⟨⟨[]⟩⟩, 0⟩
def boV (n : Int) : V := ⟨1, n, ⟨⟨[]⟩⟩, 0⟩
def teV (l : List UInt8) : V := ⟨3, 0, ⟨l.toArray⟩, 0⟩
def taV (a : Nat) : V := ⟨4, 0, ⟨⟨[]⟩⟩, (a : Int)⟩
/-- key -/
def kyD (bs : List Int) (s : DS) : V × DS :=
  let a := pk bs 4 s
  if a.1 = 0 then (boV ((pk bs 2 a.2).1 : Int), (pk bs 2 a.2).2)
  else if a.1 = 1 then (teV (txD bs a.2).1, (txD bs a.2).2)
  else if a.1 = 2 then
    let b := pk bs 6 a.2
    if b.1 = 0 then (inV (whl bs b.2).1, (whl bs b.2).2) else (inV ((pk bs 4 b.2).1 : Int), (pk bs 4 b.2).2)
  else (inV ((pk bs 4 a.2).1 : Int), (pk bs 4 a.2).2)
/-- val -/
def vaD (bs : List Int) (n : Nat) (s : DS) : V × DS :=
  if n = 0 then kyD bs s
  else
    let a := pk bs 3 s
    if a.1 = 0 then kyD bs a.2 else (taV (pk bs n a.2).1, (pk bs n a.2).2)
theorem kyD_at (bs : List Int) (s : DS) : s.1 ≤ (kyD bs s).2.1 ∧ (kyD bs s).2.1 ≤ s.1 + 20 := by
  unfold kyD
  dsimp only
  have h0 := pk_at bs 4 s
  have h1 := pk_at bs 2 (pk bs 4 s).2
  have h2 := txD_at bs (pk bs 4 s).2
  have h3 := pk_at bs 6 (pk bs 4 s).2
  have h4 := whl_at bs (pk bs 6 (pk bs 4 s).2).2
  have h5 := pk_at bs 4 (pk bs 6 (pk bs 4 s).2).2
  have h6 := pk_at bs 4 (pk bs 4 s).2
  split
  · dsimp only; omega
  · split
    · dsimp only; omega
    · split
      · split <;> (dsimp only; omega)
      · dsimp only; omega
theorem vaD_at (bs : List Int) (n : Nat) (s : DS) : s.1 ≤ (vaD bs n s).2.1 ∧ (vaD bs n s).2.1 ≤ s.1 + 30 := by
  unfold vaD
  have h0 := pk_at bs 3 s
  have h1 := kyD_at bs s
  have h2 := kyD_at bs (pk bs 3 s).2
  have h3 := pk_at bs n (pk bs 3 s).2
  split
  · omega
  · dsimp only
    split
    · omega
    · dsimp only; omega
/-- A key as the drawer makes it: of what kind, and how far. -/
structure DK (v : V) : Prop where
  form : (∃ n, v = boV n ∧ (n = 0 ∨ n = 1)) ∨ (∃ n, v = inV n ∧ -9223372036854775808 ≤ n ∧ n ≤ 9223372036854775807) ∨ ∃ l : List UInt8, v = teV l ∧ l.length ≤ 500
theorem kyD_ok (bs : List Int) (s : DS) : DK (kyD bs s).1 := by
  refine ⟨?_⟩
  unfold kyD
  dsimp only
  have h1 := pk_lt bs (k := 2) (pk bs 4 s).2 (by decide)
  have h2 := txD_len bs (pk bs 4 s).2
  have h4 := whl_rng bs (pk bs 6 (pk bs 4 s).2).2
  have h5 := pk_lt bs (k := 4) (pk bs 6 (pk bs 4 s).2).2 (by decide)
  have h6 := pk_lt bs (k := 4) (pk bs 4 s).2 (by decide)
  split
  · exact .inl ⟨_, rfl, by omega⟩
  · split
    · exact .inr (.inr ⟨_, rfl, h2⟩)
    · split
      · split
        · exact .inr (.inl ⟨_, rfl, h4⟩)
        · exact .inr (.inl ⟨_, rfl, by omega, by omega⟩)
      · exact .inr (.inl ⟨_, rfl, by omega, by omega⟩)
theorem vaD_ok (bs : List Int) (n : Nat) (s : DS) : DK (vaD bs n s).1 ∨ ∃ a, (vaD bs n s).1 = taV a ∧ a < n := by
  unfold vaD
  split
  · exact .inl (kyD_ok bs s)
  · dsimp only
    split
    · exact .inl (kyD_ok bs _)
    · exact .inr ⟨_, rfl, pk_lt bs _ (by omega)⟩
/-! ### a graph -/
def isK (t : List Pr) (k : V) : Bool := t.any fun p => decide (p.key.k = k.k ∧ p.key.n = k.n ∧ p.key.s = k.s ∧ p.key.a = k.a)
theorem isK_iff {t : List Pr} {k : V} : isK t k = true ↔ k ∈ t.map Pr.key := by
  unfold isK
  rw [List.any_eq_true, List.mem_map]
  constructor
  · rintro ⟨p, hp, h⟩
    refine ⟨p, hp, ?_⟩
    obtain ⟨h1, h2, h3, h4⟩ := of_decide_eq_true h
    cases hk : p.key; cases k
    rw [hk] at h1 h2 h3 h4
    simp only at h1 h2 h3 h4
    rw [h1, h2, h3, h4]
  · rintro ⟨p, hp, rfl⟩
    exact ⟨p, hp, decide_eq_true ⟨rfl, rfl, rfl, rfl⟩⟩
def nxP (bs : List Int) (n m k : Nat) (g : List Pr × DS) : List Pr × DS :=
  let a := kyD bs g.2
  let b := vaD bs n a.2
  let key := if m = 100 then inV (k : Int) else a.1
  (if isK g.1 key = true then g.1 else g.1 ++ [⟨key, b.1⟩], b.2)
/-- The first k pairs of m that are drawn. -/
def paD (bs : List Int) (n m : Nat) : Nat → DS → List Pr × DS
  | 0, s => ([], s)
  | k + 1, s => nxP bs n m k (paD bs n m k s)
def mD (bs : List Int) (s : DS) : Nat × DS :=
  let a := pk bs 4 s
  let b := pk bs 60 a.2
  (if b.1 = 0 then 100 else a.1, b.2)
def tbD (bs : List Int) (n : Nat) (s : DS) : List Pr × DS := paD bs n (mD bs s).1 (mD bs s).1 (mD bs s).2
/-- The first i tables of n. -/
def tsD (bs : List Int) (n : Nat) : Nat → DS → List (List Pr) × DS
  | 0, s => ([], s)
  | i + 1, s => ((tsD bs n i s).1 ++ [(tbD bs n (tsD bs n i s).2).1], (tbD bs n (tsD bs n i s).2).2)
def nD (bs : List Int) (s : DS) : Nat × DS :=
  let a := pk bs 9 s
  let b := pk bs 25 a.2
  (if b.1 = 0 then 200 else a.1, b.2)
/-- graph -/
def grD (bs : List Int) (s : DS) : (V × List (List Pr)) × DS :=
  let n := nD bs s
  let t := tsD bs n.1 n.1 n.2
  let v := vaD bs n.1 t.2
  if n.1 = 0 then ((v.1, t.1), v.2)
  else
    let a := pk bs 8 v.2
    ((if a.1 = 0 then v.1 else taV 0, t.1), a.2)
theorem mD_le (bs : List Int) (s : DS) : (mD bs s).1 ≤ 100 := by
  unfold mD
  have := pk_lt bs (k := 4) s (by decide)
  dsimp only
  split <;> omega
theorem nD_le (bs : List Int) (s : DS) : (nD bs s).1 ≤ 200 := by
  unfold nD
  have := pk_lt bs (k := 9) s (by decide)
  dsimp only
  split <;> omega
theorem mD_at (bs : List Int) (s : DS) : s.1 ≤ (mD bs s).2.1 ∧ (mD bs s).2.1 ≤ s.1 + 4 := by
  unfold mD
  have h1 := pk_at bs 4 s
  have h2 := pk_at bs 60 (pk bs 4 s).2
  dsimp only; omega
theorem nD_at (bs : List Int) (s : DS) : s.1 ≤ (nD bs s).2.1 ∧ (nD bs s).2.1 ≤ s.1 + 4 := by
  unfold nD
  have h1 := pk_at bs 9 s
  have h2 := pk_at bs 25 (pk bs 9 s).2
  dsimp only; omega
/-- A pair as the drawer makes it. -/
def DP (n : Nat) (p : Pr) : Prop := DK p.key ∧ (DK p.val ∨ ∃ a, p.val = taV a ∧ a < n)
structure DT (n : Nat) (t : List Pr) : Prop where
  ok : ∀ p ∈ t, DP n p
  nod : (t.map Pr.key).Nodup
theorem nodup_snoc {α : Type} {l : List α} {a : α} (h : l.Nodup) (ha : a ∉ l) : (l ++ [a]).Nodup :=
  List.nodup_append.2 ⟨h, by simp, fun x hx y hy e => ha (by rw [List.mem_singleton] at hy; rw [← hy, ← e]; exact hx)⟩
theorem paD_ok (bs : List Int) (n m : Nat) (s : DS) : ∀ k, k ≤ 100 → DT n (paD bs n m k s).1 ∧ (paD bs n m k s).1.length ≤ k ∧ s.1 ≤ (paD bs n m k s).2.1 ∧ (paD bs n m k s).2.1 ≤ s.1 + 50 * k
  | 0, _ => ⟨⟨fun p hp => (by cases hp), List.nodup_nil⟩, Nat.le_refl _, Nat.le_refl _, Nat.le_refl _⟩
  | k + 1, hk => by
    obtain ⟨h1, h2, h3, h4⟩ := paD_ok bs n m s k (by omega)
    have a1 := kyD_at bs (paD bs n m k s).2
    have a2 := vaD_at bs n (kyD bs (paD bs n m k s).2).2
    have hkey : DK (if m = 100 then inV (k : Int) else (kyD bs (paD bs n m k s).2).1) := by
      split
      · exact ⟨.inr (.inl ⟨_, rfl, by omega, by omega⟩)⟩
      · exact kyD_ok bs _
    simp only [paD, nxP]
    generalize (if m = 100 then inV (k : Int) else (kyD bs (paD bs n m k s).2).1) = key at hkey ⊢
    refine ⟨?_, ?_, by omega, by omega⟩
    · by_cases hm : isK (paD bs n m k s).1 key = true
      · rw [if_pos hm]; exact h1
      · rw [if_neg hm]
        refine ⟨fun p hp => ?_, ?_⟩
        · rcases List.mem_append.1 hp with hp | hp
          · exact h1.ok p hp
          · rw [List.mem_singleton] at hp; subst hp
            exact ⟨hkey, vaD_ok bs n _⟩
        · rw [List.map_append]
          exact nodup_snoc h1.nod fun e => hm (isK_iff.2 e)
    · split
      · omega
      · simp; omega
theorem tbD_ok (bs : List Int) (n : Nat) (s : DS) : DT n (tbD bs n s).1 ∧ (tbD bs n s).1.length ≤ 100 ∧ s.1 ≤ (tbD bs n s).2.1 ∧ (tbD bs n s).2.1 ≤ s.1 + 6000 := by
  have h1 := mD_le bs s
  have h2 := mD_at bs s
  obtain ⟨g1, g2, g3, g4⟩ := paD_ok bs n (mD bs s).1 (mD bs s).2 (mD bs s).1 h1
  unfold tbD
  exact ⟨g1, by omega, by omega, by omega⟩
theorem tsD_ok (bs : List Int) (n : Nat) (s : DS) : ∀ i, (tsD bs n i s).1.length = i ∧ (∀ t ∈ (tsD bs n i s).1, DT n t ∧ t.length ≤ 100) ∧ s.1 ≤ (tsD bs n i s).2.1 ∧ (tsD bs n i s).2.1 ≤ s.1 + 6000 * i
  | 0 => ⟨rfl, fun t ht => (by cases ht), Nat.le_refl _, Nat.le_refl _⟩
  | i + 1 => by
    obtain ⟨h1, h2, h3, h4⟩ := tsD_ok bs n s i
    obtain ⟨g1, g2, g3, g4⟩ := tbD_ok bs n (tsD bs n i s).2
    simp only [tsD]
    generalize 6000 = c6 at *
    have e6 : c6 * (i + 1) = c6 * i + c6 := Nat.mul_succ _ _
    refine ⟨by simp [h1], fun t ht => ?_, by omega, by omega⟩
    rcases List.mem_append.1 ht with ht | ht
    · exact h2 t ht
    · rw [List.mem_singleton] at ht; subst ht; exact ⟨g1, g2⟩
theorem grD_ok (bs : List Int) (s : DS) : (grD bs s).1.2.length ≤ 200 ∧ (DK (grD bs s).1.1 ∨ ∃ a, (grD bs s).1.1 = taV a ∧ a < (grD bs s).1.2.length) ∧ (∀ t ∈ (grD bs s).1.2, DT (grD bs s).1.2.length t ∧ t.length ≤ 100) ∧ s.1 ≤ (grD bs s).2.1 ∧ (grD bs s).2.1 ≤ s.1 + 2000000 := by
  have h1 := nD_le bs s
  have h2 := nD_at bs s
  obtain ⟨g1, g2, g3, g4⟩ := tsD_ok bs (nD bs s).1 (nD bs s).2 (nD bs s).1
  have h3 := vaD_ok bs (nD bs s).1 (tsD bs (nD bs s).1 (nD bs s).1 (nD bs s).2).2
  have h4 := vaD_at bs (nD bs s).1 (tsD bs (nD bs s).1 (nD bs s).1 (nD bs s).2).2
  have h5 := pk_at bs 8 (vaD bs (nD bs s).1 (tsD bs (nD bs s).1 (nD bs s).1 (nD bs s).2).2).2
  unfold grD
  dsimp only
  by_cases h0 : (nD bs s).1 = 0
  · rw [if_pos h0]
    dsimp only
    rw [g1]
    exact ⟨h1, h3, g2, by omega, by omega⟩
  · rw [if_neg h0]
    dsimp only
    rw [g1]
    refine ⟨h1, ?_, g2, by omega, by omega⟩
    split
    · exact h3
    · exact .inr ⟨0, rfl, by omega⟩
end Go.Sy
