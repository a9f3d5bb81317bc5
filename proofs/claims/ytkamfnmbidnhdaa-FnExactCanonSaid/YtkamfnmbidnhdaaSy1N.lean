/- The numbering of a graph's tables in the order in which they are met. -/
import Derived.Test.YtkamfnmbidnhdaaSyM
namespace Go.Sy
set_option linter.unusedVariables false
def go (ts : List (List Pr)) : Nat → List Nat → V → List Nat
  | 0, ord, _ => ord
  | f + 1, ord, v => if v.k = 4 then (if v.a.toNat ∈ ord then ord else (ts.getD v.a.toNat []).foldl (fun o p => go ts f o p.val) (ord ++ [v.a.toNat])) else ord
def goes (ts : List (List Pr)) (f : Nat) (ord : List Nat) (l : List Pr) : List Nat := l.foldl (fun o p => go ts f o p.val) ord
def ren (ord : List Nat) (v : V) : V := if v.k = 4 then ⟨v.k, v.n, v.s, (ord.idxOf v.a.toNat : Nat)⟩ else v
/-- A value that names a table there is. -/
def In (n : Nat) (v : V) : Prop := v.k = 4 → 0 ≤ v.a ∧ v.a < n
def AllIn (ts : List (List Pr)) : Prop := ∀ t ∈ ts, ∀ p ∈ t, In ts.length p.val
structure Nm (n : Nat) (ord : List Nat) : Prop where
  nodup : ord.Nodup
  lt : ∀ a ∈ ord, a < n
theorem Nm.len {n : Nat} {ord : List Nat} (h : Nm n ord) : ord.length ≤ n := by
  obtain ⟨h1, h2⟩ := h
  induction n generalizing ord with
  | zero =>
    cases ord with
    | nil => simp
    | cons a r => exact absurd (h2 a (.head _)) (by omega)
  | succ n ih =>
    by_cases hn : n ∈ ord
    · have := ih (ord := ord.erase n) (h1.erase n) (fun a ha => by
        have h3 := h2 a (List.mem_of_mem_erase ha)
        have : a ≠ n := fun e => by subst e; exact absurd ha (h1.not_mem_erase)
        omega)
      rw [List.length_erase_of_mem hn] at this
      omega
    · have := ih h1 (fun a ha => by
        have h3 := h2 a ha
        have : a ≠ n := fun e => hn (e ▸ ha)
        omega)
      omega
theorem Nm.snoc {n : Nat} {ord : List Nat} (h : Nm n ord) {a : Nat} (ha : a < n) (hn : a ∉ ord) : Nm n (ord ++ [a]) :=
  ⟨List.nodup_append.2 ⟨h.nodup, by simp, fun x hx y hy e => hn (by rw [List.mem_singleton] at hy; rw [← hy, ← e]; exact hx)⟩, fun x hx => by
    rcases List.mem_append.1 hx with hx | hx
    · exact h.lt x hx
    · rw [List.mem_singleton] at hx; omega⟩
theorem goes_snoc (ts : List (List Pr)) (f : Nat) (ord : List Nat) (l : List Pr) (p : Pr) : goes ts f ord (l ++ [p]) = go ts f (goes ts f ord l) p.val := by simp [goes]
theorem go_pre (ts : List (List Pr)) : ∀ (f : Nat) (ord : List Nat) (v : V), ord <+: go ts f ord v
  | 0, ord, v => List.prefix_rfl
  | f + 1, ord, v => by
    simp only [go]
    split
    · split
      · exact List.prefix_rfl
      · have : ∀ (l : List Pr) (o : List Nat), o <+: goes ts f o l := fun l => by
          induction l with
          | nil => exact fun o => List.prefix_rfl
          | cons p r ih => exact fun o => (go_pre ts f o p.val).trans (ih _)
        exact (List.prefix_append _ _).trans (this _ _)
    · exact List.prefix_rfl
theorem goes_pre (ts : List (List Pr)) (f : Nat) : ∀ (l : List Pr) (o : List Nat), o <+: goes ts f o l
  | [], o => List.prefix_rfl
  | p :: r, o => (go_pre ts f o p.val).trans (goes_pre ts f r _)
theorem go_nm {ts : List (List Pr)} (hA : AllIn ts) : ∀ (f : Nat) (ord : List Nat) (v : V), Nm ts.length ord → In ts.length v → Nm ts.length (go ts f ord v)
  | 0, ord, v, h, _ => h
  | f + 1, ord, v, h, hv => by
    simp only [go]
    split
    · rename_i hk
      split
      · exact h
      · rename_i hn
        have hlt : v.a.toNat < ts.length := by have := hv hk; omega
        have key : ∀ (l : List Pr) (o : List Nat), (∀ p ∈ l, In ts.length p.val) → Nm ts.length o → Nm ts.length (goes ts f o l) := fun l => by
          induction l with
          | nil => exact fun o _ h => h
          | cons p r ih => exact fun o hl h => ih _ (fun q hq => hl q (.tail _ hq)) (go_nm hA f o p.val h (hl p (.head _)))
        refine key _ _ (fun p hp => ?_) (h.snoc hlt hn)
        rw [List.getD_eq_getElem?_getD, List.getElem?_eq_getElem hlt] at hp
        exact hA _ (List.getElem_mem hlt) p hp
    · exact h
theorem goes_nm {ts : List (List Pr)} (hA : AllIn ts) (f : Nat) : ∀ (l : List Pr) (o : List Nat), (∀ p ∈ l, In ts.length p.val) → Nm ts.length o → Nm ts.length (goes ts f o l)
  | [], o, _, h => h
  | p :: r, o, hl, h => goes_nm hA f r _ (fun q hq => hl q (.tail _ hq)) (go_nm hA f o p.val h (hl p (.head _)))
theorem go_mem (ts : List (List Pr)) (f : Nat) (ord : List Nat) (v : V) (h4 : v.k = 4) : v.a.toNat ∈ go ts (f + 1) ord v := by
  simp only [go, if_pos h4]
  split
  · assumption
  · exact (goes_pre ts f _ _).subset (by simp)
theorem go_new {ts : List (List Pr)} {f : Nat} {ord : List Nat} {v : V} {t : List Pr} (h4 : v.k = 4) (hn : v.a.toNat ∉ ord) (ht : ts[v.a.toNat]? = some t) : go ts (f + 1) ord v = goes ts f (ord ++ [v.a.toNat]) t := by
  simp only [go, if_pos h4, if_neg hn, goes]
  rw [List.getD_eq_getElem?_getD, ht]; rfl
theorem go_old {ts : List (List Pr)} {f : Nat} {ord : List Nat} {v : V} (h4 : v.k = 4) (hn : v.a.toNat ∈ ord) : go ts (f + 1) ord v = ord := by simp only [go, if_pos h4, if_pos hn]
theorem go_leaf {ts : List (List Pr)} {f : Nat} {ord : List Nat} {v : V} (h4 : v.k ≠ 4) : go ts f ord v = ord := by cases f <;> simp [go, h4]
theorem idx_pre {ord ord' : List Nat} (h : ord <+: ord') {a : Nat} (ha : a ∈ ord) : ord'.idxOf a = ord.idxOf a := by
  obtain ⟨t, rfl⟩ := h
  rw [List.idxOf_append, if_pos ha]
theorem ren_pre {ord ord' : List Nat} (h : ord <+: ord') {v : V} (ha : v.k = 4 → v.a.toNat ∈ ord) : ren ord' v = ren ord v := by
  unfold ren
  split
  · rename_i h4; rw [idx_pre h (ha h4)]
  · rfl
/-- What is new is closed: the tables that it names are in the order. -/
def New (ts : List (List Pr)) (ord ord' : List Nat) : Prop := ∀ a ∈ ord', a ∉ ord → ∀ t, ts[a]? = some t → ∀ p ∈ t, p.val.k = 4 → p.val.a.toNat ∈ ord'
theorem New.refl (ts : List (List Pr)) (ord : List Nat) : New ts ord ord := fun a h h' => absurd h h'
theorem New.trans {ts : List (List Pr)} {a b c : List Nat} (h : New ts a b) (g : New ts b c) (hp : b <+: c) : New ts a c := fun x hx hn t ht p hpt h4 => by
  by_cases hb : x ∈ b
  · exact hp.subset (h x hb hn t ht p hpt h4)
  · exact g x hx hb t ht p hpt h4
theorem go_closed {ts : List (List Pr)} (hA : AllIn ts) : ∀ (f : Nat) (ord : List Nat) (v : V), Nm ts.length ord → In ts.length v → ts.length - ord.length < f → New ts ord (go ts f ord v)
  | 0, ord, v, _, _, h => absurd h (by omega)
  | f + 1, ord, v, hN, hv, hf => by
    by_cases h4 : v.k = 4
    · by_cases hin : v.a.toNat ∈ ord
      · rw [go_old h4 hin]; exact New.refl _ _
      · have hlt : v.a.toNat < ts.length := by have := hv h4; omega
        have hix : ts[v.a.toNat]? = some ts[v.a.toNat] := List.getElem?_eq_getElem hlt
        rw [go_new h4 hin hix]
        have hN1 := hN.snoc hlt hin
        have hl1 := hN1.len
        simp only [List.length_append, List.length_singleton] at hl1
        have key : ∀ (l : List Pr) (o : List Nat), (∀ p ∈ l, In ts.length p.val) → Nm ts.length o → ord.length + 1 ≤ o.length → New ts o (goes ts f o l) ∧ ∀ p ∈ l, p.val.k = 4 → p.val.a.toNat ∈ goes ts f o l := fun l => by
          induction l with
          | nil => exact fun o _ _ _ => ⟨New.refl _ _, fun p hp => by cases hp⟩
          | cons p r ih =>
            intro o hl hN hlen
            have hfo : ts.length - o.length < f := by omega
            have h1 := go_closed hA f o p.val hN (hl p (.head _)) hfo
            have h2 := ih (go ts f o p.val) (fun q hq => hl q (.tail _ hq)) (go_nm hA f o p.val hN (hl p (.head _))) (Nat.le_trans hlen (go_pre ts f o p.val).length_le)
            refine ⟨h1.trans h2.1 (goes_pre ts f r _), fun q hq h4 => ?_⟩
            rcases List.mem_cons.1 hq with rfl | hq
            · obtain ⟨f', rfl⟩ : ∃ f', f = f' + 1 := ⟨f - 1, by omega⟩
              exact (goes_pre ts _ r _).subset (go_mem ts f' o q.val h4)
            · exact h2.2 q hq h4
        obtain ⟨k1, k2⟩ := key ts[v.a.toNat] (ord ++ [v.a.toNat]) (hA _ (List.getElem_mem hlt)) hN1 (by simp)
        intro a ha hn t ht p hp hp4
        by_cases hb : a ∈ ord ++ [v.a.toNat]
        · rcases List.mem_append.1 hb with hb | hb
          · exact absurd hb hn
          · rw [List.mem_singleton] at hb
            subst hb
            rw [hix] at ht; have e := Option.some.inj ht; subst e
            exact k2 p hp hp4
        · exact k1 a ha hb t ht p hp hp4
    · rw [go_leaf h4]; exact New.refl _ _
def nPr (ord : List Nat) (p : Pr) : Pr := ⟨p.key, ren ord p.val⟩
/-- The tables in the order in which they are met, their values renamed. -/
def cTs (ts : List (List Pr)) (ord : List Nat) : List (List Pr) := ord.map fun a => (ts.getD a []).map (nPr ord)
/-- A graph's order. -/
def ordOf (ts : List (List Pr)) (v : V) : List Nat := go ts (ts.length + 1) [] v
theorem nm_nil (n : Nat) : Nm n [] := ⟨List.nodup_nil, fun a h => by cases h⟩
theorem ordOf_nm {ts : List (List Pr)} (hA : AllIn ts) {v : V} (hv : In ts.length v) : Nm ts.length (ordOf ts v) := go_nm hA _ _ _ (nm_nil _) hv
theorem ordOf_in {ts : List (List Pr)} (hA : AllIn ts) {v : V} (hv : In ts.length v) {a : Nat} (ha : a ∈ ordOf ts v) {t : List Pr} (ht : ts[a]? = some t) {p : Pr} (hp : p ∈ t) (h4 : p.val.k = 4) : p.val.a.toNat ∈ ordOf ts v :=
  go_closed hA _ _ _ (nm_nil _) hv (by simp) a ha (by simp) t ht p hp h4
/-- The numbers, as a row: -1 where there is none. -/
def numL (n : Nat) (ord : List Nat) : List Value := (List.range n).map fun a => .int .i64 (if a ∈ ord then (ord.idxOf a : Int) else -1)
theorem numL_len (n : Nat) (ord : List Nat) : (numL n ord).length = n := by simp [numL]
theorem numL_get {n : Nat} {ord : List Nat} {a : Nat} (h : a < n) : (numL n ord)[a]? = some (.int .i64 (if a ∈ ord then (ord.idxOf a : Int) else -1)) := by simp [numL, h]
theorem numL_set {n : Nat} {ord : List Nat} {a : Nat} (h : a < n) (hn : a ∉ ord) : setL (numL n ord) a [.int .i64 (ord.length : Int)] = numL n (ord ++ [a]) := by
  apply List.ext_getElem?
  intro j
  rw [setL_get _ _ _ (by simp [numL_len]; omega)]
  by_cases hj : j < n
  · rw [numL_get hj, numL_get hj]
    by_cases e : j = a
    · subst e
      rw [if_pos (by simp), if_pos (by simp), List.idxOf_append, if_neg hn]
      simp
    · rw [if_neg (by simp; omega)]
      have : j ∈ ord ++ [a] ↔ j ∈ ord := by simp [e]
      simp only [this]
      split
      · rename_i hm; rw [List.idxOf_append, if_pos hm]
      · rfl
  · have h1 : (numL n (ord ++ [a]))[j]? = none := by simp [numL]; omega
    have h2 : (numL n ord)[j]? = none := by simp [numL]; omega
    rw [h1, h2, if_neg (by simp; omega)]
end Go.Sy
