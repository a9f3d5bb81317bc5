/- A Builder's text. No condition. -/
import Derived.Test.YtkamfnmbidnhdaaDoorSqAF
import Derived.Test.YtkamfnmbidnhdaaDoorSqAE
import Derived.Test.YtkamfnmbidnhdaaDoorSqAC
import Derived.Laws.StructEq
import Derived.WideKeyEntry
set_option linter.unusedVariables false
set_option linter.unusedSimpArgs false
set_option linter.unusedSectionVars false
namespace Go.Proofs.YtkamfnmbidnhdaaDoor
open Go.Sy
set_option maxRecDepth 100000
set_option maxHeartbeats 4000000
set_option linter.unusedVariables false
set_option linter.unusedSimpArgs false
theorem cellsU8 : Tryd.prog.cellsOf 5 = 1 := by kernel_rfl
theorem ptw_keep {u u5 : Hp} {g : Nat} (hu5 : ∀ z, z ≠ g → u5 z = u z) : Le (ptw u (some ⟨g, 0, none⟩)) u5 := fun z ox hz => by
  unfold ptw at hz
  split at hz
  · cases hz
  · rename_i hzz; rw [hu5 z (fun e => hzz (by rw [e]; rfl))]; exact hz
theorem stringB (h0 u : Hp) (pb : Nat) (e : TypeId) (pre post : List Value) (ad : Value) (A : Option Addr) (c : Nat) (o : List UInt8) (hB : BSt h0 u pb e pre post ad A c o) (hne : o ≠ []) (hs : o.length ≤ 1000000000) :
    TriS Tryd.prog 72 [.v (.pointer (some ⟨pb, pre.length, none⟩))] [] u (fun _ : Unit => .v (.string ⟨o.toArray⟩)) (fun _ => []) (fun _ u' => ∀ z ox, blk A ≠ some z → u z = some ox → u' z = some ox) := by
  have hpos : 0 < o.length := by cases o with | nil => exact absurd rfl hne | cons a r => simp
  obtain ⟨g, off, rfl⟩ := own_some hB.own hpos
  obtain rfl : off = 0 := hB.hd _ rfl
  have hcap := hB.own.cap
  have hat0 := hB.at_
  have hat : At (ptw u (some ⟨g, 0, none⟩)) pb pre.length [ad, .slice (some ⟨g, 0, none⟩) o.length c] := by
    obtain ⟨arr, t, fr, g1, g2⟩ := hat0
    exact ⟨arr, t, fr, by unfold ptw; rw [if_neg hB.ap]; exact g1, g2⟩
  refine enterS Tryd.func72 rfl (n := 14) rfl rfl (fun k N => ?_)
  repeat' (first | (refine r_pure hT rfl rfl rfl rfl ?_) | (refine r_new hT rfl rfl rfl rfl ?_) | (refine r_write hT rfl rfl rfl ?_) | (refine r_nil ?_) | (refine q_nil ?_) | (refine r_many (id := 1) [0, 1, 2, 3, 5, 6, 7, 8, 9] [] (ptw u (some ⟨g, 0, none⟩)) (ptw_le u _) hM (by kernel_rfl) rfl (by kernel_rfl) rfl rfl rfl (fun β0 => ?_)) | (refine r_load hT hat rfl rfl rfl rfl rfl rfl rfl rfl rfl rfl rfl ?_) | (refine r_sldata (by omega) rfl rfl rfl rfl rfl ?_) | (refine m_keep (ptw_le u _) trivial rfl rfl ?_) | (refine r_ustring (bs := o) Tryd.underlying151 cellsU8 hne (by omega) rfl hB.own rfl rfl rfl rfl rfl rfl (fun u5 hu5 => ?_)) | (refine m_keep (ptw_keep hu5) trivial rfl rfl ?_) | (refine r_arith rfl rfl rfl rfl rfl rfl rfl (by omega) ?_) | (with_reducible refine r_seq ?_) | (with_reducible refine x_then ?_) | (with_reducible refine r_region ?_) | (with_reducible refine r_skip ?_) | (with_reducible refine r_ret ?_) | (with_reducible refine x_then_ret ?_) | (with_reducible refine r_block ?_) | (with_reducible refine x_block ?_) | (with_reducible refine x_block_ret ?_) | (with_reducible refine r_exit ?_) | (with_reducible refine x_then_exit ?_) | (with_reducible refine x_block_here ?_) | (refine x_block_past rfl ?_) | (refine c_yes rfl (by omega) ?_) | (refine c_no rfl (by omega) ?_) | (refine c_no rfl (fun h => h rfl) ?_) | (refine r_cond_false rfl ?_) | (refine r_cond_true rfl ?_) | (refine r_cond_dec rfl (fun _ => ?_) (fun _ => ?_)) | (refine r_cond_true rfl ?_) | (refine r_cond_false rfl ?_) | (refine c_not rfl (fun _ => ?_) (fun _ => ?_)) | (refine r_off rfl rfl rfl ?_) | (refine q_guard rfl rfl (fun _ => ?_) (fun _ => ?_)) | (refine q_guardn rfl rfl (fun _ => ?_) (fun _ => ?_)) | (refine s_nil ?_) | (with_reducible refine a_full ?_) | (refine m_step rfl rfl (List.cons_ne_nil _ _) ?_) | (refine allR_cons rfl ?_ ?_) | (exact allR_nil) | (refine m_end rfl rfl rfl ?_))
  exact r_fin hT rfl () rfl rfl rfl trivial rfl (fun z ox hz hu => by rw [hu5 z (fun e => hz (by rw [e]; rfl))]; exact hu)
end Go.Proofs.YtkamfnmbidnhdaaDoor
/- A simple value's text: the plain function. -/
namespace Go.Sy
def plT (v : V) : List UInt8 := if v.k = 1 then (if v.n = 1 then [116, 114, 117, 101] else [102, 97, 108, 115, 101]) else if v.k = 2 then Lib.itoa v.n else if v.k = 3 then qt v.s.data.toList else [110, 105, 108]
/-- A value whose number is an int64 and whose text is not too long. -/
def V.fit (v : V) : Prop := (-9223372036854775808 ≤ v.n ∧ v.n ≤ 9223372036854775807) ∧ v.s.size ≤ 1000000
end Go.Sy
/- The specification's text of a simple value; its writer. No condition. -/
namespace Go.Proofs.YtkamfnmbidnhdaaDoor
open Go.Sy
set_option maxRecDepth 100000
set_option maxHeartbeats 4000000
set_option linter.unusedVariables false
set_option linter.unusedSimpArgs false
end Go.Proofs.YtkamfnmbidnhdaaDoor
/- The numbering of a graph's tables in the order in which they are met. -/
namespace Go.Sy
set_option linter.unusedVariables false
def go (ts : List (List Pr)) : Nat → List Nat → V → List Nat
  | 0, ord, _ => ord
  | f + 1, ord, v => if v.k = 4 then (if v.a.toNat ∈ ord then ord else (ts.getD v.a.toNat []).foldl (fun o p => go ts f o p.val) (ord ++ [v.a.toNat])) else ord
def goes (ts : List (List Pr)) (f : Nat) (ord : List Nat) (l : List Pr) : List Nat := l.foldl (fun o p => go ts f o p.val) ord
def ren (ord : List Nat) (v : V) : V := if v.k = 4 then ⟨v.k, v.n, v.s, (ord.idxOf v.a.toNat : Nat)⟩ else v
/-- A value that names a table there is. -/
def In (n : Nat) (v : V) : Prop := v.k = 4 → 0 ≤ v.a ∧ v.a < n
def AllIn (ts : List (List Pr)) : Prop := ∀ t ∈ ts, ∀ p ∈ t, In ts.length p.val
structure Nm (n : Nat) (ord : List Nat) : Prop where
  nodup : ord.Nodup
  lt : ∀ a ∈ ord, a < n
theorem Nm.len {n : Nat} {ord : List Nat} (h : Nm n ord) : ord.length ≤ n := by
  obtain ⟨h1, h2⟩ := h
  induction n generalizing ord with
  | zero =>
    cases ord with
    | nil => simp
    | cons a r => exact absurd (h2 a (.head _)) (by omega)
  | succ n ih =>
    by_cases hn : n ∈ ord
    · have := ih (ord := ord.erase n) (h1.erase n) (fun a ha => by
        have h3 := h2 a (List.mem_of_mem_erase ha)
        have : a ≠ n := fun e => by subst e; exact absurd ha (h1.not_mem_erase)
        omega)
      rw [List.length_erase_of_mem hn] at this
      omega
    · have := ih h1 (fun a ha => by
        have h3 := h2 a ha
        have : a ≠ n := fun e => hn (e ▸ ha)
        omega)
      omega
theorem Nm.snoc {n : Nat} {ord : List Nat} (h : Nm n ord) {a : Nat} (ha : a < n) (hn : a ∉ ord) : Nm n (ord ++ [a]) :=
  ⟨List.nodup_append.2 ⟨h.nodup, by simp, fun x hx y hy e => hn (by rw [List.mem_singleton] at hy; rw [← hy, ← e]; exact hx)⟩, fun x hx => by
    rcases List.mem_append.1 hx with hx | hx
    · exact h.lt x hx
    · rw [List.mem_singleton] at hx; omega⟩
theorem goes_snoc (ts : List (List Pr)) (f : Nat) (ord : List Nat) (l : List Pr) (p : Pr) : goes ts f ord (l ++ [p]) = go ts f (goes ts f ord l) p.val := by simp [goes]
theorem go_pre (ts : List (List Pr)) : ∀ (f : Nat) (ord : List Nat) (v : V), ord <+: go ts f ord v
  | 0, ord, v => List.prefix_rfl
  | f + 1, ord, v => by
    simp only [go]
    split
    · split
      · exact List.prefix_rfl
      · have : ∀ (l : List Pr) (o : List Nat), o <+: goes ts f o l := fun l => by
          induction l with
          | nil => exact fun o => List.prefix_rfl
          | cons p r ih => exact fun o => (go_pre ts f o p.val).trans (ih _)
        exact (List.prefix_append _ _).trans (this _ _)
    · exact List.prefix_rfl
theorem goes_pre (ts : List (List Pr)) (f : Nat) : ∀ (l : List Pr) (o : List Nat), o <+: goes ts f o l
  | [], o => List.prefix_rfl
  | p :: r, o => (go_pre ts f o p.val).trans (goes_pre ts f r _)
theorem go_nm {ts : List (List Pr)} (hA : AllIn ts) : ∀ (f : Nat) (ord : List Nat) (v : V), Nm ts.length ord → In ts.length v → Nm ts.length (go ts f ord v)
  | 0, ord, v, h, _ => h
  | f + 1, ord, v, h, hv => by
    simp only [go]
    split
    · rename_i hk
      split
      · exact h
      · rename_i hn
        have hlt : v.a.toNat < ts.length := by have := hv hk; omega
        have key : ∀ (l : List Pr) (o : List Nat), (∀ p ∈ l, In ts.length p.val) → Nm ts.length o → Nm ts.length (goes ts f o l) := fun l => by
          induction l with
          | nil => exact fun o _ h => h
          | cons p r ih => exact fun o hl h => ih _ (fun q hq => hl q (.tail _ hq)) (go_nm hA f o p.val h (hl p (.head _)))
        refine key _ _ (fun p hp => ?_) (h.snoc hlt hn)
        rw [List.getD_eq_getElem?_getD, List.getElem?_eq_getElem hlt] at hp
        exact hA _ (List.getElem_mem hlt) p hp
    · exact h
theorem goes_nm {ts : List (List Pr)} (hA : AllIn ts) (f : Nat) : ∀ (l : List Pr) (o : List Nat), (∀ p ∈ l, In ts.length p.val) → Nm ts.length o → Nm ts.length (goes ts f o l)
  | [], o, _, h => h
  | p :: r, o, hl, h => goes_nm hA f r _ (fun q hq => hl q (.tail _ hq)) (go_nm hA f o p.val h (hl p (.head _)))
theorem go_mem (ts : List (List Pr)) (f : Nat) (ord : List Nat) (v : V) (h4 : v.k = 4) : v.a.toNat ∈ go ts (f + 1) ord v := by
  simp only [go, if_pos h4]
  split
  · assumption
  · exact (goes_pre ts f _ _).subset (by simp)
theorem go_new {ts : List (List Pr)} {f : Nat} {ord : List Nat} {v : V} {t : List Pr} (h4 : v.k = 4) (hn : v.a.toNat ∉ ord) (ht : ts[v.a.toNat]? = some t) : go ts (f + 1) ord v = goes ts f (ord ++ [v.a.toNat]) t := by
  simp only [go, if_pos h4, if_neg hn, goes]
  rw [List.getD_eq_getElem?_getD, ht]; rfl
theorem go_old {ts : List (List Pr)} {f : Nat} {ord : List Nat} {v : V} (h4 : v.k = 4) (hn : v.a.toNat ∈ ord) : go ts (f + 1) ord v = ord := by simp only [go, if_pos h4, if_pos hn]
theorem go_leaf {ts : List (List Pr)} {f : Nat} {ord : List Nat} {v : V} (h4 : v.k ≠ 4) : go ts f ord v = ord := by cases f <;> simp [go, h4]
theorem idx_pre {ord ord' : List Nat} (h : ord <+: ord') {a : Nat} (ha : a ∈ ord) : ord'.idxOf a = ord.idxOf a := by
  obtain ⟨t, rfl⟩ := h
  rw [List.idxOf_append, if_pos ha]
theorem ren_pre {ord ord' : List Nat} (h : ord <+: ord') {v : V} (ha : v.k = 4 → v.a.toNat ∈ ord) : ren ord' v = ren ord v := by
  unfold ren
  split
  · rename_i h4; rw [idx_pre h (ha h4)]
  · rfl
/-- What is new is closed: the tables that it names are in the order. -/
def New (ts : List (List Pr)) (ord ord' : List Nat) : Prop := ∀ a ∈ ord', a ∉ ord → ∀ t, ts[a]? = some t → ∀ p ∈ t, p.val.k = 4 → p.val.a.toNat ∈ ord'
theorem New.refl (ts : List (List Pr)) (ord : List Nat) : New ts ord ord := fun a h h' => absurd h h'
theorem New.trans {ts : List (List Pr)} {a b c : List Nat} (h : New ts a b) (g : New ts b c) (hp : b <+: c) : New ts a c := fun x hx hn t ht p hpt h4 => by
  by_cases hb : x ∈ b
  · exact hp.subset (h x hb hn t ht p hpt h4)
  · exact g x hx hb t ht p hpt h4
theorem go_closed {ts : List (List Pr)} (hA : AllIn ts) : ∀ (f : Nat) (ord : List Nat) (v : V), Nm ts.length ord → In ts.length v → ts.length - ord.length < f → New ts ord (go ts f ord v)
  | 0, ord, v, _, _, h => absurd h (by omega)
  | f + 1, ord, v, hN, hv, hf => by
    by_cases h4 : v.k = 4
    · by_cases hin : v.a.toNat ∈ ord
      · rw [go_old h4 hin]; exact New.refl _ _
      · have hlt : v.a.toNat < ts.length := by have := hv h4; omega
        have hix : ts[v.a.toNat]? = some ts[v.a.toNat] := List.getElem?_eq_getElem hlt
        rw [go_new h4 hin hix]
        have hN1 := hN.snoc hlt hin
        have hl1 := hN1.len
        simp only [List.length_append, List.length_singleton] at hl1
        have key : ∀ (l : List Pr) (o : List Nat), (∀ p ∈ l, In ts.length p.val) → Nm ts.length o → ord.length + 1 ≤ o.length → New ts o (goes ts f o l) ∧ ∀ p ∈ l, p.val.k = 4 → p.val.a.toNat ∈ goes ts f o l := fun l => by
          induction l with
          | nil => exact fun o _ _ _ => ⟨New.refl _ _, fun p hp => by cases hp⟩
          | cons p r ih =>
            intro o hl hN hlen
            have hfo : ts.length - o.length < f := by omega
            have h1 := go_closed hA f o p.val hN (hl p (.head _)) hfo
            have h2 := ih (go ts f o p.val) (fun q hq => hl q (.tail _ hq)) (go_nm hA f o p.val hN (hl p (.head _))) (Nat.le_trans hlen (go_pre ts f o p.val).length_le)
            refine ⟨h1.trans h2.1 (goes_pre ts f r _), fun q hq h4 => ?_⟩
            rcases List.mem_cons.1 hq with rfl | hq
            · obtain ⟨f', rfl⟩ : ∃ f', f = f' + 1 := ⟨f - 1, by omega⟩
              exact (goes_pre ts _ r _).subset (go_mem ts f' o q.val h4)
            · exact h2.2 q hq h4
        obtain ⟨k1, k2⟩ := key ts[v.a.toNat] (ord ++ [v.a.toNat]) (hA _ (List.getElem_mem hlt)) hN1 (by simp)
        intro a ha hn t ht p hp hp4
        by_cases hb : a ∈ ord ++ [v.a.toNat]
        · rcases List.mem_append.1 hb with hb | hb
          · exact absurd hb hn
          · rw [List.mem_singleton] at hb
            subst hb
            rw [hix] at ht; have e := Option.some.inj ht; subst e
            exact k2 p hp hp4
        · exact k1 a ha hb t ht p hp hp4
    · rw [go_leaf h4]; exact New.refl _ _
def nPr (ord : List Nat) (p : Pr) : Pr := ⟨p.key, ren ord p.val⟩
/-- The tables in the order in which they are met, their values renamed. -/
def cTs (ts : List (List Pr)) (ord : List Nat) : List (List Pr) := ord.map fun a => (ts.getD a []).map (nPr ord)
/-- A graph's order. -/
def ordOf (ts : List (List Pr)) (v : V) : List Nat := go ts (ts.length + 1) [] v
theorem nm_nil (n : Nat) : Nm n [] := ⟨List.nodup_nil, fun a h => by cases h⟩
theorem ordOf_nm {ts : List (List Pr)} (hA : AllIn ts) {v : V} (hv : In ts.length v) : Nm ts.length (ordOf ts v) := go_nm hA _ _ _ (nm_nil _) hv
theorem ordOf_in {ts : List (List Pr)} (hA : AllIn ts) {v : V} (hv : In ts.length v) {a : Nat} (ha : a ∈ ordOf ts v) {t : List Pr} (ht : ts[a]? = some t) {p : Pr} (hp : p ∈ t) (h4 : p.val.k = 4) : p.val.a.toNat ∈ ordOf ts v :=
  go_closed hA _ _ _ (nm_nil _) hv (by simp) a ha (by simp) t ht p hp h4
/-- The numbers, as a row: -1 where there is none. -/
def numL (n : Nat) (ord : List Nat) : List Value := (List.range n).map fun a => .int .i64 (if a ∈ ord then (ord.idxOf a : Int) else -1)
theorem numL_len (n : Nat) (ord : List Nat) : (numL n ord).length = n := by simp [numL]
theorem numL_get {n : Nat} {ord : List Nat} {a : Nat} (h : a < n) : (numL n ord)[a]? = some (.int .i64 (if a ∈ ord then (ord.idxOf a : Int) else -1)) := by simp [numL, h]
theorem numL_set {n : Nat} {ord : List Nat} {a : Nat} (h : a < n) (hn : a ∉ ord) : setL (numL n ord) a [.int .i64 (ord.length : Int)] = numL n (ord ++ [a]) := by
  apply List.ext_getElem?
  intro j
  rw [setL_get _ _ _ (by simp [numL_len]; omega)]
  by_cases hj : j < n
  · rw [numL_get hj, numL_get hj]
    by_cases e : j = a
    · subst e
      rw [if_pos (by simp), if_pos (by simp), List.idxOf_append, if_neg hn]
      simp
    · rw [if_neg (by simp; omega)]
      have : j ∈ ord ++ [a] ↔ j ∈ ord := by simp [e]
      simp only [this]
      split
      · rename_i hm; rw [List.idxOf_append, if_pos hm]
      · rfl
  · have h1 : (numL n (ord ++ [a]))[j]? = none := by simp [numL]; omega
    have h2 : (numL n ord)[j]? = none := by simp [numL]; omega
    rw [h1, h2, if_neg (by simp; omega)]
end Go.Sy
/- A graph's text: the plain law. Labels in the order in which tables are met; a table that is led to once needs none. -/
namespace Go.Sy
set_option linter.unusedVariables false
structure TS where
  L : List Nat
  o : List UInt8
section
variable (ts : List (List Pr)) (m : Nat → Bool) (pl : V → List UInt8) (dc : Nat → List UInt8)
def txp (g : TS → V → Option TS) : Bool → List Pr → TS → Option TS
  | _, [], s => some s
  | b, p :: r, s => match g ⟨s.L, s.o ++ (if b then [44, 32] else []) ++ pl p.key ++ [58, 32]⟩ p.val with
    | none => none
    | some s' => txp g true r s'
def tx0 (s : TS) (a : Nat) : TS := if m a then ⟨s.L ++ [a], s.o ++ (35 :: dc (s.L.length + 1) ++ [61]) ++ [123]⟩ else ⟨s.L, s.o ++ [123]⟩
def tx : Nat → TS → V → Option TS
  | 0, _, _ => none
  | f + 1, s, v => if v.k = 4 then
      if v.a.toNat ∈ s.L then some ⟨s.L, s.o ++ (35 :: dc (s.L.idxOf v.a.toNat + 1))⟩
      else match txp pl (tx f) false (ts.getD v.a.toNat []) (tx0 m dc s v.a.toNat) with
        | none => none
        | some s' => some ⟨s'.L, s'.o ++ [125]⟩
    else some ⟨s.L, s.o ++ pl v⟩
/-- The tables that are led to, in the order in which that is met. -/
def rf : Nat → List Nat → V → List Nat
  | 0, rs, _ => rs
  | f + 1, rs, v => if v.k = 4 then (if v.a.toNat ∈ rs then rs ++ [v.a.toNat] else (ts.getD v.a.toNat []).foldl (fun o p => rf f o p.val) (rs ++ [v.a.toNat])) else rs
def rfs (f : Nat) (rs : List Nat) (l : List Pr) : List Nat := l.foldl (fun o p => rf ts f o p.val) rs
end
section
variable {ts : List (List Pr)} {m : Nat → Bool} {pl : V → List UInt8} {dc : Nat → List UInt8}
theorem rf_leaf {f : Nat} {rs : List Nat} {v : V} (h : v.k ≠ 4) : rf ts f rs v = rs := by cases f <;> simp [rf, h]
theorem rf_old {f : Nat} {rs : List Nat} {v : V} (h : v.k = 4) (hm : v.a.toNat ∈ rs) : rf ts (f + 1) rs v = rs ++ [v.a.toNat] := by simp only [rf, if_pos h, if_pos hm]
theorem rf_new {f : Nat} {rs : List Nat} {v : V} (h : v.k = 4) (hm : v.a.toNat ∉ rs) : rf ts (f + 1) rs v = rfs ts f (rs ++ [v.a.toNat]) (ts.getD v.a.toNat []) := by simp only [rf, if_pos h, if_neg hm, rfs]
theorem rf_pre : ∀ (f : Nat) (rs : List Nat) (v : V), rs <+: rf ts f rs v
  | 0, rs, v => List.prefix_rfl
  | f + 1, rs, v => by
    by_cases h : v.k = 4
    · by_cases hm : v.a.toNat ∈ rs
      · rw [rf_old h hm]; exact List.prefix_append _ _
      · rw [rf_new h hm]
        have : ∀ (l : List Pr) (o : List Nat), o <+: rfs ts f o l := fun l => by
          induction l with
          | nil => exact fun o => List.prefix_rfl
          | cons p r ih => exact fun o => (rf_pre f o p.val).trans (ih _)
        exact (List.prefix_append _ _).trans (this _ _)
    · rw [rf_leaf h]; exact List.prefix_rfl
theorem rfs_pre (f : Nat) : ∀ (l : List Pr) (o : List Nat), o <+: rfs ts f o l
  | [], o => List.prefix_rfl
  | p :: r, o => (rf_pre f o p.val).trans (rfs_pre f r _)
theorem goes_cons (f : Nat) (o : List Nat) (p : Pr) (r : List Pr) : goes ts f o (p :: r) = goes ts f (go ts f o p.val) r := rfl
theorem rfs_cons (f : Nat) (o : List Nat) (p : Pr) (r : List Pr) : rfs ts f o (p :: r) = rfs ts f (rf ts f o p.val) r := rfl
theorem cnt_pre {a b : List Nat} (h : a <+: b) (x : Nat) : a.count x ≤ b.count x := h.sublist.count_le x
/-- What is asked of a graph whose text is wanted: c bounds each simple text. -/
structure FzOk (ts : List (List Pr)) (pl : V → List UInt8) (dc : Nat → List UInt8) (c : Nat) : Prop where
  inn : AllIn ts
  len : ∀ t ∈ ts, t.length ≤ 100
  txt : ∀ t ∈ ts, ∀ p ∈ t, (pl p.key).length ≤ c ∧ (pl p.val).length ≤ c
  dec : ∀ k, k ≤ ts.length → (dc k).length ≤ c
def bigK (c : Nat) : Nat := 100 * (2 * c + 5) + c + 4
theorem tx_some {c : Nat} (hZ : FzOk ts pl dc c) : ∀ (f : Nat) (ord rs : List Nat) (v : V) (s : TS), Nm ts.length ord → In ts.length v → (pl v).length ≤ c → (∀ a, a ∈ ord ↔ a ∈ rs) → ts.length - ord.length < f → s.L = ord.filter m → (∀ a, 1 < (rf ts f rs v).count a → m a = true) →
    ∃ s', tx ts m pl dc f s v = some s' ∧ s'.L = (go ts f ord v).filter m ∧ (∀ a, a ∈ go ts f ord v ↔ a ∈ rf ts f rs v) ∧ s'.o.length ≤ s.o.length + (c + 1) + bigK c * ((go ts f ord v).length - ord.length)
  | 0, ord, rs, v, s, _, _, _, _, h, _, _ => absurd h (by omega)
  | f + 1, ord, rs, v, s, hN, hv, hpv, hio, hf, hL, hm => by
    by_cases h4 : v.k = 4
    · have hlt : v.a.toNat < ts.length := by have := hv h4; omega
      by_cases hin : v.a.toNat ∈ ord
      · have hrs := (hio _).1 hin
        rw [rf_old h4 hrs] at hm
        have hma : m v.a.toNat = true := hm _ (by rw [List.count_append, List.count_singleton_self]; have := List.count_pos_iff.2 hrs; omega)
        have hmem : v.a.toNat ∈ s.L := by rw [hL]; exact List.mem_filter.2 ⟨hin, hma⟩
        have hd : (dc (s.L.idxOf v.a.toNat + 1)).length ≤ c := hZ.dec _ (by
          have h1 := List.idxOf_lt_length_iff.2 hmem
          have h2 : s.L.length ≤ ord.length := by rw [hL]; exact List.length_filter_le _ _
          have := hN.len; omega)
        refine ⟨⟨s.L, s.o ++ (35 :: dc (s.L.idxOf v.a.toNat + 1))⟩, by simp only [tx, if_pos h4, if_pos hmem], ?_, ?_, ?_⟩
        · rw [go_old h4 hin]; exact hL
        · rw [go_old h4 hin, rf_old h4 hrs]
          intro a
          rw [List.mem_append, List.mem_singleton, hio a]
          exact ⟨.inl, fun h => h.elim id fun e => e ▸ hrs⟩
        · simp only [List.length_append, List.length_cons]; omega
      · have hrs : v.a.toNat ∉ rs := fun e => hin ((hio _).2 e)
        have hix : ts[v.a.toNat]? = some ts[v.a.toNat] := List.getElem?_eq_getElem hlt
        have hgd : ts.getD v.a.toNat [] = ts[v.a.toNat] := by rw [List.getD_eq_getElem?_getD, hix]; rfl
        rw [rf_new h4 hrs, hgd] at hm
        rw [go_new h4 hin hix, rf_new h4 hrs, hgd]
        have hN1 := hN.snoc hlt hin
        have hl1 := hN1.len
        simp only [List.length_append, List.length_singleton] at hl1
        have hnl : v.a.toNat ∉ s.L := by rw [hL]; exact fun e => hin (List.mem_filter.1 e).1
        have key : ∀ (l : List Pr) (b : Bool) (o q : List Nat) (z : TS), (∀ p ∈ l, In ts.length p.val ∧ (pl p.key).length ≤ c ∧ (pl p.val).length ≤ c) → Nm ts.length o → ord.length + 1 ≤ o.length → (∀ a, a ∈ o ↔ a ∈ q) → z.L = o.filter m → (∀ a, 1 < (rfs ts f q l).count a → m a = true) →
            ∃ s', txp pl (tx ts m pl dc f) b l z = some s' ∧ s'.L = (goes ts f o l).filter m ∧ (∀ a, a ∈ goes ts f o l ↔ a ∈ rfs ts f q l) ∧ s'.o.length ≤ z.o.length + l.length * (2 * c + 5) + bigK c * ((goes ts f o l).length - o.length) := fun l => by
          induction l with
          | nil => exact fun b o q z _ _ _ hio hL _ => ⟨z, rfl, hL, hio, by simp⟩
          | cons p r ih =>
            intro b o q z hl hN hlen hio hL hm
            rw [rfs_cons] at hm
            obtain ⟨g1, g2, g3⟩ := hl p (.head _)
            obtain ⟨s1, e1, e2, e3, e4⟩ := tx_some hZ f o q p.val ⟨z.L, z.o ++ (if b then [44, 32] else []) ++ pl p.key ++ [58, 32]⟩ hN g1 g3 hio (by omega) hL (fun a ha => hm a (Nat.lt_of_lt_of_le ha (cnt_pre (rfs_pre f r _) a)))
            have hgl := (go_pre ts f o p.val).length_le
            obtain ⟨s2, k1, k2, k3, k4⟩ := ih true (go ts f o p.val) (rf ts f q p.val) s1 (fun x hx => hl x (.tail _ hx)) (go_nm hZ.inn f o p.val hN g1) (by omega) e3 e2 hm
            have hgl2 := (goes_pre ts f r (go ts f o p.val)).length_le
            refine ⟨s2, by rw [txp, e1]; exact k1, k2, k3, ?_⟩
            rw [goes_cons]
            have hb : (if b = true then [44, 32] else ([] : List UInt8)).length ≤ 2 := by cases b <;> simp
            simp only [List.length_append, List.length_cons, List.length_nil] at e4
            have e5 : (goes ts f (go ts f o p.val) r).length - o.length = ((goes ts f (go ts f o p.val) r).length - (go ts f o p.val).length) + ((go ts f o p.val).length - o.length) := by omega
            rw [e5, Nat.mul_add (bigK c), List.length_cons, Nat.add_mul r.length 1, Nat.one_mul]
            omega
        have hz : (tx0 m dc s v.a.toNat).L = (ord ++ [v.a.toNat]).filter m ∧ (tx0 m dc s v.a.toNat).o.length ≤ s.o.length + c + 3 := by
          have hd : (dc (s.L.length + 1)).length ≤ c := hZ.dec _ (by
            have h2 : s.L.length ≤ ord.length := by rw [hL]; exact List.length_filter_le _ _
            omega)
          unfold tx0
          rw [List.filter_append]
          by_cases hma : m v.a.toNat = true
          · rw [if_pos hma]
            refine ⟨by rw [hL]; simp [hma], ?_⟩
            simp only [List.length_append, List.length_cons, List.length_nil]; omega
          · rw [if_neg hma]
            refine ⟨by rw [hL]; simp [hma], ?_⟩
            simp only [List.length_append, List.length_cons, List.length_nil]; omega
        obtain ⟨s', k1, k2, k3, k4⟩ := key ts[v.a.toNat] false (ord ++ [v.a.toNat]) (rs ++ [v.a.toNat]) (tx0 m dc s v.a.toNat) (fun p hp => ⟨hZ.inn _ (List.getElem_mem hlt) p hp, hZ.txt _ (List.getElem_mem hlt) p hp⟩) hN1 (by simp)
          (fun a => by rw [List.mem_append, List.mem_append, hio a]) hz.1 hm
        have hgl := (goes_pre ts f ts[v.a.toNat] (ord ++ [v.a.toNat])).length_le
        simp only [List.length_append, List.length_singleton] at hgl k4
        refine ⟨⟨s'.L, s'.o ++ [125]⟩, by simp only [tx, if_pos h4, if_neg hnl, hgd, k1], k2, k3, ?_⟩
        have hlen := hZ.len _ (List.getElem_mem hlt)
        have h100 : ts[v.a.toNat].length * (2 * c + 5) ≤ 100 * (2 * c + 5) := Nat.mul_le_mul_right _ hlen
        simp only [List.length_append, List.length_singleton]
        have e5 : (goes ts f (ord ++ [v.a.toNat]) ts[v.a.toNat]).length - ord.length = ((goes ts f (ord ++ [v.a.toNat]) ts[v.a.toNat]).length - (ord.length + 1)) + 1 := by omega
        rw [e5, Nat.mul_add (bigK c), Nat.mul_one]
        have hK : bigK c = 100 * (2 * c + 5) + c + 4 := rfl
        have h2 := hz.2
        omega
    · refine ⟨⟨s.L, s.o ++ pl v⟩, by simp only [tx, if_neg h4], ?_, ?_, ?_⟩
      · rw [go_leaf h4]; exact hL
      · rw [go_leaf h4, rf_leaf h4]; exact hio
      · simp only [List.length_append]; omega
end
end Go.Sy
/- A graph's text: what is led to, and the text of the graph in canonical order. Plain. -/
namespace Go.Sy
set_option linter.unusedVariables false
def vrefs (v : V) : List Nat := if v.k = 4 then [v.a.toNat] else []
def trefs (t : List Pr) : List Nat := t.flatMap fun p => vrefs p.val
def brefs (ts : List (List Pr)) (b : Nat) : List Nat := trefs (ts.getD b [])
section
variable {ts : List (List Pr)}
theorem rf_perm (hA : AllIn ts) : ∀ (f : Nat) (ord rs : List Nat) (v : V), Nm ts.length ord → In ts.length v → (∀ a, a ∈ ord ↔ a ∈ rs) → ts.length - ord.length < f →
    (rf ts f rs v).Perm (rs ++ vrefs v ++ ((go ts f ord v).drop ord.length).flatMap (brefs ts)) ∧ (∀ a, a ∈ go ts f ord v ↔ a ∈ rf ts f rs v)
  | 0, ord, rs, v, _, _, _, h => absurd h (by omega)
  | f + 1, ord, rs, v, hN, hv, hio, hf => by
    by_cases h4 : v.k = 4
    · have hlt : v.a.toNat < ts.length := by have := hv h4; omega
      by_cases hin : v.a.toNat ∈ ord
      · have hrs := (hio _).1 hin
        rw [rf_old h4 hrs, go_old h4 hin]
        refine ⟨by simp [vrefs, h4], fun a => ?_⟩
        rw [List.mem_append, List.mem_singleton, hio a]
        exact ⟨.inl, fun h => h.elim id fun e => e ▸ hrs⟩
      · have hrs : v.a.toNat ∉ rs := fun e => hin ((hio _).2 e)
        have hix : ts[v.a.toNat]? = some ts[v.a.toNat] := List.getElem?_eq_getElem hlt
        have hgd : ts.getD v.a.toNat [] = ts[v.a.toNat] := by rw [List.getD_eq_getElem?_getD, hix]; rfl
        rw [go_new h4 hin hix, rf_new h4 hrs, hgd]
        have hN1 := hN.snoc hlt hin
        have hl1 := hN1.len
        simp only [List.length_append, List.length_singleton] at hl1
        have key : ∀ (l : List Pr) (o q : List Nat), (∀ p ∈ l, In ts.length p.val) → Nm ts.length o → ord.length + 1 ≤ o.length → (∀ a, a ∈ o ↔ a ∈ q) →
            (rfs ts f q l).Perm (q ++ trefs l ++ ((goes ts f o l).drop o.length).flatMap (brefs ts)) ∧ (∀ a, a ∈ goes ts f o l ↔ a ∈ rfs ts f q l) := fun l => by
          induction l with
          | nil => exact fun o q _ _ _ hio => ⟨by simp [rfs, goes, trefs], hio⟩
          | cons p r ih =>
            intro o q hl hN hlen hio
            obtain ⟨e1, e2⟩ := rf_perm hA f o q p.val hN (hl p (.head _)) hio (by omega)
            have hgl := (go_pre ts f o p.val).length_le
            obtain ⟨k1, k2⟩ := ih (go ts f o p.val) (rf ts f q p.val) (fun x hx => hl x (.tail _ hx)) (go_nm hA f o p.val hN (hl p (.head _))) (by omega) e2
            refine ⟨?_, k2⟩
            rw [rfs_cons, goes_cons]
            refine k1.trans ?_
            have hp := goes_pre ts f r (go ts f o p.val)
            obtain ⟨z, hz⟩ := hp
            obtain ⟨y, hy⟩ := go_pre ts f o p.val
            rw [← hz, List.drop_left, ← hy, List.append_assoc o y z, List.drop_left, List.flatMap_append]
            rw [← hy, List.drop_left] at e1
            refine (List.Perm.append_right _ (List.Perm.append_right _ e1)).trans ?_
            simp only [trefs, List.flatMap_cons, List.append_assoc]
            refine List.Perm.append_left q (List.Perm.append_left _ ?_)
            rw [← List.append_assoc, ← List.append_assoc]
            exact List.Perm.append_right _ List.perm_append_comm
        obtain ⟨k1, k2⟩ := key ts[v.a.toNat] (ord ++ [v.a.toNat]) (rs ++ [v.a.toNat]) (fun p hp => hA _ (List.getElem_mem hlt) p hp) hN1 (by simp) (fun a => by rw [List.mem_append, List.mem_append, hio a])
        refine ⟨k1.trans ?_, k2⟩
        obtain ⟨z, hz⟩ := goes_pre ts f ts[v.a.toNat] (ord ++ [v.a.toNat])
        rw [← hz, List.drop_left, List.append_assoc ord, List.drop_left]
        simp only [vrefs, if_pos h4, List.flatMap_append, List.flatMap_cons, List.flatMap_nil, List.append_nil, brefs, hgd, List.append_assoc]
        exact List.Perm.refl _
    · rw [go_leaf h4, rf_leaf h4]
      exact ⟨by simp [vrefs, h4], hio⟩
/-- All that is led to, from a value and from all the tables that are met. -/
theorem rf_all (hA : AllIn ts) {v : V} (hv : In ts.length v) : (rf ts (ts.length + 1) [] v).Perm (vrefs v ++ (ordOf ts v).flatMap (brefs ts)) := by
  have := (rf_perm hA (ts.length + 1) [] [] v (nm_nil _) hv (fun a => Iff.rfl) (by simp)).1
  simpa [ordOf] using this
theorem ren_k (O : List Nat) (v : V) : (ren O v).k = v.k := by unfold ren; split <;> rfl
theorem ren_leaf (O : List Nat) {v : V} (h : v.k ≠ 4) : ren O v = v := by unfold ren; rw [if_neg h]
theorem ren_a (O : List Nat) {v : V} (h : v.k = 4) : (ren O v).a.toNat = O.idxOf v.a.toNat := by unfold ren; rw [if_pos h]; simp
theorem vrefs_ren (O : List Nat) (v : V) : vrefs (ren O v) = (vrefs v).map O.idxOf := by
  unfold vrefs
  rw [ren_k]
  by_cases h : v.k = 4
  · rw [if_pos h, if_pos h, ren_a O h]; rfl
  · rw [if_neg h, if_neg h]; rfl
theorem trefs_ren (O : List Nat) (t : List Pr) : trefs (t.map (nPr O)) = (trefs t).map O.idxOf := by
  unfold trefs
  rw [List.flatMap_map, List.map_flatMap]
  congr 1
  funext p
  exact vrefs_ren O p.val
theorem cTs_refs (ts : List (List Pr)) (O : List Nat) : (cTs ts O).flatMap trefs = (O.flatMap (brefs ts)).map O.idxOf := by
  unfold cTs
  rw [List.flatMap_map, List.map_flatMap]
  congr 1
  funext b
  exact trefs_ren O _
theorem idx_inj {O : List Nat} {a b : Nat} (ha : a ∈ O) (h : O.idxOf a = O.idxOf b) : a = b := by
  have h1 := List.idxOf_lt_length_iff.2 ha
  have h2 : O[O.idxOf a] = a := List.getElem_idxOf h1
  have h3 : O[O.idxOf b]'(by omega) = b := List.getElem_idxOf (by omega)
  rw [← h2]
  conv => rhs; rw [← h3]
  congr 1
theorem count_idx {O : List Nat} {a : Nat} (ha : a ∈ O) : ∀ l : List Nat, (l.map O.idxOf).count (O.idxOf a) = l.count a
  | [] => rfl
  | b :: r => by
    rw [List.map_cons, List.count_cons, List.count_cons, count_idx ha r]
    congr 1
    by_cases e : b = a
    · simp [e]
    · have : ¬ O.idxOf b = O.idxOf a := fun h => e (idx_inj ha h.symm).symm
      simp [e, this]
theorem map_idx {O L : List Nat} (hL : ∀ b ∈ L, b ∈ O) {a : Nat} (ha : a ∈ O) : (O.idxOf a ∈ L.map O.idxOf ↔ a ∈ L) ∧ (L.map O.idxOf).idxOf (O.idxOf a) = L.idxOf a := by
  constructor
  · rw [List.mem_map]
    constructor
    · rintro ⟨b, hb, e⟩
      rw [idx_inj ha e.symm]; exact hb
    · exact fun h => ⟨a, h, rfl⟩
  · induction L with
    | nil => rfl
    | cons b r ih =>
      have := ih fun x hx => hL x (.tail _ hx)
      have h2 : (O.idxOf b == O.idxOf a) = (b == a) := by
        rw [Bool.eq_iff_iff, beq_iff_eq, beq_iff_eq]
        exact ⟨fun h => (idx_inj ha h.symm).symm, fun h => by rw [h]⟩
      rw [List.map_cons, List.idxOf_cons, List.idxOf_cons, this, h2]
theorem cTs_get {O : List Nat} {a : Nat} (ha : a ∈ O) : (cTs ts O).getD (O.idxOf a) [] = (ts.getD a []).map (nPr O) := by
  have h1 := List.idxOf_lt_length_iff.2 ha
  unfold cTs
  rw [List.getD_eq_getElem?_getD, List.getElem?_map, List.getElem?_eq_getElem h1, List.getElem_idxOf h1]
  rfl
def tmap (O : List Nat) (s : TS) : TS := ⟨s.L.map O.idxOf, s.o⟩
/-- The text of a graph in canonical order is the graph's. -/
theorem tx_ren {m m' : Nat → Bool} {pl : V → List UInt8} {dc : Nat → List UInt8} {O : List Nat} (hm : ∀ a ∈ O, m' (O.idxOf a) = m a) (hc : ∀ a ∈ O, ∀ p ∈ ts.getD a [], p.val.k = 4 → p.val.a.toNat ∈ O) :
    ∀ (f : Nat) (s : TS) (v : V), (∀ a ∈ s.L, a ∈ O) → (v.k = 4 → v.a.toNat ∈ O) → tx (cTs ts O) m' pl dc f (tmap O s) (ren O v) = (tx ts m pl dc f s v).map (tmap O) ∧ ∀ s', tx ts m pl dc f s v = some s' → ∀ a ∈ s'.L, a ∈ O
  | 0, s, v, _, _ => ⟨rfl, fun s' h => by cases h⟩
  | f + 1, s, v, hs, hv => by
    by_cases h4 : v.k = 4
    · have ha := hv h4
      obtain ⟨i1, i2⟩ := map_idx hs ha
      have h4' : (ren O v).k = 4 := by rw [ren_k]; exact h4
      simp only [tx, if_pos h4, if_pos h4', ren_a O h4]
      by_cases hin : v.a.toNat ∈ s.L
      · rw [if_pos hin, if_pos (show O.idxOf v.a.toNat ∈ (tmap O s).L from i1.2 hin)]
        refine ⟨?_, fun s' h => by obtain rfl := Option.some.inj h; exact hs⟩
        show _ = some _
        simp only [tmap, i2]
      · rw [if_neg hin, if_neg (show O.idxOf v.a.toNat ∉ (tmap O s).L from fun h => hin (i1.1 h)), cTs_get ha]
        have h0 : tx0 m' dc (tmap O s) (O.idxOf v.a.toNat) = tmap O (tx0 m dc s v.a.toNat) ∧ ∀ x ∈ (tx0 m dc s v.a.toNat).L, x ∈ O := by
          unfold tx0
          rw [hm _ ha]
          by_cases hma : m v.a.toNat = true
          · rw [if_pos hma, if_pos hma]
            exact ⟨by simp [tmap], fun x hx => by
              rcases List.mem_append.1 hx with hx | hx
              · exact hs x hx
              · rw [List.mem_singleton] at hx; rw [hx]; exact ha⟩
          · rw [if_neg hma, if_neg hma]
            exact ⟨by simp [tmap], hs⟩
        rw [h0.1]
        have key : ∀ (l : List Pr) (b : Bool) (z : TS), (∀ p ∈ l, p.val.k = 4 → p.val.a.toNat ∈ O) → (∀ x ∈ z.L, x ∈ O) →
            txp pl (tx (cTs ts O) m' pl dc f) b (l.map (nPr O)) (tmap O z) = (txp pl (tx ts m pl dc f) b l z).map (tmap O) ∧ ∀ s', txp pl (tx ts m pl dc f) b l z = some s' → ∀ a ∈ s'.L, a ∈ O := fun l => by
          induction l with
          | nil => exact fun b z _ hz => ⟨rfl, fun s' h => by obtain rfl := Option.some.inj h; exact hz⟩
          | cons p r ih =>
            intro b z hl hz
            obtain ⟨e1, e2⟩ := tx_ren hm hc f ⟨z.L, z.o ++ (if b then [44, 32] else []) ++ pl p.key ++ [58, 32]⟩ p.val hz (hl p (.head _))
            have e1' : tx (cTs ts O) m' pl dc f ⟨(tmap O z).L, (tmap O z).o ++ (if b then [44, 32] else []) ++ pl (nPr O p).key ++ [58, 32]⟩ (nPr O p).val = _ := e1
            rw [List.map_cons, txp, e1', txp]
            cases hq : tx ts m pl dc f ⟨z.L, z.o ++ (if b then [44, 32] else []) ++ pl p.key ++ [58, 32]⟩ p.val with
            | none => exact ⟨rfl, fun s' h => by cases h⟩
            | some s1 => exact ih true s1 (fun q hq => hl q (.tail _ hq)) (e2 s1 hq)
        obtain ⟨k1, k2⟩ := key (ts.getD v.a.toNat []) false (tx0 m dc s v.a.toNat) (hc _ ha) h0.2
        rw [k1]
        cases hq : txp pl (tx ts m pl dc f) false (ts.getD v.a.toNat []) (tx0 m dc s v.a.toNat) with
        | none => exact ⟨rfl, fun s' h => by cases h⟩
        | some s1 => exact ⟨rfl, fun s' h => by obtain rfl := Option.some.inj h; exact k2 s1 hq⟩
    · rw [ren_leaf O h4, tx, tx, if_neg h4, if_neg h4]
      exact ⟨rfl, fun s' h => by obtain rfl := Option.some.inj h; exact hs⟩
end
end Go.Sy
/- Rows of counts and of labels. Plain. -/
namespace Go.Sy
def ledV (n : Nat) (rs : List Nat) : List Value := (List.range n).map fun a => .int .i64 ((rs.count a : Nat) : Int)
theorem ledV_len (n : Nat) (rs : List Nat) : (ledV n rs).length = n := by simp [ledV]
theorem ledV_get {n a : Nat} (rs : List Nat) (h : a < n) : (ledV n rs)[a]? = some (.int .i64 ((rs.count a : Nat) : Int)) := by simp [ledV, h]
theorem ledV_set {n a : Nat} (rs : List Nat) (h : a < n) : setL (ledV n rs) a [.int .i64 (((rs.count a : Nat) : Int) + 1)] = ledV n (rs ++ [a]) := by
  apply List.ext_getElem?
  intro j
  rw [setL_get _ _ _ (by simp [ledV_len]; omega)]
  by_cases hj : j < n
  · rw [ledV_get _ hj, ledV_get _ hj]
    by_cases e : j = a
    · subst e
      rw [if_pos (by simp), List.count_append, List.count_singleton_self]
      simp
    · rw [if_neg (by simp; omega), List.count_append, List.count_singleton]
      have : (a == j) = false := by simp; omega
      simp [this]
  · have h1 : (ledV n (rs ++ [a]))[j]? = none := by simp [ledV]; omega
    have h2 : (ledV n rs)[j]? = none := by simp [ledV]; omega
    rw [h1, h2, if_neg (by simp; omega)]
def labV (n : Nat) (L : List Nat) : List Value := (List.range n).map fun a => .int .i64 (if a ∈ L then ((L.idxOf a + 1 : Nat) : Int) else 0)
theorem ledV_zero (n : Nat) : ledV n [] = reps n [Value.int .i64 0] := by
  unfold ledV
  induction n with
  | zero => rfl
  | succ n ih =>
    have : ∀ m, reps m [Value.int .i64 0] = List.replicate m (Value.int .i64 0) := fun m => by
      induction m with
      | zero => rfl
      | succ m ih => rw [reps, ih, List.replicate_succ]; rfl
    rw [this]
    apply List.ext_getElem (by simp)
    intro i h1 h2
    simp
variable {ts : List (List Pr)}
section
variable {m : Nat → Bool} {pl : V → List UInt8} {dc : Nat → List UInt8}
def TS.Le (s r : TS) : Prop := s.L.length ≤ r.L.length ∧ s.o.length ≤ r.o.length
theorem TS.Le.trans {a b c : TS} (h : a.Le b) (g : b.Le c) : a.Le c := ⟨Nat.le_trans h.1 g.1, Nat.le_trans h.2 g.2⟩
theorem txp_mono {g : TS → V → Option TS} (hg : ∀ s v r, g s v = some r → s.Le r) : ∀ (l : List Pr) (b : Bool) (s r : TS), txp pl g b l s = some r → s.Le r
  | [], b, s, r, h => by
    rw [txp] at h
    obtain rfl := Option.some.inj h
    exact ⟨Nat.le_refl _, Nat.le_refl _⟩
  | p :: l, b, s, r, h => by
    rw [txp] at h
    split at h
    · cases h
    · rename_i s1 h1
      have h2 := hg _ _ _ h1
      have h3 := txp_mono hg l true s1 r h
      refine TS.Le.trans (b := s1) ⟨h2.1, ?_⟩ h3
      have := h2.2
      simp only [List.length_append] at this; omega
theorem tx0_le (s : TS) (a : Nat) : s.Le (tx0 m dc s a) := by
  unfold tx0 TS.Le
  split <;> simp <;> omega
theorem tx_mono : ∀ (f : Nat) (s : TS) (v : V) (r : TS), tx ts m pl dc f s v = some r → s.Le r
  | 0, s, v, r, h => by cases h
  | f + 1, s, v, r, h => by
    rw [tx] at h
    split at h
    · split at h
      · obtain rfl := Option.some.inj h
        exact ⟨Nat.le_refl _, by simp⟩
      · split at h
        · cases h
        · rename_i s' h'
          obtain rfl := Option.some.inj h
          have := (tx0_le (m := m) (dc := dc) s v.a.toNat).trans (txp_mono (tx_mono f) _ _ _ _ h')
          exact ⟨this.1, by have := this.2; simp; omega⟩
    · obtain rfl := Option.some.inj h
      exact ⟨Nat.le_refl _, by simp⟩
end
end Go.Sy
namespace Go.Proofs.YtkamfnmbidnhdaaDoor
open Go.Sy
theorem text_eq {a b : ByteArray} : a.toList = b.toList ↔ a = b := by
  constructor
  · intro h
    rw [ByteArray.toList_eq, ByteArray.toList_eq] at h
    obtain ⟨⟨x⟩⟩ := a
    obtain ⟨⟨y⟩⟩ := b
    simp at h; rw [h]
  · intro h; rw [h]
instance : DecidableEq V := fun x y => decidable_of_iff (x.k = y.k ∧ x.n = y.n ∧ x.s.toList = y.s.toList ∧ x.a = y.a) (by
  cases x; cases y; simp [text_eq])
theorem eq48 (d : Nat) (w : World) (x y : V) : (Op.equalIn (d + 2) 48 (.agg x.c.toArray) (.agg y.c.toArray)).run Tryd.prog w = .ok (decide (x = y)) w := by
  rw [run_equalIn_struct w (d + 1) 48 _ _ (by rw [Program.fieldsOf, Tryd.underlying48]) (by kernel_rfl)]
  have e : decide (x = y) = (x.k == y.k && (x.n == y.n && (x.s.toList == y.s.toList && x.a == y.a))) := by
    rw [Bool.eq_iff_iff]
    cases x; cases y
    simp [V.mk.injEq, text_eq]
  rw [e]
  simp only [Program.fieldsOf, Tryd.underlying48, V.c, Op.eqFields]
  go_simp
  cases h1 : (x.k == y.k) <;> cases h2 : (x.n == y.n) <;> cases h3 : (x.s.toList == y.s.toList) <;> cases h4 : (x.a == y.a) <;> simp_all
end Go.Proofs.YtkamfnmbidnhdaaDoor
namespace Go.Proofs.YtkamfnmbidnhdaaDoor
open Go.Sy
set_option maxRecDepth 100000
set_option maxHeartbeats 4000000
set_option linter.unusedVariables false
/-- A value that a graph of n tables may hold. -/
def VOk (v : V) (n : Nat) : Prop :=
  (v.k = 0 ∧ v.n = 0 ∧ v.s.toList = [] ∧ v.a = 0) ∨ (v.k = 1 ∧ (v.n = 0 ∨ v.n = 1) ∧ v.s.toList = [] ∧ v.a = 0) ∨ (v.k = 2 ∧ v.s.toList = [] ∧ v.a = 0) ∨
    (v.k = 3 ∧ v.n = 0 ∧ v.a = 0 ∧ v.s.size ≤ 500) ∨ (v.k = 4 ∧ v.n = 0 ∧ v.s.toList = [] ∧ 0 ≤ v.a ∧ v.a < n)
instance (v : V) (n : Nat) : Decidable (VOk v n) := by unfold VOk; infer_instance
def KOk (v : V) : Prop := (v.k = 1 ∨ v.k = 2 ∨ v.k = 3) ∧ VOk v 0
instance (v : V) : Decidable (KOk v) := by unfold KOk; infer_instance
theorem nil_list : (ByteArray.mk ⟨[]⟩).toList = [] := by decide +kernel
end Go.Proofs.YtkamfnmbidnhdaaDoor
namespace Go.Proofs.YtkamfnmbidnhdaaDoor
open Go.Sy Go.RowKit Go.ChangeMaps Go.MapKept
set_option maxRecDepth 100000
set_option maxHeartbeats 4000000
set_option linter.unusedVariables false
def iKey (x : Int) : Value := .int .i64 x
theorem i_now (x : Int) : ∀ (l : List Int) (es : List MapEntry) (i : Nat), es.map (·.key) = l.map iKey →
    Instr.findNow (.int .i64) (iKey x) es i = some (match l.findIdx? (fun y => decide (x = y)) with | some j => (es[j]?).map (fun e => (i + j, e.val)) | none => none)
  | [], es, i, h => by
    have : es = [] := by simpa using h
    subst this; rfl
  | y :: l, [], i, h => by simp at h
  | y :: l, e :: es, i, h => by
    simp only [List.map_cons, List.cons.injEq] at h
    obtain ⟨h1, h2⟩ := h
    have ih := i_now x l es (i + 1) h2
    by_cases hx : x = y
    · simp [Instr.findNow, h1, iKey, Instr.sameNow, List.findIdx?_cons, hx]
    · simp only [Instr.findNow, h1, Instr.sameNow, iKey, if_true, beq_eq_false_iff_ne.2 hx, List.findIdx?_cons, decide_eq_false hx]
      simp only [iKey] at ih
      rw [ih]
      cases l.findIdx? (fun y => decide (x = y)) with
      | none => rfl
      | some j => simp [Nat.add_assoc, Nat.add_comm 1 j]
theorem iKey_check (em : Bool) (m : Nat) (w : World) (x : Int) : (Instr.checkKey em (m + 1) 3 (iKey x)).run Tryd.prog w = .ok () w := by
  simp [Instr.checkKey, iKey, run_underlying Tryd.underlying3]
theorem iKeyOps : KeyOps Tryd.prog 3 iKey where
  check w em x := iKey_check em 9999 w x
  find w x l es h := by
    have := i_now x l es 0 h
    simp [Instr.findKey, run_underlying Tryd.underlying3, this]
    cases l.findIdx? (fun y => decide (x = y)) <;> rfl
  stays w x := by simp [Instr.keyThatStays, Instr.sameBits, iKey]
def vKey (v : V) : Value := .agg v.c.toArray
theorem vKey_eq (w : World) (x y : V) : (Op.equal 48 (vKey x) (vKey y)).run Tryd.prog w = .ok (decide (x = y)) w := eq48 9998 w x y
theorem v_asking (w : World) (x : V) : ∀ (l : List V) (es : List MapEntry) (i : Nat), es.map (·.key) = l.map vKey →
    (Instr.findAsking 48 (vKey x) es i).run Tryd.prog w = .ok (match l.findIdx? (fun y => decide (x = y)) with | some j => (es[j]?).map (fun e => (i + j, e.val)) | none => none) w
  | [], es, i, h => by
    have : es = [] := by simpa using h
    subst this
    simp [Instr.findAsking]
  | y :: l, [], i, h => by simp at h
  | y :: l, e :: es, i, h => by
    simp only [List.map_cons, List.cons.injEq] at h
    obtain ⟨h1, h2⟩ := h
    have ih := v_asking w x l es (i + 1) h2
    by_cases hx : x = y
    · simp [Instr.findAsking, h1, vKey_eq, Result.andThen, List.findIdx?_cons, hx]
    · simp only [Instr.findAsking, h1, Sem.run_bind, vKey_eq, Result.andThen, decide_eq_false hx, List.findIdx?_cons, ih, Bool.false_eq_true, if_false]
      cases l.findIdx? (fun y => decide (x = y)) with
      | none => rfl
      | some j => simp [Nat.add_assoc, Nat.add_comm 1 j]
theorem text_self (s : ByteArray) : (s == s) = true := by
  cases s with | mk d =>
  show (d == d) = true
  simp
theorem vKey_check (em : Bool) (n : Nat) (w : World) (x : V) : (Instr.checkKey em (n + 2) 48 (vKey x)).run Tryd.prog w = .ok () w := by
  have hu := Tryd.underlying48
  have hi : ∀ (m : Nat) (a : Int), (Instr.checkKey em (m + 1) 3 (.int .i64 a)).run Tryd.prog w = .ok () w := fun m a => by simp [Instr.checkKey, run_underlying Tryd.underlying3]
  have hs : ∀ (m : Nat) (a : ByteArray), (Instr.checkKey em (m + 1) 9 (.string a)).run Tryd.prog w = .ok () w := fun m a => by simp [Instr.checkKey, run_underlying Tryd.underlying9]
  have hj : ∀ (m : Nat) (a : Int), (Instr.checkKey em (m + 1) 2 (.int .i64 a)).run Tryd.prog w = .ok () w := fun m a => by simp [Instr.checkKey, run_underlying Tryd.underlying2]
  rw [Instr.checkKey, Sem.run_bind, run_underlying hu]
  simp only [vKey, V.c, Result.andThen]
  go_simp
theorem vKeyOps : KeyOps Tryd.prog 48 vKey where
  check w em x := vKey_check em 9998 w x
  find w x l es h := by
    have hu := Tryd.underlying48
    refine (run_findKey_eq (P := Tryd.prog) (k := 48) (w := w) (by rw [hu]) (vKey x) es).trans ?_
    rw [v_asking w x l es 0 h]
    cases l.findIdx? (fun y => decide (x = y)) <;> simp
  stays w x := by
    simp [Instr.keyThatStays, Instr.sameBits, vKey, V.c, text_self]
def lowBit (x : Int) : Int := if (BitVec.ofInt 64 x).toNat % 2 = 1 then 1 else 0
theorem lowBit_run (x : Int) : Op.intBits .and .i64 x 1 = pure (.int .i64 (lowBit x)) := by
  unfold Op.intBits lowBit
  simp only
  have h : (BitVec.ofInt IntKind.i64.bits x &&& BitVec.ofInt IntKind.i64.bits 1).toNat = (BitVec.ofInt 64 x).toNat % 2 := by
    show (BitVec.ofInt 64 x &&& 1#64).toNat = _
    rw [BitVec.toNat_and]
    exact Nat.and_one_is_mod _
  rw [h]
  have h2 : (BitVec.ofInt 64 x).toNat % 2 < 2 := Nat.mod_lt _ (by omega)
  split
  · rename_i h3; rw [h3]; rfl
  · rename_i h3
    have : (BitVec.ofInt 64 x).toNat % 2 = 0 := by omega
    rw [this]; rfl
theorem lowBit_iff (x : Int) : lowBit x = x ↔ x = 0 ∨ x = 1 := by
  constructor
  · intro h
    unfold lowBit at h
    split at h <;> omega
  · rintro (rfl | rfl) <;> decide
theorem eq29f (w : World) (k n : Int) (s : ByteArray) (a : Int) (y : V) : (Op.equalIn Op.maxDepth 48 (.agg [.int .i64 k, .int .i64 n, .string s, .int .i64 a].toArray) (.agg y.c.toArray)).run Tryd.prog w = .ok (decide ((⟨k, n, s, a⟩ : V) = y)) w := eq48 9998 w ⟨k, n, s, a⟩ y
theorem v_eq {k n : Int} {s : ByteArray} {a : Int} {v : V} : ((⟨k, n, s, a⟩ : V) = v) ↔ v.k = k ∧ v.n = n ∧ v.s.toList = s.toList ∧ v.a = a := by
  cases v
  simp only [V.mk.injEq, text_eq]
  constructor <;> (rintro ⟨rfl, rfl, rfl, rfl⟩; exact ⟨rfl, rfl, rfl, rfl⟩)
theorem size_nil (s : ByteArray) (h : s.toList = []) : s.size = 0 := by
  rw [ByteArray.toList_eq] at h
  obtain ⟨⟨x⟩⟩ := s
  simp at h; subst h; rfl
theorem lowBit_iff' {x : Int} : x = lowBit x ↔ x = 0 ∨ x = 1 := eq_comm.trans (lowBit_iff x)
theorem valOk (v : V) (n : Nat) (h : Hp) : Pur Tryd.prog 106 [.ag v.sv, .v (.int .i64 n)] h (fun y : Bool => .v (.bool y)) (decide (VOk v n)) := by
  refine enterS Tryd.func106 rfl (n := 57) rfl rfl (fun k N => ?_)
  repeat' (first | (refine r_pure hT rfl rfl rfl rfl ?_) | (refine r_new hT rfl rfl rfl rfl ?_) | (refine r_write hT rfl rfl rfl ?_) | (refine r_nil ?_) | (refine q_nil ?_) | (refine r_build hT rfl rfl rfl rfl rfl rfl rfl rfl rfl ?_) | (refine r_bits rfl rfl rfl rfl rfl rfl (lowBit_run _) (.inl rfl) ?_) | (refine r_eqs (fun w => eq29f w _ _ _ _ v) (by kernel_rfl) (.inl rfl) rfl rfl rfl rfl rfl rfl rfl rfl ?_) | (refine r_arith rfl rfl rfl rfl rfl rfl rfl (by omega) ?_) | (with_reducible refine r_seq ?_) | (with_reducible refine x_then ?_) | (with_reducible refine r_region ?_) | (refine r_draw hM (by kernel_rfl) ?_) | (with_reducible refine r_skip ?_) | (with_reducible refine r_ret ?_) | (with_reducible refine x_then_ret ?_) | (with_reducible refine r_block ?_) | (with_reducible refine x_block ?_) | (with_reducible refine x_block_ret ?_) | (with_reducible refine r_exit ?_) | (with_reducible refine x_then_exit ?_) | (with_reducible refine x_block_here ?_) | (refine x_block_past rfl ?_) | (refine c_yes rfl (by omega) ?_) | (refine c_no rfl (by omega) ?_) | (refine c_no rfl (fun h => h rfl) ?_) | (refine r_cond_false rfl ?_) | (refine r_cond_true rfl ?_) | (refine r_cond_dec rfl (fun _ => ?_) (fun _ => ?_)) | (refine r_cond_true rfl ?_) | (refine r_cond_false rfl ?_) | (refine c_not rfl (fun _ => ?_) (fun _ => ?_)) | (refine r_off rfl rfl rfl ?_) | (refine q_guard rfl rfl (fun _ => ?_) (fun _ => ?_)) | (refine q_guardn rfl rfl (fun _ => ?_) (fun _ => ?_)))
  all_goals exact r_fin hT rfl _ rfl rfl rfl trivial rfl ⟨by (have hz := size_nil v.s); (try simp only [v_eq, nil_list, lowBit_iff'] at *); simp_all [VOk] <;> omega, rfl⟩
theorem kok_iff (v : V) : KOk v ↔ (1 ≤ v.k ∧ v.k ≤ 3) ∧ VOk v 0 := by
  unfold KOk
  have : (v.k = 1 ∨ v.k = 2 ∨ v.k = 3) ↔ (1 ≤ v.k ∧ v.k ≤ 3) := by omega
  rw [this]
theorem keyOk (v : V) (h : Hp) : Pur Tryd.prog 107 [.ag v.sv] h (fun y : Bool => .v (.bool y)) (decide (KOk v)) := by
  refine enterS Tryd.func107 rfl (n := 15) rfl rfl (fun k N => ?_)
  repeat' (first | (refine r_pure hT rfl rfl rfl rfl ?_) | (refine r_new hT rfl rfl rfl rfl ?_) | (refine r_write hT rfl rfl rfl ?_) | (refine r_nil ?_) | (refine q_nil ?_) | (refine p_call (valOk v 0 _) rfl rfl rfl rfl rfl (hC _ rfl) rfl rfl rfl ?_) | (refine r_arith rfl rfl rfl rfl rfl rfl rfl (by omega) ?_) | (with_reducible refine r_seq ?_) | (with_reducible refine x_then ?_) | (with_reducible refine r_region ?_) | (refine r_draw hM (by kernel_rfl) ?_) | (with_reducible refine r_skip ?_) | (with_reducible refine r_ret ?_) | (with_reducible refine x_then_ret ?_) | (with_reducible refine r_block ?_) | (with_reducible refine x_block ?_) | (with_reducible refine x_block_ret ?_) | (with_reducible refine r_exit ?_) | (with_reducible refine x_then_exit ?_) | (with_reducible refine x_block_here ?_) | (refine x_block_past rfl ?_) | (refine c_yes rfl (by omega) ?_) | (refine c_no rfl (by omega) ?_) | (refine c_no rfl (fun h => h rfl) ?_) | (refine r_cond_false rfl ?_) | (refine r_cond_true rfl ?_) | (refine r_cond_dec rfl (fun _ => ?_) (fun _ => ?_)) | (refine r_cond_true rfl ?_) | (refine r_cond_false rfl ?_) | (refine c_not rfl (fun _ => ?_) (fun _ => ?_)) | (refine r_off rfl rfl rfl ?_) | (refine q_guard rfl rfl (fun _ => ?_) (fun _ => ?_)) | (refine q_guardn rfl rfl (fun _ => ?_) (fun _ => ?_)))
  all_goals exact r_fin hT rfl _ rfl rfl rfl trivial rfl ⟨by simp_all [kok_iff] <;> omega, rfl⟩
end Go.Proofs.YtkamfnmbidnhdaaDoor
namespace Go.Proofs.YtkamfnmbidnhdaaDoor
open Go.Sy
set_option maxRecDepth 100000
set_option maxHeartbeats 4000000
set_option linter.unusedVariables false
/-- A pair, a table, a graph that is well made. -/
def POk (p : Pr) (n : Nat) : Prop := KOk p.key ∧ VOk p.val n ∧ p.val.k ≠ 0
def TOk (t : List Pr) (n : Nat) : Prop := t.length ≤ 100 ∧ (∀ p ∈ t, POk p n) ∧ (t.map (·.key)).Nodup
def GOk (v : V) (ts : List (List Pr)) : Prop := ts.length ≤ 200 ∧ VOk v ts.length ∧ ∀ t ∈ ts, TOk t ts.length
instance (p : Pr) (n : Nat) : Decidable (POk p n) := by unfold POk; infer_instance
instance (t : List Pr) (n : Nat) : Decidable (TOk t n) := by unfold TOk; infer_instance
instance (v : V) (ts : List (List Pr)) : Decidable (GOk v ts) := by unfold GOk; infer_instance
theorem gok_not {b : Bool} {p : Prop} [Decidable p] (hb : b = false) (h : ¬ p) : b = decide p := by rw [hb, decide_eq_false h]
theorem keys_take {t : List Pr} {i : Nat} {p : Pr} (h : t[i]? = some p) : (t.take (i + 1)).map (·.key) = (t.take i).map (·.key) ++ [p.key] := by rw [take_snoc h]; simp
theorem nodup_take {t : List Pr} (h : (t.map (·.key)).Nodup) (i : Nat) : ((t.take i).map (·.key)).Nodup := by
  rw [List.map_take]; exact h.sublist (List.take_sublist _ _)
theorem nodup_next {t : List Pr} {i : Nat} {p : Pr} (h : t[i]? = some p) : ((t.take (i + 1)).map (·.key)).Nodup ↔ ((t.take i).map (·.key)).Nodup ∧ p.key ∉ (t.take i).map (·.key) := by
  rw [keys_take h, List.nodup_append]
  constructor
  · rintro ⟨h1, _, h3⟩; exact ⟨h1, fun hm => h3 _ hm _ (by simp) rfl⟩
  · rintro ⟨h1, h2⟩; exact ⟨h1, by simp, fun a ha b hb e => h2 (by rw [List.mem_singleton] at hb; rw [← hb, ← e]; exact ha)⟩
set_option linter.unusedSimpArgs false
theorem tok_take {t : List Pr} {n i : Nat} {p : Pr} (h : t[i]? = some p) (h1 : ∀ p ∈ t.take i, POk p n) (h2 : POk p n) : ∀ p ∈ t.take (i + 1), POk p n := by
  rw [take_snoc h]
  intro q hq
  rcases List.mem_append.1 hq with hq | hq
  · exact h1 q hq
  · rw [List.mem_singleton] at hq; rw [hq]; exact h2
theorem gok_no_t {v : V} {ts : List (List Pr)} {t : List Pr} (hm : t ∈ ts) (h : ¬ TOk t ts.length) : ¬ GOk v ts := fun g => h (g.2.2 t hm)
theorem tok_no_p {t : List Pr} {n : Nat} {p : Pr} (hm : p ∈ t) (h : ¬ POk p n) : ¬ TOk t n := fun g => h (g.2.1 p hm)
end Go.Proofs.YtkamfnmbidnhdaaDoor
