/- The walk by a symbolic frame: rows made, built and grown; numbers. -/
import Derived.Test.YtkamfnmbidnhdaaDoorSqAB
import Derived.IntWalk
import Derived.Laws.BytesString
import Derived.Laws.Concat
set_option linter.unusedVariables false
set_option linter.unusedSimpArgs false
set_option linter.unusedSectionVars false
namespace Go.Sy
section
variable {P : Program} {T : List (Nat × TI)} {F : Fr} {tm : Tm} {L : Lm} {u : Hp} {n : FN} {N : World} {β : Nat → Nat} {k : Hp} {a : Act} {w : World} {Q : Exit → Act → World → Prop}
theorem Sl.src (hd : Den β L u k N w) {A : Option Addr} {m sz : Nat} {cs : List Value} (h : Sl u A m sz cs) {t e : TypeId} (ht : P.underlying t = some (.slice e)) (c : Nat) (h1 : ∀ v ∈ cs, one v = true) :
    Src P sz t (.slice A m c) m cs w := by
  have h1' : ∀ v ∈ cs, v.oneCell' = true := fun v hv => by have := h1 v hv; cases v <;> first | rfl | (simp [one] at this; done)
  cases A with
  | none =>
    have hm := h.nil rfl
    subst hm
    have : cs = [] := List.length_eq_zero_iff.1 (by rw [h.len]; simp)
    subst this
    exact Src.ofNil w ht c
  | some ad =>
    by_cases hm0 : m = 0
    · subst hm0
      have : cs = [] := List.length_eq_zero_iff.1 (by rw [h.len]; simp)
      subst this
      exact Src.ofSlice w ht ad 0 c [] (by simp) (fun j v hj => by simp at hj) (fun v hv => by cases hv)
    obtain ⟨e1, hat⟩ := h.at_ ad rfl hm0
    obtain ⟨b, o, sp⟩ := ad
    simp only at e1; subst e1
    exact Src.ofSlice w ht _ m c cs h.len (fun j v hj => by
      have : (⟨b, o, none⟩ : Addr).add j = ⟨b, o + j, none⟩ := by simp only [Addr.add]; split <;> simp_all
      rw [this]; exact hat.cell hd hj) h1'
theorem zeroCells_size (z : Array Value) (n : Nat) : (Builtin.zeroCells z n).size = n * z.size := by simp [Builtin.zeroCells]
/-- What an append leaves: the row, grown; a heap h without the old row stays, and has not the new one. -/
def Grown (u u' : Hp) (A A' : Option Addr) : Prop := ∀ h, Le h u → Off h A → Le h u' ∧ Off h A'
theorem append_run (hT : TOK P T) (hd : Den β L u k N w) {t e : TypeId} {ti te : TI} (ht : kget T t = some ti) (hk : ti.kind = .slice e) (he : kget T e = some te) {A : Option Addr} {n c m : Nat} {cs news : List Value} {x : Value} {tx : TypeId} (ty : TypeId)
    (hO : Own u A n c e te.size cs) (hs : Src P te.size tx x m news w) (h1 : ∀ v ∈ news, one v = true) (hb : (n + m) * te.bytes ≤ 140737488355328) (h63 : ((n + m : Nat) : Int) ≤ 9223372036854775807) :
    ∃ A' c' u' w', (Builtin.append_ #[t, tx] ty #[.slice A n c, x]).run P w = .ok (.slice A' (n + m) c') w' ∧ Own u' A' (n + m) c' e te.size (cs ++ news) ∧ Grown u u' A A' ∧ Den β L u' k N w' := by
  have hund := elem_of hT ht hk
  obtain ⟨i, z, hi, hsz, hby, hz, hzc, hzl⟩ := chk_info (hT e te he)
  rw [← hsz] at hs
  have hlen : (cs ++ news).length = (n + m) * te.size := by rw [List.length_append, hO.len, hs.newsLen, hsz, Nat.add_mul]
  by_cases hroom : n + m ≤ c
  · cases A with
    | none =>
      have h0 := hO.nil rfl
      obtain ⟨rfl, rfl, rfl⟩ : n = 0 ∧ m = 0 ∧ c = 0 := ⟨by omega, by omega, by omega⟩
      have e1 : cs = [] := List.length_eq_zero_iff.1 (by rw [hO.len]; simp)
      have e2 : news = [] := List.length_eq_zero_iff.1 (by rw [hs.newsLen]; simp)
      subst e1; subst e2
      refine ⟨none, 0, u, w, ?_, own_nil, fun h h1 h2 => ⟨h1, h2⟩, hd⟩
      rcases hs.kind with ⟨e', hk'⟩ | hk' <;> simp [Builtin.append_, run_und hund, run_und hk', sizeOf, typeInfo, hi, hs.len, hs.cells, program, Sem.run]
    | some ad =>
      obtain ⟨e1, arr, g1, g2, g3⟩ := hO.row ad rfl
      obtain ⟨b, o, sp⟩ := ad
      simp only at e1 g1 g2 g3; subst e1
      have hfit : o + n * te.size + 0 + news.length ≤ arr.size := by
        rw [hs.newsLen, hsz]
        have : (n + m) * te.size ≤ c * te.size := Nat.mul_le_mul_right _ hroom
        rw [Nat.add_mul] at this; omega
      obtain ⟨w', hst, hu⟩ := run_storeCells (P := P) (b := b) (o + n * te.size) news 0 w arr (hd.ext b _ g1).1 hfit h1
      simp only [Nat.add_zero] at hu
      refine ⟨some ⟨b, o, none⟩, c, _, w', ?_, ⟨hlen, hroom, fun h => by (cases h), fun a ha => ?_⟩, fun h h1 h2 => ⟨fun x y hx => ?_, h2⟩, den_ext_set hd g1 hu⟩
      · have hadd : (⟨b, o, none⟩ : Addr).add (n * te.size) = ⟨b, o + n * te.size, none⟩ := by simp only [Addr.add]; split <;> simp_all
        rw [← hsz] at hadd hst
        rcases hs.kind with ⟨e', hk'⟩ | hk' <;> simp [Builtin.append_, run_und hund, run_und hk', sizeOf, typeInfo, hi, hs.len, hroom, hs.cells, program, Sem.run, hadd, hst]
      · have e' := Option.some.inj ha; subst e'
        refine ⟨rfl, _, upd_here .., ?_, fun j v hj => ?_⟩
        · have : o + n * te.size + news.length ≤ arr.toList.length := by simpa using hfit
          have := setL_length arr.toList (o + n * te.size) news this
          simp only [List.size_toArray, this, Array.length_toList]; exact g2
        · simp only [List.getElem?_toArray]
          rw [setL_get _ _ _ (by simpa using hfit)]
          by_cases hjn : j < cs.length
          · rw [List.getElem?_append_left hjn] at hj
            rw [if_neg (by rw [hO.len] at hjn; omega)]
            simpa using g3 j v hj
          · rw [List.getElem?_append_right (by omega), hO.len] at hj
            have : j - n * te.size < news.length := (List.getElem?_eq_some_iff.1 hj).1
            rw [hO.len] at hjn
            rw [if_pos (by omega), show o + j - (o + n * te.size) = j - n * te.size by omega]; exact hj
      · have : x ≠ b := fun e => by subst e; rw [h2 x rfl] at hx; cases hx
        rw [upd_ne this]; exact h1 x y hx
  · have hcap : c < n + m := by omega
    have hold : (Builtin.firstCells i.size n (.slice A n c)).run P w.drew = .ok cs.toArray w.drew := by
      cases A with
      | none =>
        have h0 := hO.nil rfl
        have hn0 : n = 0 := by have := hO.cap; omega
        subst hn0
        have e1 : cs = [] := List.length_eq_zero_iff.1 (by rw [hO.len]; simp)
        subst e1
        exact run_firstCells_none _ _ _ _ _
      | some ad =>
        obtain ⟨e1, arr, g1, g2, g3⟩ := hO.row ad rfl
        obtain ⟨b, o, sp⟩ := ad
        simp only at e1 g1 g2 g3; subst e1
        refine run_firstCells_some _ _ _ _ _ _ _ (by rw [hO.len, hsz]) fun j v hj => ?_
        have : (⟨b, o, none⟩ : Addr).add j = ⟨b, o + j, none⟩ := by simp only [Addr.add]; split <;> simp_all
        rw [this]
        have hc := cell_of (w := w) (off := o + j) (hd.ext b _ g1).1
        have := g3 j v hj
        rw [this] at hc
        exact hc
    have hfit : Builtin.nextslicecap (n + m) c * i.bytes ≤ 281474976710656 := by rw [hby]; exact growslice_fits hcap hb
    have hrun := run_append_grow_src (P := P) w t tx ty e i z hund hi hz A n c cs hold x m news hs hcap h63 hfit
    have hge := grownCap_ge w (n + m) c e
    refine ⟨some ⟨w.heap.size, 0, none⟩, grownCap w (n + m) c e, upd u w.heap.size _, _, hrun, ⟨hlen, hge, fun h => by (cases h), fun a ha => ?_⟩, fun h h1 h2 => ⟨fun x y hx => ?_, fun b hb' => ?_⟩, den_ext_new hd rfl ⟨rfl, rfl, rfl, (by first | exact Nat.le_refl _ | exact Nat.le_succ _)⟩⟩
    · have e' := Option.some.inj ha; subst e'
      refine ⟨rfl, _, upd_here .., ?_, fun j v hj => ?_⟩
      · rw [hzc]
        simp only [Array.size_append, List.size_toArray, hlen, zeroCells_size, Nat.zero_add]
        simp only [List.length_map, hzl]
        rw [← Nat.add_mul]
        exact Nat.le_of_eq (by congr 1; omega)
      · simp only [Nat.zero_add]
        have hj' := (List.getElem?_eq_some_iff.1 hj).1
        rw [Array.getElem?_append_left (by simpa using hj')]; simpa using hj
    · have : x ≠ w.heap.size := fun e => by subst e; have := h1 _ _ hx; rw [hd.fresh] at this; cases this
      rw [upd_ne this]; exact h1 x y hx
    · have e' := Option.some.inj hb'; subst e'
      cases hh : h w.heap.size with
      | none => rfl
      | some y => have := h1 _ _ hh; rw [hd.fresh] at this; cases this
end
end Go.Sy
/- The walk by a symbolic frame: rules for rows made, built and grown; for numbers and texts. -/
namespace Go.Sy
set_option linter.unusedSimpArgs false
section
variable {P : Program} {T : List (Nat × TI)} {F : Fr} {tm : Tm} {L : Lm} {u : Hp} {n : FN} {N : World} {β : Nat → Nat} {k : Hp} {a : Act} {w : World} {Q : Exit → Act → World → Prop}
/-- append(x, y...), y a slice. -/
theorem r_append (hT : TOK P T) {l : List Oper} {o : Oper} {r : List Oper} {d : Nat} {t t2 e e2 : TypeId} {ti te ti2 : TI} {x y : Operand} {A B : Option Addr} {m c m2 c2 : Nat} {cs news : List Value}
    (hw : wantE l tm o = some true) (ho : o.dst = some d) (hn : Nat.blt d F.n.z = true) (hop : o.op = .call { callee := .builtin .append, args := #[x, y], argTypes := #[t, t2] })
    (ht : kget T t = some ti) (hk : ti.kind = .slice e) (he : kget T e = some te) (ht2 : kget T t2 = some ti2) (hk2 : ti2.kind = .slice e2)
    (hx : ev tm x = some (.v (.slice A m c))) (hy : ev tm y = some (.v (.slice B m2 c2))) (hO : Own u A m c e te.size cs) (hS : Sl u B m2 te.size news) (h1 : ∀ v ∈ news, one v = true)
    (hb : (m + m2) * te.bytes ≤ 140737488355328) (h63 : ((m + m2 : Nat) : Int) ≤ 9223372036854775807)
    (next : ∀ A' c' u', Own u' A' (m + m2) c' e te.size (cs ++ news) → Grown u u' A A' → Run P Q F ((d, .v (.slice A' (m + m2) c')) :: tm) L u' .seq l r) :
    Run P Q F tm L u .seq l (o :: r) := by
  refine op_any hw ho hn (fun β a w hf ht' hd => ?_)
  obtain ⟨A', c', u', w', h1', h2', h3', h4'⟩ := append_run (P := P) hT hd ht hk he (x := .slice B m2 c2) (tx := t2) o.type hO (hS.src (P := P) hd (elem_of hT ht2 hk2) c2 h1) h1 hb h63
  refine ⟨β, w', _, L, u', ?_, hf, ht', h4', rfl, next A' c' u' h2' h3'⟩
  simp [execOp, hop, ev_ok ht' hx, ev_ok ht' hy, SV.den, resolve, invoke, builtin, h1']
def reps {α : Type} : Nat → List α → List α
  | 0, _ => []
  | n + 1, l => l ++ reps n l
theorem reps_length {α : Type} : ∀ (n : Nat) (l : List α), (reps n l).length = n * l.length
  | 0, l => by simp [reps]
  | n + 1, l => by simp [reps, reps_length n l, Nat.add_mul, Nat.add_comm]
theorem reps_get {α : Type} : ∀ (n : Nat) (l : List α) (j : Nat), j < n * l.length → (reps n l)[j]? = l[j % l.length]?
  | 0, l, j, h => by simp at h
  | n + 1, l, j, h => by
    simp only [reps]
    by_cases hj : j < l.length
    · rw [List.getElem?_append_left hj, Nat.mod_eq_of_lt hj]
    · rw [List.getElem?_append_right (by omega), reps_get n l _ (by rw [Nat.add_mul] at h; omega)]
      have : j % l.length = (j - l.length) % l.length := by rw [Nat.mod_eq_sub_mod (by omega)]
      rw [this]
theorem made_reps (z : List Value) (n : Nat) (hz : z ≠ []) : madeCells z.toArray (n * z.length) = (reps n z).toArray := by
  apply Array.ext'
  apply List.ext_getElem?
  intro j
  have hpos : 0 < z.length := List.length_pos_iff.2 hz
  by_cases hj : j < n * z.length
  · rw [reps_get n z j hj]
    have hm : j % z.length < z.length := Nat.mod_lt _ hpos
    simp [madeCells, hj, getElem!_pos, hm]
  · have h1 : (reps n z).length ≤ j := by rw [reps_length]; omega
    rw [List.getElem?_eq_none h1]
    simp [madeCells, hj]
/-- make([]T, n) -/
theorem r_make (hT : TOK P T) {l : List Oper} {o : Oper} {r : List Oper} {d : Nat} {t e : TypeId} {ti te : TI} {x y : Operand} {kx ky : IntKind} {i : Int}
    (hw : wantE l tm o = some true) (ho : o.dst = some d) (hn : Nat.blt d F.n.z = true) (hop : o.op = .makeSlice t x y) (ht : kget T t = some ti) (hk : ti.kind = .slice e) (he : kget T e = some te) (hz0 : te.zero ≠ [])
    (hx : ev tm x = some (.v (.int kx i))) (hy : ev tm y = some (.v (.int ky i))) (h0 : 0 ≤ i) (hb : (te.bytes : Int) * i ≤ 281474976710656) (h63 : i ≤ 9223372036854775807)
    (next : ∀ b, u b = none → Run P Q F ((d, .v (.slice (some ⟨b, 0, none⟩) i.toNat i.toNat)) :: tm) L (upd u b (.cells (reps i.toNat (te.zero.map ZV.val)).toArray e (0, 0))) .seq l r) :
    Run P Q F tm L u .seq l (o :: r) := by
  refine op_any hw ho hn (fun β a w hf ht' hd => ?_)
  obtain ⟨inf, z, hi, hsz, hby, hz, hzc, hzl⟩ := chk_info (hT e te he)
  have hrun := run_make (P := P) w t e inf z (elem_of hT ht hk) hi hz kx ky i i h0 (Int.le_refl _) (by rw [hby]; exact hb) h63
  have hm : madeCells z.cells (i.toNat * inf.size) = (reps i.toNat (te.zero.map ZV.val)).toArray := by
    rw [hzc, hsz, ← hzl]
    have := made_reps (te.zero.map ZV.val) i.toNat (by simpa using hz0)
    simpa using this
  rw [hm] at hrun
  refine ⟨β, w.alloc (.cells (reps i.toNat (te.zero.map ZV.val)).toArray e), .v (.slice (some ⟨w.heap.size, 0, none⟩) i.toNat i.toNat), L, _, ?_, hf, ht', den_ext_new hd (w' := w.alloc (.cells (reps i.toNat (te.zero.map ZV.val)).toArray e)) rfl ⟨rfl, rfl, rfl, Nat.le_refl _⟩, rfl, next w.heap.size hd.fresh⟩
  simp [execOp, hop, ev_ok ht' hx, ev_ok ht' hy, SV.den, hrun]
/-- The cells of a literal: of its parts, in order, each once. -/
def partsE (tm : Tm) (L : Lm) (agg : Bool) (sz : Nat) : Nat → List (Nat × Operand) → Option (List Value)
  | _, [] => some []
  | i, (j, x) :: r => match Nat.beq i j with
    | true => match ev tm x with
      | some s => match cellsE agg s with
        | some cs => match lenIs cs sz with
          | true => match valsE L cs with
            | some vs => match partsE tm L agg sz (i + 1) r with
              | some l => some (vs ++ l)
              | none => none
            | none => none
          | false => none
        | none => none
      | none => none
    | false => none
theorem fold_set (cs : List Value) (off : Nat) : ∀ (vs : List Value) (i : Nat), off + i + vs.length ≤ cs.length →
    (vs.zipIdx i).foldl (fun (acc : Array Value) (p : Value × Nat) => acc.setIfInBounds (off + p.2) p.1) cs.toArray = (setL cs (off + i) vs).toArray := by
  intro vs
  induction vs generalizing cs with
  | nil => intro i _; simp [setL_nil]
  | cons v vs ih =>
    intro i h
    simp only [List.length_cons] at h
    simp only [List.zipIdx_cons, List.foldl_cons]
    rw [setL_cons _ _ _ _ (by omega)]
    have := ih (cs.set (off + i) v) (i + 1) (by simp; omega)
    rw [show off + (i + 1) = off + i + 1 by omega] at this
    rw [← this]
    simp
theorem partsE_fill (ht : RelT n L β tm a) (hd : Den β L u k N w) {agg : Bool} {sz : Nat} : ∀ {ps : List (Nat × Operand)} {i : Nat} {vs : List Value}, partsE tm L agg sz i ps = some vs → ∀ (pre post : List Value), pre.length = i * sz → post.length = ps.length * sz →
    Instr.fill (fun j => some (j * sz, sz)) (pre ++ post).toArray (ps.map fun p => (p.1, a.eval p.2)) = some (pre ++ vs).toArray ∧ vs.length = ps.length * sz ∧ ∀ v ∈ vs, True
  | [], i, vs, h, pre, post, h1, h2 => by
    simp only [partsE, Option.some.injEq] at h; subst h
    have : post = [] := List.length_eq_zero_iff.1 (by simpa using h2)
    subst this
    simp [Instr.fill]
  | (j, x) :: r, i, vs, h, pre, post, h1, h2 => by
    simp only [partsE] at h
    split at h
    · rename_i hij
      have e := Nat.eq_of_beq_eq_true hij; subst e
      split at h
      · rename_i s hs
        split at h
        · rename_i cs hcs
          split at h
          · rename_i hl
            split at h
            · rename_i us hus
              split at h
              · rename_i l hl2
                have e := Option.some.inj h; subst e
                obtain ⟨g1, g2⟩ := cellsE_ok (β := β) hcs (ev_oks ht hs)
                have hv := valsE_den hd.bn hus
                have hlen : us.length = sz := by rw [← hv, dens_map]; simpa using lenIs_eq hl
                have hp : post.length = sz + r.length * sz := by rw [h2]; simp [Nat.add_mul, Nat.add_comm]
                have hcells : (a.eval x).cells = us.toArray := by rw [ev_ok ht hs, g1, hv]
                have ih := partsE_fill ht hd hl2 (pre ++ us) (post.drop sz) (by simp [h1, hlen, Nat.add_mul]) (by simp [hp])
                refine ⟨?_, by simp [hlen, ih.2.1, Nat.add_mul, Nat.add_comm], fun _ _ => trivial⟩
                have hfold := fold_set (pre ++ post) (i * sz) us 0 (by simp [h1, hlen, hp])
                have hset : setL (pre ++ post) (i * sz) us = (pre ++ us) ++ post.drop sz := by
                  simp only [setL, ← h1]
                  rw [List.take_left', List.drop_append]
                  · simp [hlen]
                  · rfl
                have hs1 : ((a.eval x).cells.size ≠ sz || i * sz + (a.eval x).cells.size > (pre ++ post).toArray.size) = false := by
                  rw [hcells]; simp [hlen, h1, hp]
                simp only [List.map_cons, Instr.fill, hs1, Bool.false_eq_true, if_false]
                have hz : (a.eval x).cells.zipIdx.foldl (fun cs (x : Value × Nat) => cs.setIfInBounds (i * sz + x.2) x.1) (pre ++ post).toArray = ((pre ++ us) ++ post.drop sz).toArray := by
                  rw [hcells, ← hset]
                  have := hfold
                  simp only [Nat.add_zero] at this
                  rw [← this, ← Array.foldl_toList]
                  simp
                rw [hz, ih.1]
                simp
              · cases h
            · cases h
          · cases h
        · cases h
      · cases h
    · cases h
/-- []T{..}, all parts given -/
theorem r_bslice (hT : TOK P T) {l : List Oper} {o : Oper} {r : List Oper} {d : Nat} {t e : TypeId} {ti te : TI} {ps : List (Nat × Operand)} {m : Nat} {vs : List Value}
    (hw : wantE l tm o = some true) (ho : o.dst = some d) (hn : Nat.blt d F.n.z = true) (hop : o.op = .buildSlice t m ps.toArray) (ht : kget T t = some ti) (hk : ti.kind = .slice e) (he : kget T e = some te) (hz0 : te.zero ≠ [])
    (hv : partsE tm L te.kind.agg te.size 0 ps = some vs) (hm : ps.length = m) (hsm : m * te.size ≤ 2 ^ 24)
    (next : ∀ b, u b = none → Run P Q F ((d, .v (.slice (some ⟨b, 0, none⟩) m m)) :: tm) L (upd u b (.cells vs.toArray e (0, 0))) .seq l r) :
    Run P Q F tm L u .seq l (o :: r) := by
  refine op_any hw ho hn (fun β a w hf ht' hd => ?_)
  obtain ⟨inf, z, hi, hsz, hby, hz, hzc, hzl⟩ := chk_info (hT e te he)
  have hfill := (partsE_fill ht' hd hv [] (reps m (te.zero.map ZV.val)) (by simp) (by rw [reps_length, hm]; simp [hzl])).1
  simp only [List.nil_append] at hfill
  have hnz : te.size ≠ 0 := by rw [← hzl]; intro h; exact hz0 (List.length_eq_zero_iff.1 h)
  have hmade : (Array.range (m * te.size)).map (z.cells[· % z.cells.size]!) = (reps m (te.zero.map ZV.val)).toArray := by
    have := made_reps (te.zero.map ZV.val) m (by simpa using hz0)
    rw [hzc]
    simpa [madeCells, hzl] using this
  refine ⟨β, { w with heap := w.heap.push (.cells vs.toArray e (0, 0)) }, .v (.slice (some ⟨w.heap.size, 0, none⟩) m m), L, _, ?_, hf, ht', den_ext_new hd rfl ⟨rfl, rfl, rfl, Nat.le_refl _⟩, rfl, next w.heap.size hd.fresh⟩
  have hz' : (zeroValue e).run P w = .ok z w := by simp [zeroValue, typeInfo, program, Sem.run, hi, hz]
  have hlarge : ¬ (2 ^ 24 < m * te.size) := by omega
  have hparts : (ps.toArray.map fun p => (p.1, a.eval p.2)).toList = ps.map fun p => (p.1, a.eval p.2) := by simp
  by_cases hm0 : m * te.size = 0
  · have : m = 0 := by rcases Nat.mul_eq_zero.1 hm0 with h | h; exact h; exact absurd h hnz
    subst this
    have : ps = [] := List.length_eq_zero_iff.1 hm
    subst this
    simp only [partsE, Option.some.injEq] at hv; subst hv
    simp [execOp, hop, Instr.buildSlice, run_und (elem_of hT ht hk), run_size (hT e te he), Instr.fill, newRow, newObj, Sem.run, SV.den, Array.range_zero']
  · simp only [execOp, hop, Instr.buildSlice, Sem.run_bind, run_und (elem_of hT ht hk), run_size (hT e te he), Result.andThen_ok, gt_iff_lt, if_neg hlarge, if_neg hm0, hz', hmade, hparts, hfill, Sem.run_pure]
    simp [newRow, newObj, Sem.run, SV.den, hfill, hmade, hz', hm0]
end
end Go.Sy
/- The walk by a symbolic frame: rules for numbers, texts, structs. -/
namespace Go.Sy
set_option linter.unusedSimpArgs false
def byt (s : ByteArray) (i : Nat) : Nat := (s.data.toList.getD i 0).toNat
def arithE (op : BinOp) (a b : Int) : Option Int :=
  match op with
  | .add => some (a + b)
  | .sub => some (a - b)
  | .mul => some (a * b)
  | _ => none
section
variable {P : Program} {T : List (Nat × TI)} {F : Fr} {tm : Tm} {L : Lm} {u : Hp} {n : FN} {N : World} {β : Nat → Nat} {k : Hp} {a : Act} {w : World} {Q : Exit → Act → World → Prop}
theorem r_arithw {qq : Md} {l : List Oper} {o : Oper} {r : List Oper} {d : Nat} {op : BinOp} {t t' : TypeId} {x y : Operand} {kk : IntKind} {p q c : Int} (hw : wantE l tm o = some true) (ho : o.dst = some d) (hn : Nat.blt d F.n.z = true)
    (hop : o.op = .binOp op t x y t') (hx : ev tm x = some (.v (.int kk p))) (hy : ev tm y = some (.v (.int kk q))) (hc : arithE op p q = some c)
    (next : Run P Q F ((d, .v (.int kk (kk.wrap c))) :: tm) L u qq l r) : Run P Q F tm L u qq l (o :: r) := by
  refine op_pure hw ho hn (fun β a w ht hd => ⟨?_, rfl⟩) next
  have hg : eqGuard op t x y (.int kk p) (.int kk q) = pure () := eqGuard_at_int ..
  cases op <;> simp [arithE] at hc <;> subst hc <;> simp [execOp, hop, ev_ok ht hx, ev_ok ht hy, SV.den, hg, binOp, Op.intArith]
theorem r_arith {qq : Md} {l : List Oper} {o : Oper} {r : List Oper} {d : Nat} {op : BinOp} {t t' : TypeId} {x y : Operand} {p q c : Int} (hw : wantE l tm o = some true) (ho : o.dst = some d) (hn : Nat.blt d F.n.z = true)
    (hop : o.op = .binOp op t x y t') (hx : ev tm x = some (.v (.int .i64 p))) (hy : ev tm y = some (.v (.int .i64 q))) (hc : arithE op p q = some c) (hr : -9223372036854775808 ≤ c ∧ c ≤ 9223372036854775807)
    (next : Run P Q F ((d, .v (.int .i64 c)) :: tm) L u qq l r) : Run P Q F tm L u qq l (o :: r) :=
  r_arithw hw ho hn hop hx hy hc (by rw [IntWalk.i64_in c hr]; exact next)
theorem r_rem {qq : Md} {l : List Oper} {o : Oper} {r : List Oper} {d : Nat} {t t' : TypeId} {x y : Operand} {kk : IntKind} {p q : Int} (hw : wantE l tm o = some true) (ho : o.dst = some d) (hn : Nat.blt d F.n.z = true)
    (hop : o.op = .binOp .rem t x y t') (hx : ev tm x = some (.v (.int kk p))) (hy : ev tm y = some (.v (.int kk q))) (hq : q ≠ 0)
    (next : Run P Q F ((d, .v (.int kk (p.tmod q))) :: tm) L u qq l r) : Run P Q F tm L u qq l (o :: r) := by
  refine op_pure hw ho hn (fun β a w ht hd => ⟨?_, rfl⟩) next
  simp [execOp, hop, ev_ok ht hx, ev_ok ht hy, SV.den, eqGuard_rem, binOp, Op.intDiv, hq]
theorem r_remN {qq : Md} {l : List Oper} {o : Oper} {r : List Oper} {d : Nat} {t t' : TypeId} {x y : Operand} {kk : IntKind} {p q : Nat} (hw : wantE l tm o = some true) (ho : o.dst = some d) (hn : Nat.blt d F.n.z = true)
    (hop : o.op = .binOp .rem t x y t') (hx : ev tm x = some (.v (.int kk (p : Int)))) (hy : ev tm y = some (.v (.int kk (q : Int)))) (hq : q ≠ 0)
    (next : Run P Q F ((d, .v (.int kk ((p % q : Nat) : Int))) :: tm) L u qq l r) : Run P Q F tm L u qq l (o :: r) :=
  r_rem hw ho hn hop hx hy (by omega) next
theorem r_bits {qq : Md} {l : List Oper} {o : Oper} {r : List Oper} {d : Nat} {op : BinOp} {t t' : TypeId} {x y : Operand} {kk : IntKind} {p q c : Int} (hw : wantE l tm o = some true) (ho : o.dst = some d) (hn : Nat.blt d F.n.z = true)
    (hop : o.op = .binOp op t x y t') (hx : ev tm x = some (.v (.int kk p))) (hy : ev tm y = some (.v (.int kk q))) (hc : (Op.intBits op kk p q) = pure (.int kk c)) (hb : op = .and ∨ op = .or ∨ op = .xor ∨ op = .andNot)
    (next : Run P Q F ((d, .v (.int kk c)) :: tm) L u qq l r) : Run P Q F tm L u qq l (o :: r) := by
  refine op_pure hw ho hn (fun β a w ht hd => ⟨?_, rfl⟩) next
  have hg : eqGuard op t x y (.int kk p) (.int kk q) = pure () := eqGuard_at_int ..
  rcases hb with rfl | rfl | rfl | rfl <;> simp [execOp, hop, ev_ok ht hx, ev_ok ht hy, SV.den, hg, binOp, hc]
theorem r_shift {qq : Md} {l : List Oper} {o : Oper} {r : List Oper} {d : Nat} {op : BinOp} {t t' : TypeId} {x y : Operand} {kk ky : IntKind} {p q c : Int} (hw : wantE l tm o = some true) (ho : o.dst = some d) (hn : Nat.blt d F.n.z = true)
    (hop : o.op = .binOp op t x y t') (hx : ev tm x = some (.v (.int kk p))) (hy : ev tm y = some (.v (.int ky q))) (hb : op = .shl ∨ op = .shr) (hc : (Op.shift op kk p ky q) = pure (.int kk c))
    (next : Run P Q F ((d, .v (.int kk c)) :: tm) L u qq l r) : Run P Q F tm L u qq l (o :: r) := by
  refine op_pure hw ho hn (fun β a w ht hd => ⟨?_, rfl⟩) next
  have hg : eqGuard op t x y (.int kk p) (.int ky q) = pure () := eqGuard_at_int ..
  rcases hb with rfl | rfl <;> simp [execOp, hop, ev_ok ht hx, ev_ok ht hy, SV.den, hg, binOp, hc]
theorem desc_of (hT : TOK P T) {t : TypeId} {ti : TI} (h : kget T t = some ti) : ∃ d, P.underlying t = some d ∧ kfits P ti.kind d = true := chk_desc (hT t ti h)
/-- A whole number of another kind. -/
theorem r_convw (hT : TOK P T) {qq : Md} {l : List Oper} {o : Oper} {r : List Oper} {d : Nat} {t t' : TypeId} {ti ti' : TI} {x : Operand} {kk k2 : IntKind} {p : Int} (hw : wantE l tm o = some true) (ho : o.dst = some d) (hn : Nat.blt d F.n.z = true)
    (hop : o.op = .convert t t' x) (ht1 : kget T t = some ti) (ht2 : kget T t' = some ti') (hk : ti'.kind = .int k2) (hx : ev tm x = some (.v (.int kk p)))
    (next : Run P Q F ((d, .v (.int k2 (k2.wrap p))) :: tm) L u qq l r) : Run P Q F tm L u qq l (o :: r) := by
  refine op_pure hw ho hn (fun β a w ht hd => ⟨?_, rfl⟩) next
  obtain ⟨d1, e1, f1⟩ := desc_of hT ht1
  obtain ⟨d2, e2, f2⟩ := desc_of hT ht2
  rw [hk] at f2
  cases d2 <;> simp [kfits] at f2
  subst f2
  simp [execOp, hop, ev_ok ht hx, SV.den, convert, run_und e1, run_und e2, Conv.intToInt]
theorem r_conv (hT : TOK P T) {qq : Md} {l : List Oper} {o : Oper} {r : List Oper} {d : Nat} {t t' : TypeId} {ti ti' : TI} {x : Operand} {kk k2 : IntKind} {p : Int} (hw : wantE l tm o = some true) (ho : o.dst = some d) (hn : Nat.blt d F.n.z = true)
    (hop : o.op = .convert t t' x) (ht1 : kget T t = some ti) (ht2 : kget T t' = some ti') (hk : ti'.kind = .int k2) (hx : ev tm x = some (.v (.int kk p))) (hp : k2.wrap p = p)
    (next : Run P Q F ((d, .v (.int k2 p)) :: tm) L u qq l r) : Run P Q F tm L u qq l (o :: r) :=
  r_convw hT hw ho hn hop ht1 ht2 hk hx (by rw [hp]; exact next)
theorem r_concat {qq : Md} {l : List Oper} {o : Oper} {r : List Oper} {d : Nat} {t t' : TypeId} {x y : Operand} {p q : ByteArray} (hw : wantE l tm o = some true) (ho : o.dst = some d) (hn : Nat.blt d F.n.z = true)
    (hop : o.op = .binOp .add t x y t') (hx : ev tm x = some (.v (.string p))) (hy : ev tm y = some (.v (.string q))) (hs : p.size + q.size ≤ 9223372036854775807)
    (next : Run P Q F ((d, .v (.string (p ++ q))) :: tm) L u qq l r) : Run P Q F tm L u qq l (o :: r) := by
  refine op_pure hw ho hn (fun β a w ht hd => ⟨?_, rfl⟩) next
  have hs' : ¬ (p.size + q.size > 9223372036854775807) := by omega
  simp only [execOp, hop, ev_ok ht hx, ev_ok ht hy, SV.den, eqGuard_add, binOp, pure_bind, bind_pure, Sem.run_bind, run_string_add_if, if_neg hs', Result.andThen_ok, Sem.run_pure]
theorem r_str (hT : TOK P T) {qq : Md} {l : List Oper} {o : Oper} {r : List Oper} {d : Nat} {t t' e : TypeId} {ti ti' te : TI} {x : Operand} {A : Option Addr} {m c : Nat} {s : ByteArray} (hw : wantE l tm o = some true) (ho : o.dst = some d) (hn : Nat.blt d F.n.z = true)
    (hop : o.op = .convert t t' x) (ht1 : kget T t = some ti) (hk1 : ti.kind = .slice e) (he : kget T e = some te) (hke : te.kind = .int .u8) (ht2 : kget T t' = some ti') (hk : ti'.kind = .str) (hx : ev tm x = some (.v (.slice A m c)))
    (hS : Sl u A m 1 (byteCells s)) (next : Run P Q F ((d, .v (.string s)) :: tm) L u qq l r) : Run P Q F tm L u qq l (o :: r) := by
  refine op_pure hw ho hn (fun β a w ht hd => ⟨?_, rfl⟩) next
  obtain ⟨d2, e2, f2⟩ := desc_of hT ht2
  rw [hk] at f2
  cases d2 <;> simp [kfits] at f2
  obtain ⟨d3, e3, f3⟩ := desc_of hT he
  rw [hke] at f3
  cases d3 <;> simp [kfits] at f3
  subst f3
  have hc := run_convert_bytes_string (P := P) w t t' e A m c (elem_of hT ht1 hk1) e3 e2
  have hb : (Conv.bytesToString (.slice A m c)).run P w = .ok (.string s) w := by
    cases A with
    | none =>
      have := hS.nil rfl
      subst this
      have hl := hS.len
      rw [byteCells_length] at hl
      have : s = .empty := by
        have h0 : s.data.size = 0 := by simpa using hl
        obtain ⟨d⟩ := s
        simp at h0
        subst h0; rfl
      subst this
      simp [Conv.bytesToString]
    | some ad =>
      by_cases hm0 : m = 0
      · subst hm0
        have hl := hS.len
        rw [byteCells_length] at hl
        have : s = .empty := by
          have h0 : s.data.size = 0 := by simpa using hl
          obtain ⟨d⟩ := s
          simp at h0
          subst h0; rfl
        subst this
        have hrun := run_loadCells_list (P := P) w ad [] (fun j v hj => by simp at hj)
        rw [run_bytesToString w ad 0 c [] (by simpa using hrun)]
        rfl
      obtain ⟨e1, hat⟩ := hS.at_ ad rfl hm0
      obtain ⟨b, off, sp⟩ := ad
      simp only at e1; subst e1
      have hl := hS.len
      have hrun := run_loadCells_list (P := P) w ⟨b, off, none⟩ (byteCells s) (fun j v hj => by
        have : (⟨b, off, none⟩ : Addr).add j = ⟨b, off + j, none⟩ := by simp only [Addr.add]; split <;> simp_all
        rw [this]; exact hat.cell hd hj)
      rw [hl, Nat.mul_one] at hrun
      have hbc : byteCells s = (s.data.toList.map fun b => (b.toNat : Int)).map (Value.int .u8) := by simp [byteCells]
      rw [hbc] at hrun
      rw [run_bytesToString w ⟨b, off, none⟩ m c _ hrun]
      congr 2
      have key : ∀ (l : List UInt8) (acc : ByteArray), (l.map fun b => (b.toNat : Int)).foldl (fun r n => r.push (UInt8.ofNat n.toNat)) acc = ⟨acc.data ++ l.toArray⟩ := by
        intro l
        induction l with
        | nil => intro acc; simp
        | cons x l ih => intro acc; simp only [List.map_cons, List.foldl_cons, ih]; simp [ByteArray.push]
      rw [key]
      have h0 : (ByteArray.empty.data ++ s.data.toList.toArray) = s.data := by
        rw [Array.toArray_toList]
        show (#[] ++ s.data) = s.data
        exact Array.empty_append
      rw [h0]
  simp [execOp, hop, ev_ok ht hx, SV.den, hc, hb]
/-- s[i] -/
theorem r_byte (hT : TOK P T) {qq : Md} {l : List Oper} {o : Oper} {r : List Oper} {d : Nat} {t : TypeId} {ti : TI} {x y : Operand} {kk : IntKind} {s : ByteArray} {i : Nat} (hw : wantE l tm o = some true) (ho : o.dst = some d) (hn : Nat.blt d F.n.z = true)
    (hop : o.op = .index t x y) (ht1 : kget T t = some ti) (hk : ti.kind = .str) (hx : ev tm x = some (.v (.string s))) (hy : ev tm y = some (.v (.int kk (i : Int)))) (hi : i < s.size)
    (next : Run P Q F ((d, .v (.int .u8 (byt s i))) :: tm) L u qq l r) : Run P Q F tm L u qq l (o :: r) := by
  refine op_pure hw ho hn (fun β a w ht hd => ⟨?_, rfl⟩) next
  obtain ⟨d2, e2, f2⟩ := desc_of hT ht1
  rw [hk] at f2
  cases d2 <;> simp [kfits] at f2
  have h1 : s[i]? = some s[i] := getElem?_pos s i hi
  have h2 : (s[i] : UInt8).toNat = byt s i := by
    unfold byt
    have : i < s.data.toList.length := by simpa using hi
    rw [List.getD_eq_getElem?_getD, List.getElem?_eq_getElem this]
    rfl
  simp [execOp, hop, ev_ok ht hx, ev_ok ht hy, SV.den, Instr.index, asIntOf, run_und e2, h1, h2]
end
end Go.Sy
/- The walk by a symbolic frame: a few rules more. -/
namespace Go.Sy
set_option linter.unusedSimpArgs false
section
variable {P : Program} {T : List (Nat × TI)} {F : Fr} {tm : Tm} {L : Lm} {u : Hp} {n : FN} {N : World} {β : Nat → Nat} {k : Hp} {a : Act} {w : World} {Q : Exit → Act → World → Prop}
theorem c_yes {c : Operand} {x y : Code} {p : Prop} [Decidable p] (hc : ev tm c = some (.v (.bool (decide p)))) (hp : p) (h1 : St F tm L u (fun a w => x.wp P Q a w)) : St F tm L u (fun a w => (Code.cond c x y).wp P Q a w) :=
  r_cond_dec hc (fun _ => h1) (fun h => absurd hp h)
theorem c_no {c : Operand} {x y : Code} {p : Prop} [Decidable p] (hc : ev tm c = some (.v (.bool (decide p)))) (hp : ¬ p) (h1 : St F tm L u (fun a w => y.wp P Q a w)) : St F tm L u (fun a w => (Code.cond c x y).wp P Q a w) :=
  r_cond_dec hc (fun h => absurd h hp) (fun _ => h1)
/-- not p -/
theorem c_not {c : Operand} {x y : Code} {p : Prop} [Decidable p] (hc : ev tm c = some (.v (.bool (!decide p)))) (h1 : ¬ p → St F tm L u (fun a w => x.wp P Q a w)) (h2 : p → St F tm L u (fun a w => y.wp P Q a w)) :
    St F tm L u (fun a w => (Code.cond c x y).wp P Q a w) :=
  r_cond hc (fun e => h1 (by simpa using e)) (fun e => h2 (by simpa using e))
theorem Den.weak (hd : Den β L u k N w) {v : Hp} (hl : Le v u) : Den β L v k N w :=
  ⟨hd.loc, hd.inj, fun b o hb => hd.ext b o (hl b o hb), fun b o hb => ⟨(hd.hid b o hb).1, (by
    cases hv : v b with
    | none => rfl
    | some o' => (have := hl b o' hv; rw [(hd.hid b o hb).2.1] at this; cases this)), (hd.hid b o hb).2.2⟩, hd.size⟩
/-- Fewer blocks beyond the frame. -/
theorem St.weak {Φ : Act → World → Prop} {v : Hp} (hl : Le v u) (h : St F tm L v Φ) : St F tm L u Φ := fun β a w hf ht hd => h β a w hf ht (hd.weak hl)
/-- In a region whose order is drawn: a call that leaves all that is known, and always answers the same. -/
theorem q_call {l : List Oper} {o : Oper} {r : List Oper} {d : Nat} {c : Call} {f : FuncId} {svs args : List SV} {vs : List Value} {Y : Type} {val : Y → SV} {ψ : Y → Hp → Prop} (y0 : Y)
    (htri : TriS P f args [] u val (fun _ => []) ψ) (hψ : ∀ y u', ψ y u' → y = y0 ∧ Le u u') (hw : wantE l tm o = some true) (ho : o.dst = some d) (hn : Nat.blt d F.n.z = true) (hop : o.op = .call c) (hcal : calleeE tm c = some (f, svs)) (hc : callable P f = true)
    (hvs' : valsE [] args = some vs) (hvs : valsE L svs = some vs) (hok : (val y0).ok [] = true) (next : Run P Q F ((d, val y0) :: tm) L u .quiet l r) : Run P Q F tm L u .quiet l (o :: r) := by
  intro β a w hf ht hd
  show (if _ then _ else _)
  rw [if_pos (wantE_ok hw ht)]
  have hk' : (val y0).ok L = true := ok_more (fun i hi => by simp [kget] at hi) _ hok
  refine ⟨(val y0).den β, fun w' hw' => ?_, ?_⟩
  · unfold Oper.quietAt
    rw [calleeE_ok hop hcal hc ht hw', valsE_den hw'.bn hvs]
    refine ⟨rfl, (htri List.nodup_nil (fun b hb => by simp [names] at hb) vs u hvs' rfl _ _ w' (den0_of hw')).mono ?_⟩
    rintro e w'' ⟨v, h'', rfl, ⟨y, h', h1, h2, h3, h4⟩, h5⟩
    simp only [addsE, Option.some.injEq] at h2; subst h2
    obtain ⟨rfl, hle⟩ := hψ y h' h4
    refine ⟨?_, (den_back hw' h5).weak hle⟩
    rw [valE_den (L := []) (β := β) (fun i B b hB => by simp [kget] at hB) h1]
  · rw [ho]; exact next β _ w hf (put_rel hn ht hk') hd
theorem own_set {u : Hp} {b off n c : Nat} {e : TypeId} {sz o : Nat} {cs vs : List Value} {arr : Array Value} (h : Own u (some ⟨b, off, none⟩) n c e sz cs) (hb : u b = some (.cells arr e (0, 0))) (hl : o + vs.length ≤ cs.length) :
    Own (upd u b (.cells (setL arr.toList (off + o) vs).toArray e (0, 0))) (some ⟨b, off, none⟩) n c e sz (setL cs o vs) := by
  obtain ⟨_, arr', g1, g2, g3⟩ := h.row _ rfl
  simp only at g1 g2 g3
  rw [hb] at g1
  have e1 := Option.some.inj g1
  simp only [Obj.cells.injEq] at e1
  obtain ⟨rfl, _, _⟩ := e1
  have hfit : off + o + vs.length ≤ arr.toList.length := by
    have := h.len; have := Nat.mul_le_mul_right sz h.cap; simp; omega
  refine ⟨by rw [setL_length _ _ _ hl]; exact h.len, h.cap, fun h => (by cases h), fun a ha => ?_⟩
  have e2 := Option.some.inj ha; subst e2
  refine ⟨rfl, _, upd_here .., by simpa [setL_length _ _ _ hfit] using g2, fun j v hj => ?_⟩
  simp only [List.getElem?_toArray]
  rw [setL_get _ _ _ hl] at hj
  rw [setL_get _ _ _ hfit]
  split at hj
  · rename_i hc; rw [if_pos (by omega), show off + j - (off + o) = j - o by omega]; exact hj
  · rename_i hc; rw [if_neg (by omega)]; simpa using g3 j v hj
theorem valsE_length : ∀ {l : List SV} {r : List Value}, valsE L l = some r → r.length = l.length
  | [], r, h => by simp only [valsE, Option.some.injEq] at h; subst h; rfl
  | s :: l, r, h => by
    simp only [valsE] at h
    split at h
    · split at h
      · rename_i l' hl'; have e := Option.some.inj h; subst e; simp [valsE_length hl']
      · cases h
    · cases h
/-- make([]T, n), n a count -/
theorem r_makeN (hT : TOK P T) {l : List Oper} {o : Oper} {r : List Oper} {d : Nat} {t e : TypeId} {ti te : TI} {x y : Operand} {kx ky : IntKind} {i : Nat}
    (hw : wantE l tm o = some true) (ho : o.dst = some d) (hn : Nat.blt d F.n.z = true) (hop : o.op = .makeSlice t x y) (ht : kget T t = some ti) (hk : ti.kind = .slice e) (he : kget T e = some te) (hz0 : te.zero ≠ [])
    (hx : ev tm x = some (.v (.int kx (i : Int)))) (hy : ev tm y = some (.v (.int ky (i : Int)))) (hb : te.bytes * i ≤ 281474976710656) (h63 : i ≤ 9223372036854775807)
    (next : ∀ b, u b = none → Run P Q F ((d, .v (.slice (some ⟨b, 0, none⟩) i i)) :: tm) L (upd u b (.cells (reps i (te.zero.map ZV.val)).toArray e (0, 0))) .seq l r) :
    Run P Q F tm L u .seq l (o :: r) :=
  r_make hT hw ho hn hop ht hk he hz0 hx hy (Int.natCast_nonneg i) (by have : ((te.bytes * i : Nat) : Int) ≤ 281474976710656 := by omega
                                                                       simpa using this) (by omega) (fun b hb => by simpa using next b hb)
theorem own_made {u : Hp} {b m : Nat} {e : TypeId} {z : List Value} {sz : Nat} (hz : z.length = sz) : Own (upd u b (.cells (reps m z).toArray e (0, 0))) (some ⟨b, 0, none⟩) m m e sz (reps m z) :=
  ⟨by rw [reps_length, hz], Nat.le_refl _, fun h => (by cases h), fun a ha => by
    have e := Option.some.inj ha; subst e
    exact ⟨rfl, _, upd_here .., by simp [reps_length, hz], fun j v hj => by simpa using hj⟩⟩
/-- A store into a row of its own. -/
theorem r_store_own (hT : TOK P T) {l : List Oper} {op : Oper} {r : List Oper} {t e : TypeId} {ti : TI} {x y : Operand} {b off o o' n c sz : Nat} {s : SV} {cs : List SV} {vs ws : List Value}
    (hO : Own u (some ⟨b, off, none⟩) n c e sz ws) (hw : wantE l tm op = some true) (hdst : op.dst = none) (hop : op.op = .store t x y) (hx : ev tm x = some (.v (.pointer (some ⟨b, o', none⟩)))) (hoo : o' = off + o)
    (hy : ev tm y = some s) (ht : kget T t = some ti) (hc : cellsE ti.kind.agg s = some cs) (hl : lenIs cs ti.size = true) (ho1 : onesE cs = true) (hv : valsE L cs = some vs) (hlt : o + ti.size ≤ ws.length)
    (next : ∀ u', Own u' (some ⟨b, off, none⟩) n c e sz (setL ws o vs) → (∀ x, x ≠ b → u' x = u x) → Run P Q F tm L u' .seq l r) : Run P Q F tm L u .seq l (op :: r) := by
  obtain ⟨_, arr, g1, g2, g3⟩ := hO.row _ rfl
  simp only at g1 g2 g3
  subst hoo
  have hlen := lenIs_eq hl
  have hvl : vs.length = ti.size := by rw [valsE_length hv, hlen]
  have hfit : off + o + ti.size ≤ arr.size := by
    have := hO.len; have := Nat.mul_le_mul_right sz hO.cap; omega
  exact r_store hT hw hdst hop hx hy ht hc hl ho1 hv g1 hfit (next _ (own_set hO g1 (by rw [hvl]; exact hlt)) (fun x hx => upd_ne hx))
theorem own_some {A : Option Addr} {n c : Nat} {e : TypeId} {sz i : Nat} {cs : List Value} (h : Own u A n c e sz cs) (hi : i < n) : ∃ b off, A = some ⟨b, off, none⟩ := by
  cases A with
  | none => have := h.nil rfl; have := h.cap; omega
  | some a => obtain ⟨b, o, sp⟩ := a; have := (h.row _ rfl).1; simp only at this; subst this; exact ⟨b, o, rfl⟩
def ovr : List Value → List Value → Option (List Value)
  | [], l => some l
  | y :: ys, l => match l with
    | [] => none
    | _ :: l => match ovr ys l with
      | some r => some (y :: r)
      | none => none
def setV : Nat → List Value → List Value → Option (List Value)
  | 0, l, ys => ovr ys l
  | n + 1, l, ys => match l with
    | [] => none
    | x :: l => match setV n l ys with
      | some r => some (x :: r)
      | none => none
theorem ovr_eq : ∀ (ys l r : List Value), ovr ys l = some r → ys.length ≤ l.length ∧ r = setL l 0 ys
  | [], l, r, h => by simp only [ovr, Option.some.injEq] at h; subst h; simp [setL_nil]
  | y :: ys, [], r, h => by simp [ovr] at h
  | y :: ys, x :: l, r, h => by
    simp only [ovr] at h
    split at h
    · rename_i r' hr
      obtain ⟨h1, h2⟩ := ovr_eq ys l r' hr
      have h' := Option.some.inj h; subst h'; subst h2
      exact ⟨by simp; omega, by simp [setL]⟩
    · cases h
theorem setV_eq : ∀ (n : Nat) (l ys r : List Value), setV n l ys = some r → n + ys.length ≤ l.length ∧ r = setL l n ys
  | 0, l, ys, r, h => by have := ovr_eq ys l r h; simpa using this
  | n + 1, [], ys, r, h => by simp [setV] at h
  | n + 1, x :: l, ys, r, h => by
    simp only [setV] at h
    split at h
    · rename_i r' hr
      obtain ⟨h1, h2⟩ := setV_eq n l ys r' hr
      have h' := Option.some.inj h; subst h'; subst h2
      refine ⟨by simp at h1 ⊢; omega, ?_⟩
      simp only [setL, List.take_succ_cons, List.cons_append]
      rw [show n + 1 + ys.length = (n + ys.length) + 1 by omega, List.drop_succ_cons]
    · cases h
theorem setL_pre {α : Type} (pre l : List α) (o : Nat) (vs : List α) : setL (pre ++ l) (pre.length + o) vs = pre ++ setL l o vs := by
  simp only [setL]
  rw [List.take_append, List.take_of_length_le (by omega), show pre.length + o - pre.length = o by omega, List.append_assoc, List.drop_append, List.drop_eq_nil_of_le (by omega), List.nil_append,
    show pre.length + o + vs.length - pre.length = o + vs.length by omega]
/-- A store into a row of its own, at the place behind 'pre', f1 + f2 cells on; all else is as in w0. -/
theorem r_store_row2 (hT : TOK P T) {l : List Oper} {op : Oper} {r : List Oper} {t e : TypeId} {ti : TI} {x y : Operand} {b off q f1 f2 n c sz : Nat} {s : SV} {cs : List SV} {vs pre l1 l2 : List Value} {w0 : Hp}
    (hO : Own u (some ⟨b, off, none⟩) n c e sz (pre ++ l1)) (hK : ∀ x, x ≠ b → u x = w0 x) (hw : wantE l tm op = some true) (hdst : op.dst = none) (hop : op.op = .store t x y) (hx : ev tm x = some (.v (.pointer (some ⟨b, q + f1 + f2, none⟩)))) (hq : q = off + pre.length)
    (hy : ev tm y = some s) (ht : kget T t = some ti) (hc : cellsE ti.kind.agg s = some cs) (hl : lenIs cs ti.size = true) (ho1 : onesE cs = true) (hv : valsE L cs = some vs) (hset : setV (f1 + f2) l1 vs = some l2)
    (next : ∀ u', Own u' (some ⟨b, off, none⟩) n c e sz (pre ++ l2) → (∀ x, x ≠ b → u' x = w0 x) → Run P Q F tm L u' .seq l r) : Run P Q F tm L u .seq l (op :: r) := by
  obtain ⟨g1, g2⟩ := setV_eq _ _ _ _ hset
  have hvl : vs.length = ti.size := by rw [valsE_length hv, lenIs_eq hl]
  refine r_store_own hT hO hw hdst hop hx (o := pre.length + (f1 + f2)) (by omega) hy ht hc hl ho1 hv (by simp; omega) (fun u' h1 h2 => ?_)
  rw [setL_pre, ← g2] at h1
  exact next u' h1 (fun x hx => (h2 x hx).trans (hK x hx))
end
/-- A call that answers r and leaves the heap as it is. -/
abbrev Pur (P : Program) (f : FuncId) (args : List SV) (h : Hp) {Y : Type} (val : Y → SV) (r : Y) : Prop := TriS P f args [] h val (fun _ => []) (fun y h' => y = r ∧ h' = h)
theorem p_call {P : Program} {F : Fr} {tm : Tm} {L : Lm} {u : Hp} {Q : Exit → Act → World → Prop} {q : Md} {l : List Oper} {o : Oper} {r : List Oper} {d : Nat} {c : Call} {f : FuncId} {svs args : List SV} {vs : List Value} {Y : Type} {val : Y → SV} {y0 : Y}
    (htri : Pur P f args u val y0) (hw : wantE l tm o = some true) (ho : o.dst = some d) (hn : Nat.blt d F.n.z = true) (hop : o.op = .call c) (hcal : calleeE tm c = some (f, svs)) (hc : callable P f = true)
    (hvs' : valsE [] args = some vs) (hvs : valsE L svs = some vs) (hok : (val y0).ok [] = true) (next : Run P Q F ((d, val y0) :: tm) L u q l r) (hq : q = .seq ∨ q = .quiet := by first | exact .inl rfl | exact .inr rfl) : Run P Q F tm L u q l (o :: r) := by
  rcases hq with rfl | rfl
  · exact r_call htri hw ho hn hop hcal hc hvs' hvs (fun y u' ⟨h1, h2⟩ => by subst h1; subst h2; exact next)
  · exact q_call y0 htri (fun y u' ⟨h1, h2⟩ => ⟨h1, h2 ▸ Le.refl _⟩) hw ho hn hop hcal hc hvs' hvs hok next
end Go.Sy
/- The data of the graphs, as cells. -/
namespace Go.Sy
theorem flat_get {α : Type} {c : α → List Value} {sz : Nat} (hc : ∀ x, (c x).length = sz) : ∀ (xs : List α) (i : Nat) (x : α), xs[i]? = some x → ∀ j v, (c x)[j]? = some v → (xs.flatMap c)[i * sz + j]? = some v
  | [], i, x, h, _, _, _ => by simp at h
  | y :: r, 0, x, h, j, v, hj => by
    simp only [List.getElem?_cons_zero, Option.some.injEq] at h; subst h
    have : j < (c y).length := (List.getElem?_eq_some_iff.1 hj).1
    simp only [Nat.zero_mul, Nat.zero_add, List.flatMap_cons]
    rw [List.getElem?_append_left this]; exact hj
  | y :: r, i + 1, x, h, j, v, hj => by
    simp only [List.getElem?_cons_succ] at h
    have ih := flat_get hc r i x h j v hj
    simp only [List.flatMap_cons]
    rw [List.getElem?_append_right (by rw [hc, Nat.add_mul]; omega), hc, show (i + 1) * sz + j - sz = i * sz + j by rw [Nat.add_mul]; omega]; exact ih
theorem flat_length {α : Type} {c : α → List Value} {sz : Nat} (hc : ∀ x, (c x).length = sz) : ∀ xs : List α, (xs.flatMap c).length = xs.length * sz
  | [] => by simp
  | y :: r => by simp [flat_length hc r, hc, Nat.add_mul, Nat.add_comm]
/-- A slice whose elements' cells are 'c x'. -/
def Rd {α : Type} (c : α → List Value) (sz : Nat) (u : Hp) (A : Option Addr) (n : Nat) (xs : List α) : Prop := n = xs.length ∧ Sl u A n sz (xs.flatMap c)
theorem Rd.le {α : Type} {c : α → List Value} {sz : Nat} {u u' : Hp} {A : Option Addr} {n : Nat} {xs : List α} (h : Rd c sz u A n xs) (hl : Le u u') : Rd c sz u' A n xs := ⟨h.1, h.2.le hl⟩
theorem Rd.elem {α : Type} {c : α → List Value} {sz : Nat} (hc : ∀ x, (c x).length = sz) {u : Hp} {A : Option Addr} {n : Nat} {xs : List α} (h : Rd c sz u A n xs) {i : Nat} (hi : i < xs.length) :
    ∃ b off x, A = some ⟨b, off, none⟩ ∧ xs.drop i = x :: xs.drop (i + 1) ∧ xs[i]? = some x ∧ x ∈ xs ∧ At u b (off + i * sz) (c x) := by
  obtain ⟨h1, h2⟩ := h
  cases A with
  | none => have := h2.nil rfl; omega
  | some ad =>
    obtain ⟨e1, hat⟩ := h2.at_ ad rfl (by omega)
    obtain ⟨b, off, sp⟩ := ad
    simp only at e1; subst e1
    refine ⟨b, off, xs[i], rfl, List.drop_eq_getElem_cons hi, List.getElem?_eq_getElem hi, List.getElem_mem hi, hat.sub (i * sz) fun j v hj => ?_⟩
    exact flat_get hc xs i xs[i] (List.getElem?_eq_getElem hi) j v hj
theorem set_snoc {α : Type} {c : α → List Value} {sz : Nat} (hc : ∀ x, (c x).length = sz) {z : List Value} (hz : z.length = sz) {xs : List α} {i : Nat} (x : α) (hl : xs.length = i) {n : Nat} (hn : i < n) :
    setL (xs.flatMap c ++ reps (n - i) z) (i * sz) (c x) = (xs ++ [x]).flatMap c ++ reps (n - (i + 1)) z := by
  have h1 : (xs.flatMap c).length = i * sz := by rw [flat_length hc, hl]
  have h2 : n - i = (n - (i + 1)) + 1 := by omega
  rw [h2]
  simp only [reps, setL, List.flatMap_append, List.flatMap_cons, List.flatMap_nil, List.append_nil]
  rw [List.take_left' h1, List.append_assoc]
  congr 2
  rw [List.drop_append, List.drop_eq_nil_of_le (by omega), List.nil_append, h1, hc]
  rw [show i * sz + sz - i * sz = sz by omega, List.drop_left' hz]
theorem take_snoc {α : Type} {xs : List α} {i : Nat} {x : α} (hx : xs[i]? = some x) : xs.take (i + 1) = xs.take i ++ [x] := by rw [List.take_add_one, hx]; rfl
theorem set_next {α : Type} {c : α → List Value} {sz : Nat} (hc : ∀ x, (c x).length = sz) {z : List Value} (hz : z.length = sz) {xs : List α} {i : Nat} {x : α} (hx : xs[i]? = some x) {n : Nat} (hn : n = xs.length) :
    setL ((xs.take i).flatMap c ++ reps (n - i) z) (i * sz) (c x) = (xs.take (i + 1)).flatMap c ++ reps (n - (i + 1)) z := by
  have hi : i < xs.length := (List.getElem?_eq_some_iff.1 hx).1
  rw [take_snoc hx]
  exact set_snoc hc hz x (by simp [Nat.min_eq_left (Nat.le_of_lt hi)]) (by omega)
structure V where
  k : Int
  n : Int
  s : ByteArray
  a : Int
structure Pr where
  key : V
  val : V
def V.c (v : V) : List Value := [.int .i64 v.k, .int .i64 v.n, .string v.s, .int .i64 v.a]
def V.sv (v : V) : List SV := [.v (.int .i64 v.k), .v (.int .i64 v.n), .v (.string v.s), .v (.int .i64 v.a)]
def Pr.c (p : Pr) : List Value := [.int .i64 p.key.k, .int .i64 p.key.n, .string p.key.s, .int .i64 p.key.a, .int .i64 p.val.k, .int .i64 p.val.n, .string p.val.s, .int .i64 p.val.a]
def Pr.sv (p : Pr) : List SV := [.v (.int .i64 p.key.k), .v (.int .i64 p.key.n), .v (.string p.key.s), .v (.int .i64 p.key.a), .v (.int .i64 p.val.k), .v (.int .i64 p.val.n), .v (.string p.val.s), .v (.int .i64 p.val.a)]
/-- What the texts, tables and lists are bounded by. -/
def V.okS (v : V) : Prop := v.s.size ≤ 9223372036854775807
def Pr.okS (p : Pr) : Prop := p.key.okS ∧ p.val.okS
def gsv (v : V) (A : Option Addr) (n c : Nat) : List SV := [.v (.int .i64 v.k), .v (.int .i64 v.n), .v (.string v.s), .v (.int .i64 v.a), .v (.slice A n c)]
def zT : List Value := List.map ZV.val [.sl]
theorem V.c_len (v : V) : v.c.length = 4 := rfl
theorem Pr.c_len (p : Pr) : p.c.length = 8 := rfl
/-- A slice's header. -/
structure Hd where
  A : Option Addr
  n : Nat
  c : Nat
def Hd.v (h : Hd) : List Value := [.slice h.A h.n h.c]
theorem Hd.v_len (h : Hd) : h.v.length = 1 := rfl
abbrev Pairs (u : Hp) (A : Option Addr) (n : Nat) (ps : List Pr) : Prop := Rd Pr.c 8 u A n ps
/-- A slice of slices of pairs. -/
def Tabs (u : Hp) (A : Option Addr) (n : Nat) (ts : List (List Pr)) : Prop :=
  ∃ hs : List Hd, hs.length = ts.length ∧ Rd Hd.v 1 u A n hs ∧ ∀ (i : Nat) (h : Hd) (t : List Pr), hs[i]? = some h → ts[i]? = some t → h.n ≤ h.c ∧ Pairs u h.A h.n t
theorem Tabs.le {u u' : Hp} {A : Option Addr} {n : Nat} {ts : List (List Pr)} (h : Tabs u A n ts) (hl : Le u u') : Tabs u' A n ts :=
  let ⟨hs, h1, h2, h3⟩ := h; ⟨hs, h1, h2.le hl, fun i x t hx ht => ⟨(h3 i x t hx ht).1, (h3 i x t hx ht).2.le hl⟩⟩
theorem Tabs.len {u : Hp} {A : Option Addr} {n : Nat} {ts : List (List Pr)} (h : Tabs u A n ts) : n = ts.length := let ⟨_, h1, h2, _⟩ := h; h2.1.trans h1
theorem Tabs.elem {u : Hp} {A : Option Addr} {n : Nat} {ts : List (List Pr)} (h : Tabs u A n ts) {i : Nat} (hi : i < ts.length) :
    ∃ b off A' n' c' t, A = some ⟨b, off, none⟩ ∧ ts.drop i = t :: ts.drop (i + 1) ∧ ts[i]? = some t ∧ t ∈ ts ∧ At u b (off + i * 1) [.slice A' n' c'] ∧ n' ≤ c' ∧ Pairs u A' n' t := by
  obtain ⟨hs, h1, h2, h3⟩ := h
  obtain ⟨b, off, x, e1, e2, e3, e4, e5⟩ := h2.elem Hd.v_len (i := i) (by omega)
  have ht := List.getElem?_eq_getElem hi
  obtain ⟨g1, g2⟩ := h3 i x ts[i] e3 ht
  exact ⟨b, off, x.A, x.n, x.c, ts[i], e1, List.drop_eq_getElem_cons hi, ht, List.getElem_mem hi, e5, g1, g2⟩
theorem Own.live {u : Hp} {A : Option Addr} {n c : Nat} {e : TypeId} {sz : Nat} {cs : List Value} (h : Own u A n c e sz cs) {b : Nat} (hb : blk A = some b) : u b ≠ none := by
  cases A with
  | none => cases hb
  | some a =>
    obtain ⟨_, arr, g, _⟩ := h.row a rfl
    have e := Option.some.inj hb; subst e
    rw [g]; exact fun h => by cases h
/-- Rows of their own, all apart, none the block X. -/
structure ORows (u : Hp) (eP : TypeId) (X : Option Nat) (hs : List Hd) (ts : List (List Pr)) : Prop where
  len : hs.length = ts.length
  rows : ∀ (i : Nat) (x : Hd) (t : List Pr), hs[i]? = some x → ts[i]? = some t → x.n = t.length ∧ Own u x.A x.n x.c eP 8 (t.flatMap Pr.c)
  apart : ∀ (i : Nat) (x : Hd) (b : Nat), hs[i]? = some x → blk x.A = some b → X ≠ some b ∧ ∀ (j : Nat) (y : Hd), hs[j]? = some y → blk y.A = some b → i = j
theorem ORows.nil {u : Hp} {eP : TypeId} {X : Option Nat} : ORows u eP X [] [] := ⟨rfl, fun i x t h => by simp at h, fun i x b h => by simp at h⟩
theorem ORows.live {u : Hp} {eP : TypeId} {X : Option Nat} {hs : List Hd} {ts : List (List Pr)} (h : ORows u eP X hs ts) {x : Hd} (hx : x ∈ hs) {b : Nat} (hb : blk x.A = some b) : u b ≠ none := by
  obtain ⟨i, hi, e⟩ := List.getElem_of_mem hx
  have h1 : hs[i]? = some x := by rw [List.getElem?_eq_getElem hi, e]
  have h2 : i < ts.length := by have := h.len; omega
  exact (h.rows i x ts[i] h1 (List.getElem?_eq_getElem h2)).2.live hb
theorem ORows.keep {u u' : Hp} {eP : TypeId} {X : Option Nat} {hs : List Hd} {ts : List (List Pr)} (h : ORows u eP X hs ts) (hl : ∀ b o, (∃ x ∈ hs, blk x.A = some b) → u b = some o → u' b = some o) : ORows u' eP X hs ts :=
  ⟨h.len, fun i x t hx ht => ⟨(h.rows i x t hx ht).1, (h.rows i x t hx ht).2.le fun b o hb => hl b o ⟨x, List.mem_of_getElem? hx, hb⟩⟩, h.apart⟩
theorem ORows.snoc {u u' : Hp} {eP : TypeId} {X : Option Nat} {hs : List Hd} {ts : List (List Pr)} (h : ORows u eP X hs ts) (hl : ∀ b o, (∃ x ∈ hs, blk x.A = some b) → u b = some o → u' b = some o) {y : Hd} {t : List Pr} (hn : y.n = t.length)
    (hy : Own u' y.A y.n y.c eP 8 (t.flatMap Pr.c)) (hX : ∀ b, blk y.A = some b → X ≠ some b ∧ u b = none) : ORows u' eP X (hs ++ [y]) (ts ++ [t]) := by
  have hk := h.keep hl
  have hlen := h.len
  have hcase : ∀ {i : Nat} {x : Hd}, (hs ++ [y])[i]? = some x → (i < hs.length ∧ hs[i]? = some x) ∨ (i = hs.length ∧ x = y) := fun {i x} hx => by
    by_cases hi : i < hs.length
    · rw [List.getElem?_append_left hi] at hx; exact .inl ⟨hi, hx⟩
    · have h1 : i < (hs ++ [y]).length := (List.getElem?_eq_some_iff.1 hx).1
      simp at h1
      have : i = hs.length := by omega
      subst this
      simp at hx
      exact .inr ⟨rfl, hx.symm⟩
  refine ⟨by simp [hlen], fun i x t' hx ht => ?_, fun i x b hx hb => ?_⟩
  · rcases hcase hx with ⟨hi, hx⟩ | ⟨hi, rfl⟩
    · rw [List.getElem?_append_left (by omega)] at ht; exact hk.rows i x t' hx ht
    · rw [hi, hlen] at ht; simp at ht; subst ht; exact ⟨hn, hy⟩
  · rcases hcase hx with ⟨hi, hx1⟩ | ⟨hi, rfl⟩
    · refine ⟨(h.apart i x b hx1 hb).1, fun j z hz hzb => ?_⟩
      rcases hcase hz with ⟨hj, hz1⟩ | ⟨hj, rfl⟩
      · exact (h.apart i x b hx1 hb).2 j z hz1 hzb
      · exact absurd (hX b hzb).2 (h.live (List.mem_of_getElem? hx1) hb)
    · refine ⟨(hX b hb).1, fun j z hz hzb => ?_⟩
      rcases hcase hz with ⟨hj, hz1⟩ | ⟨hj, rfl⟩
      · exact absurd (hX b hb).2 (h.live (List.mem_of_getElem? hz1) hzb)
      · rw [hi, hj]
/-- Owned tables: the row of headers, and each table's own row, all apart. -/
structure OT (u : Hp) (eT eP : TypeId) (A : Option Addr) (n c : Nat) (hs : List Hd) (ts : List (List Pr)) : Prop where
  num : n = ts.length
  own : Own u A n c eT 1 (hs.flatMap Hd.v)
  rows : ORows u eP (blk A) hs ts
def OffAll (h : Hp) (A : Option Addr) (hs : List Hd) : Prop := Off h A ∧ ∀ x ∈ hs, Off h x.A
theorem OT.tabs {u : Hp} {eT eP : TypeId} {A : Option Addr} {n c : Nat} {hs : List Hd} {ts : List (List Pr)} (h : OT u eT eP A n c hs ts) : Tabs u A n ts :=
  ⟨hs, h.rows.len, ⟨by rw [h.num, h.rows.len], h.own.sl⟩, fun i x t hx ht => ⟨(h.rows.rows i x t hx ht).2.cap, (h.rows.rows i x t hx ht).1, (h.rows.rows i x t hx ht).2.sl⟩⟩
theorem OT.keep {u u' : Hp} {eT eP : TypeId} {A : Option Addr} {n c : Nat} {hs : List Hd} {ts : List (List Pr)} (h : OT u eT eP A n c hs ts) (hl : ∀ b o, (blk A = some b ∨ ∃ x ∈ hs, blk x.A = some b) → u b = some o → u' b = some o) : OT u' eT eP A n c hs ts :=
  ⟨h.num, h.own.le fun b o hb => hl b o (.inl hb), h.rows.keep fun b o hb => hl b o (.inr hb)⟩
theorem OT.le {u u' : Hp} {eT eP : TypeId} {A : Option Addr} {n c : Nat} {hs : List Hd} {ts : List (List Pr)} (h : OT u eT eP A n c hs ts) (hl : Le u u') : OT u' eT eP A n c hs ts := h.keep fun b o _ => hl b o
theorem OT.elem {u : Hp} {eT eP : TypeId} {A : Option Addr} {n c : Nat} {hs : List Hd} {ts : List (List Pr)} (h : OT u eT eP A n c hs ts) {i : Nat} (hi : i < ts.length) :
    ∃ b off y t, A = some ⟨b, off, none⟩ ∧ ts.drop i = t :: ts.drop (i + 1) ∧ hs[i]? = some y ∧ ts[i]? = some t ∧ t ∈ ts ∧ At u b (off + i * 1) [.slice y.A y.n y.c] ∧ y.n = t.length ∧ Own u y.A y.n y.c eP 8 (t.flatMap Pr.c) := by
  have hR : Rd Hd.v 1 u A n hs := ⟨by rw [h.num, h.rows.len], h.own.sl⟩
  obtain ⟨b, off, y, e1, e2, e3, e4, e5⟩ := hR.elem Hd.v_len (i := i) (by rw [h.rows.len]; exact hi)
  have ht := List.getElem?_eq_getElem hi
  obtain ⟨g1, g2⟩ := h.rows.rows i y ts[i] e3 ht
  exact ⟨b, off, y, ts[i], e1, List.drop_eq_getElem_cons hi, e3, ht, List.getElem_mem hi, e5, g1, g2⟩
/-- One row is another now. -/
theorem OT.set {u u' : Hp} {eT eP : TypeId} {A : Option Addr} {n c : Nat} {hs : List Hd} {pre post : List (List Pr)} {t t' : List Pr} {y : Hd} (h : OT u eT eP A n c hs (pre ++ t :: post)) (hy : hs[pre.length]? = some y) (hl : t'.length = t.length)
    (hO : Own u' y.A y.n y.c eP 8 (t'.flatMap Pr.c)) (hu : ∀ b, blk y.A ≠ some b → u' b = u b) : OT u' eT eP A n c hs (pre ++ t' :: post) := by
  refine ⟨by have := h.num; simp at this ⊢; omega, h.own.le fun b o hb ho => ?_, ⟨by have := h.rows.len; simp at this ⊢; omega, fun i x s hx hs' => ?_, h.rows.apart⟩⟩
  · rw [hu b (fun e => (h.rows.apart _ y b hy e).1 hb)]; exact ho
  · by_cases hi : i = pre.length
    · subst hi
      rw [hy] at hx
      have e := Option.some.inj hx; subst e
      simp at hs'
      subst hs'
      have := (h.rows.rows pre.length y t hy (by simp)).1
      exact ⟨by rw [this, hl], hO⟩
    · have hs2 : (pre ++ t :: post)[i]? = some s := by
        rw [List.getElem?_append] at hs' ⊢
        split
        · rename_i hlt; rw [if_pos hlt] at hs'; exact hs'
        · rename_i hlt; rw [if_neg hlt] at hs'
          rw [List.getElem?_cons] at hs' ⊢
          have : i - pre.length ≠ 0 := by omega
          rw [if_neg this] at hs' ⊢; exact hs'
      obtain ⟨g1, g2⟩ := h.rows.rows i x s hx hs2
      refine ⟨g1, g2.le fun b o hb ho => ?_⟩
      rw [hu b (fun e => hi ((h.rows.apart i x b hx hb).2 pre.length y hy e))]; exact ho
end Go.Sy
