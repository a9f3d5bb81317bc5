/- The walk by a symbolic frame: rows made, built and grown; numbers. -/
import Derived.Test.YtkamfnmbidnhdaaDoorSqAC
import Derived.IntWalk
import Derived.Laws.BytesString
import Derived.Laws.Concat
set_option linter.unusedVariables false
set_option linter.unusedSimpArgs false
set_option linter.unusedSectionVars false
namespace Go.Sy
section
variable {P : Program} {T : List (Nat × TI)} {F : Fr} {tm : Tm} {L : Lm} {u : Hp} {n : FN} {N : World} {β : Nat → Nat} {k : Hp} {a : Act} {w : World} {Q : Exit → Act → World → Prop}
theorem Sl.src (hd : Den β L u k N w) {A : Option Addr} {m sz : Nat} {cs : List Value} (h : Sl u A m sz cs) {t e : TypeId} (ht : P.underlying t = some (.slice e)) (c : Nat) (h1 : ∀ v ∈ cs, one v = true) :
    Src P sz t (.slice A m c) m cs w := by
  have h1' : ∀ v ∈ cs, v.oneCell' = true := fun v hv => by have := h1 v hv; cases v <;> first | rfl | (simp [one] at this; done)
  cases A with
  | none =>
    have hm := h.nil rfl
    subst hm
    have : cs = [] := List.length_eq_zero_iff.1 (by rw [h.len]; simp)
    subst this
    exact Src.ofNil w ht c
  | some ad =>
    by_cases hm0 : m = 0
    · subst hm0
      have : cs = [] := List.length_eq_zero_iff.1 (by rw [h.len]; simp)
      subst this
      exact Src.ofSlice w ht ad 0 c [] (by simp) (fun j v hj => by simp at hj) (fun v hv => by cases hv)
    obtain ⟨e1, hat⟩ := h.at_ ad rfl hm0
    obtain ⟨b, o, sp⟩ := ad
    simp only at e1; subst e1
    exact Src.ofSlice w ht _ m c cs h.len (fun j v hj => by
      have : (⟨b, o, none⟩ : Addr).add j = ⟨b, o + j, none⟩ := by simp only [Addr.add]; split <;> simp_all
      rw [this]; exact hat.cell hd hj) h1'
theorem zeroCells_size (z : Array Value) (n : Nat) : (Builtin.zeroCells z n).size = n * z.size := by simp [Builtin.zeroCells]
/-- What an append leaves: the row, grown; a heap h without the old row stays, and has not the new one. -/
def Grown (u u' : Hp) (A A' : Option Addr) : Prop := ∀ h, Le h u → Off h A → Le h u' ∧ Off h A'
theorem append_run (hT : TOK P T) (hd : Den β L u k N w) {t e : TypeId} {ti te : TI} (ht : kget T t = some ti) (hk : ti.kind = .slice e) (he : kget T e = some te) {A : Option Addr} {n c m : Nat} {cs news : List Value} {x : Value} {tx : TypeId} (ty : TypeId)
    (hO : Own u A n c e te.size cs) (hs : Src P te.size tx x m news w) (h1 : ∀ v ∈ news, one v = true) (hb : (n + m) * te.bytes ≤ 140737488355328) (h63 : ((n + m : Nat) : Int) ≤ 9223372036854775807) :
    ∃ A' c' u' w', (Builtin.append_ #[t, tx] ty #[.slice A n c, x]).run P w = .ok (.slice A' (n + m) c') w' ∧ Own u' A' (n + m) c' e te.size (cs ++ news) ∧ Grown u u' A A' ∧ Den β L u' k N w' := by
  have hund := elem_of hT ht hk
  obtain ⟨i, z, hi, hsz, hby, hz, hzc, hzl⟩ := chk_info (hT e te he)
  rw [← hsz] at hs
  have hlen : (cs ++ news).length = (n + m) * te.size := by rw [List.length_append, hO.len, hs.newsLen, hsz, Nat.add_mul]
  by_cases hroom : n + m ≤ c
  · cases A with
    | none =>
      have h0 := hO.nil rfl
      obtain ⟨rfl, rfl, rfl⟩ : n = 0 ∧ m = 0 ∧ c = 0 := ⟨by omega, by omega, by omega⟩
      have e1 : cs = [] := List.length_eq_zero_iff.1 (by rw [hO.len]; simp)
      have e2 : news = [] := List.length_eq_zero_iff.1 (by rw [hs.newsLen]; simp)
      subst e1; subst e2
      refine ⟨none, 0, u, w, ?_, own_nil, fun h h1 h2 => ⟨h1, h2⟩, hd⟩
      rcases hs.kind with ⟨e', hk'⟩ | hk' <;> simp [Builtin.append_, run_und hund, run_und hk', sizeOf, typeInfo, hi, hs.len, hs.cells, program, Sem.run]
    | some ad =>
      obtain ⟨e1, arr, g1, g2, g3⟩ := hO.row ad rfl
      obtain ⟨b, o, sp⟩ := ad
      simp only at e1 g1 g2 g3; subst e1
      have hfit : o + n * te.size + 0 + news.length ≤ arr.size := by
        rw [hs.newsLen, hsz]
        have : (n + m) * te.size ≤ c * te.size := Nat.mul_le_mul_right _ hroom
        rw [Nat.add_mul] at this; omega
      obtain ⟨w', hst, hu⟩ := run_storeCells (P := P) (b := b) (o + n * te.size) news 0 w arr (hd.ext b _ g1).1 hfit h1
      simp only [Nat.add_zero] at hu
      refine ⟨some ⟨b, o, none⟩, c, _, w', ?_, ⟨hlen, hroom, fun h => by (cases h), fun a ha => ?_⟩, fun h h1 h2 => ⟨fun x y hx => ?_, h2⟩, den_ext_set hd g1 hu⟩
      · have hadd : (⟨b, o, none⟩ : Addr).add (n * te.size) = ⟨b, o + n * te.size, none⟩ := by simp only [Addr.add]; split <;> simp_all
        rw [← hsz] at hadd hst
        rcases hs.kind with ⟨e', hk'⟩ | hk' <;> simp [Builtin.append_, run_und hund, run_und hk', sizeOf, typeInfo, hi, hs.len, hroom, hs.cells, program, Sem.run, hadd, hst]
      · have e' := Option.some.inj ha; subst e'
        refine ⟨rfl, _, upd_here .., ?_, fun j v hj => ?_⟩
        · have : o + n * te.size + news.length ≤ arr.toList.length := by simpa using hfit
          have := setL_length arr.toList (o + n * te.size) news this
          simp only [List.size_toArray, this, Array.length_toList]; exact g2
        · simp only [List.getElem?_toArray]
          rw [setL_get _ _ _ (by simpa using hfit)]
          by_cases hjn : j < cs.length
          · rw [List.getElem?_append_left hjn] at hj
            rw [if_neg (by rw [hO.len] at hjn; omega)]
            simpa using g3 j v hj
          · rw [List.getElem?_append_right (by omega), hO.len] at hj
            have : j - n * te.size < news.length := (List.getElem?_eq_some_iff.1 hj).1
            rw [hO.len] at hjn
            rw [if_pos (by omega), show o + j - (o + n * te.size) = j - n * te.size by omega]; exact hj
      · have : x ≠ b := fun e => by subst e; rw [h2 x rfl] at hx; cases hx
        rw [upd_ne this]; exact h1 x y hx
  · have hcap : c < n + m := by omega
    have hold : (Builtin.firstCells i.size n (.slice A n c)).run P w.drew = .ok cs.toArray w.drew := by
      cases A with
      | none =>
        have h0 := hO.nil rfl
        have hn0 : n = 0 := by have := hO.cap; omega
        subst hn0
        have e1 : cs = [] := List.length_eq_zero_iff.1 (by rw [hO.len]; simp)
        subst e1
        exact run_firstCells_none _ _ _ _ _
      | some ad =>
        obtain ⟨e1, arr, g1, g2, g3⟩ := hO.row ad rfl
        obtain ⟨b, o, sp⟩ := ad
        simp only at e1 g1 g2 g3; subst e1
        refine run_firstCells_some _ _ _ _ _ _ _ (by rw [hO.len, hsz]) fun j v hj => ?_
        have : (⟨b, o, none⟩ : Addr).add j = ⟨b, o + j, none⟩ := by simp only [Addr.add]; split <;> simp_all
        rw [this]
        have hc := cell_of (w := w) (off := o + j) (hd.ext b _ g1).1
        have := g3 j v hj
        rw [this] at hc
        exact hc
    have hfit : Builtin.nextslicecap (n + m) c * i.bytes ≤ 281474976710656 := by rw [hby]; exact growslice_fits hcap hb
    have hrun := run_append_grow_src (P := P) w t tx ty e i z hund hi hz A n c cs hold x m news hs hcap h63 hfit
    have hge := grownCap_ge w (n + m) c e
    refine ⟨some ⟨w.heap.size, 0, none⟩, grownCap w (n + m) c e, upd u w.heap.size _, _, hrun, ⟨hlen, hge, fun h => by (cases h), fun a ha => ?_⟩, fun h h1 h2 => ⟨fun x y hx => ?_, fun b hb' => ?_⟩, den_ext_new hd rfl ⟨rfl, rfl, rfl, (by first | exact Nat.le_refl _ | exact Nat.le_succ _)⟩⟩
    · have e' := Option.some.inj ha; subst e'
      refine ⟨rfl, _, upd_here .., ?_, fun j v hj => ?_⟩
      · rw [hzc]
        simp only [Array.size_append, List.size_toArray, hlen, zeroCells_size, Nat.zero_add]
        simp only [List.length_map, hzl]
        rw [← Nat.add_mul]
        exact Nat.le_of_eq (by congr 1; omega)
      · simp only [Nat.zero_add]
        have hj' := (List.getElem?_eq_some_iff.1 hj).1
        rw [Array.getElem?_append_left (by simpa using hj')]; simpa using hj
    · have : x ≠ w.heap.size := fun e => by subst e; have := h1 _ _ hx; rw [hd.fresh] at this; cases this
      rw [upd_ne this]; exact h1 x y hx
    · have e' := Option.some.inj hb'; subst e'
      cases hh : h w.heap.size with
      | none => rfl
      | some y => have := h1 _ _ hh; rw [hd.fresh] at this; cases this
end
end Go.Sy
/- The walk by a symbolic frame: rules for rows made, built and grown; for numbers and texts. -/
namespace Go.Sy
set_option linter.unusedSimpArgs false
section
variable {P : Program} {T : List (Nat × TI)} {F : Fr} {tm : Tm} {L : Lm} {u : Hp} {n : FN} {N : World} {β : Nat → Nat} {k : Hp} {a : Act} {w : World} {Q : Exit → Act → World → Prop}
/-- append(x, y...), y a slice. -/
theorem r_append (hT : TOK P T) {l : List Oper} {o : Oper} {r : List Oper} {d : Nat} {t t2 e e2 : TypeId} {ti te ti2 : TI} {x y : Operand} {A B : Option Addr} {m c m2 c2 : Nat} {cs news : List Value}
    (hw : wantE l tm o = some true) (ho : o.dst = some d) (hn : Nat.blt d F.n.z = true) (hop : o.op = .call { callee := .builtin .append, args := #[x, y], argTypes := #[t, t2] })
    (ht : kget T t = some ti) (hk : ti.kind = .slice e) (he : kget T e = some te) (ht2 : kget T t2 = some ti2) (hk2 : ti2.kind = .slice e2)
    (hx : ev tm x = some (.v (.slice A m c))) (hy : ev tm y = some (.v (.slice B m2 c2))) (hO : Own u A m c e te.size cs) (hS : Sl u B m2 te.size news) (h1 : ∀ v ∈ news, one v = true)
    (hb : (m + m2) * te.bytes ≤ 140737488355328) (h63 : ((m + m2 : Nat) : Int) ≤ 9223372036854775807)
    (next : ∀ A' c' u', Own u' A' (m + m2) c' e te.size (cs ++ news) → Grown u u' A A' → Run P Q F ((d, .v (.slice A' (m + m2) c')) :: tm) L u' .seq l r) :
    Run P Q F tm L u .seq l (o :: r) := by
  refine op_any hw ho hn (fun β a w hf ht' hd => ?_)
  obtain ⟨A', c', u', w', h1', h2', h3', h4'⟩ := append_run (P := P) hT hd ht hk he (x := .slice B m2 c2) (tx := t2) o.type hO (hS.src (P := P) hd (elem_of hT ht2 hk2) c2 h1) h1 hb h63
  refine ⟨β, w', _, L, u', ?_, hf, ht', h4', rfl, next A' c' u' h2' h3'⟩
  simp [execOp, hop, ev_ok ht' hx, ev_ok ht' hy, SV.den, resolve, invoke, builtin, h1']
/-- append(x, y...), y a text. -/
theorem r_append_str (hT : TOK P T) {l : List Oper} {o : Oper} {r : List Oper} {d : Nat} {t t2 e : TypeId} {ti te ti2 : TI} {x y : Operand} {A : Option Addr} {m c : Nat} {s : ByteArray} {cs : List Value}
    (hw : wantE l tm o = some true) (ho : o.dst = some d) (hn : Nat.blt d F.n.z = true) (hop : o.op = .call { callee := .builtin .append, args := #[x, y], argTypes := #[t, t2] })
    (ht : kget T t = some ti) (hk : ti.kind = .slice e) (he : kget T e = some te) (ht2 : kget T t2 = some ti2) (hk2 : ti2.kind = .str) (hs1 : te.size = 1) (hb1 : te.bytes = 1)
    (hx : ev tm x = some (.v (.slice A m c))) (hy : ev tm y = some (.v (.string s))) (hO : Own u A m c e 1 cs) (hb : m + s.size ≤ 140737488355328)
    (next : ∀ A' c' u', Own u' A' (m + s.size) c' e 1 (cs ++ byteCells s) → Grown u u' A A' → Run P Q F ((d, .v (.slice A' (m + s.size) c')) :: tm) L u' .seq l r) :
    Run P Q F tm L u .seq l (o :: r) := by
  refine op_any hw ho hn (fun β a w hf ht' hd => ?_)
  have hu2 : P.underlying t2 = some .string := by
    obtain ⟨d, hd, h⟩ := chk_desc (hT t2 ti2 ht2)
    rw [hk2] at h
    cases d <;> simp [kfits] at h
    exact hd
  obtain ⟨A', c', u', w', h1', h2', h3', h4'⟩ := append_run (P := P) hT hd ht hk he (x := .string s) (tx := t2) (m := s.size) (news := byteCells s) o.type (by rw [hs1]; exact hO) (by rw [hs1]; exact Src.ofString w hu2 s)
    (fun v hv => by obtain ⟨_, _, rfl⟩ := List.mem_map.1 hv; rfl) (by rw [hb1]; omega) (by omega)
  rw [hs1] at h2'
  refine ⟨β, w', _, L, u', ?_, hf, ht', h4', rfl, next A' c' u' h2' h3'⟩
  simp [execOp, hop, ev_ok ht' hx, ev_ok ht' hy, SV.den, resolve, invoke, builtin, h1']
def reps {α : Type} : Nat → List α → List α
  | 0, _ => []
  | n + 1, l => l ++ reps n l
theorem reps_length {α : Type} : ∀ (n : Nat) (l : List α), (reps n l).length = n * l.length
  | 0, l => by simp [reps]
  | n + 1, l => by simp [reps, reps_length n l, Nat.add_mul, Nat.add_comm]
theorem reps_get {α : Type} : ∀ (n : Nat) (l : List α) (j : Nat), j < n * l.length → (reps n l)[j]? = l[j % l.length]?
  | 0, l, j, h => by simp at h
  | n + 1, l, j, h => by
    simp only [reps]
    by_cases hj : j < l.length
    · rw [List.getElem?_append_left hj, Nat.mod_eq_of_lt hj]
    · rw [List.getElem?_append_right (by omega), reps_get n l _ (by rw [Nat.add_mul] at h; omega)]
      have : j % l.length = (j - l.length) % l.length := by rw [Nat.mod_eq_sub_mod (by omega)]
      rw [this]
theorem made_reps (z : List Value) (n : Nat) (hz : z ≠ []) : madeCells z.toArray (n * z.length) = (reps n z).toArray := by
  apply Array.ext'
  apply List.ext_getElem?
  intro j
  have hpos : 0 < z.length := List.length_pos_iff.2 hz
  by_cases hj : j < n * z.length
  · rw [reps_get n z j hj]
    have hm : j % z.length < z.length := Nat.mod_lt _ hpos
    simp [madeCells, hj, getElem!_pos, hm]
  · have h1 : (reps n z).length ≤ j := by rw [reps_length]; omega
    rw [List.getElem?_eq_none h1]
    simp [madeCells, hj]
/-- make([]T, n) -/
theorem r_make (hT : TOK P T) {l : List Oper} {o : Oper} {r : List Oper} {d : Nat} {t e : TypeId} {ti te : TI} {x y : Operand} {kx ky : IntKind} {i : Int}
    (hw : wantE l tm o = some true) (ho : o.dst = some d) (hn : Nat.blt d F.n.z = true) (hop : o.op = .makeSlice t x y) (ht : kget T t = some ti) (hk : ti.kind = .slice e) (he : kget T e = some te) (hz0 : te.zero ≠ [])
    (hx : ev tm x = some (.v (.int kx i))) (hy : ev tm y = some (.v (.int ky i))) (h0 : 0 ≤ i) (hb : (te.bytes : Int) * i ≤ 281474976710656) (h63 : i ≤ 9223372036854775807)
    (next : ∀ b, u b = none → Run P Q F ((d, .v (.slice (some ⟨b, 0, none⟩) i.toNat i.toNat)) :: tm) L (upd u b (.cells (reps i.toNat (te.zero.map ZV.val)).toArray e (0, 0))) .seq l r) :
    Run P Q F tm L u .seq l (o :: r) := by
  refine op_any hw ho hn (fun β a w hf ht' hd => ?_)
  obtain ⟨inf, z, hi, hsz, hby, hz, hzc, hzl⟩ := chk_info (hT e te he)
  have hrun := run_make (P := P) w t e inf z (elem_of hT ht hk) hi hz kx ky i i h0 (Int.le_refl _) (by rw [hby]; exact hb) h63
  have hm : madeCells z.cells (i.toNat * inf.size) = (reps i.toNat (te.zero.map ZV.val)).toArray := by
    rw [hzc, hsz, ← hzl]
    have := made_reps (te.zero.map ZV.val) i.toNat (by simpa using hz0)
    simpa using this
  rw [hm] at hrun
  refine ⟨β, w.alloc (.cells (reps i.toNat (te.zero.map ZV.val)).toArray e), .v (.slice (some ⟨w.heap.size, 0, none⟩) i.toNat i.toNat), L, _, ?_, hf, ht', den_ext_new hd (w' := w.alloc (.cells (reps i.toNat (te.zero.map ZV.val)).toArray e)) rfl ⟨rfl, rfl, rfl, Nat.le_refl _⟩, rfl, next w.heap.size hd.fresh⟩
  simp [execOp, hop, ev_ok ht' hx, ev_ok ht' hy, SV.den, hrun]
/-- The cells of a literal: of its parts, in order, each once. -/
def partsE (tm : Tm) (L : Lm) (agg : Bool) (sz : Nat) : Nat → List (Nat × Operand) → Option (List Value)
  | _, [] => some []
  | i, (j, x) :: r => match Nat.beq i j with
    | true => match ev tm x with
      | some s => match cellsE agg s with
        | some cs => match lenIs cs sz with
          | true => match valsE L cs with
            | some vs => match partsE tm L agg sz (i + 1) r with
              | some l => some (vs ++ l)
              | none => none
            | none => none
          | false => none
        | none => none
      | none => none
    | false => none
theorem fold_set (cs : List Value) (off : Nat) : ∀ (vs : List Value) (i : Nat), off + i + vs.length ≤ cs.length →
    (vs.zipIdx i).foldl (fun (acc : Array Value) (p : Value × Nat) => acc.setIfInBounds (off + p.2) p.1) cs.toArray = (setL cs (off + i) vs).toArray := by
  intro vs
  induction vs generalizing cs with
  | nil => intro i _; simp [setL_nil]
  | cons v vs ih =>
    intro i h
    simp only [List.length_cons] at h
    simp only [List.zipIdx_cons, List.foldl_cons]
    rw [setL_cons _ _ _ _ (by omega)]
    have := ih (cs.set (off + i) v) (i + 1) (by simp; omega)
    rw [show off + (i + 1) = off + i + 1 by omega] at this
    rw [← this]
    simp
theorem partsE_fill (ht : RelT n L β tm a) (hd : Den β L u k N w) {agg : Bool} {sz : Nat} : ∀ {ps : List (Nat × Operand)} {i : Nat} {vs : List Value}, partsE tm L agg sz i ps = some vs → ∀ (pre post : List Value), pre.length = i * sz → post.length = ps.length * sz →
    Instr.fill (fun j => some (j * sz, sz)) (pre ++ post).toArray (ps.map fun p => (p.1, a.eval p.2)) = some (pre ++ vs).toArray ∧ vs.length = ps.length * sz ∧ ∀ v ∈ vs, True
  | [], i, vs, h, pre, post, h1, h2 => by
    simp only [partsE, Option.some.injEq] at h; subst h
    have : post = [] := List.length_eq_zero_iff.1 (by simpa using h2)
    subst this
    simp [Instr.fill]
  | (j, x) :: r, i, vs, h, pre, post, h1, h2 => by
    simp only [partsE] at h
    split at h
    · rename_i hij
      have e := Nat.eq_of_beq_eq_true hij; subst e
      split at h
      · rename_i s hs
        split at h
        · rename_i cs hcs
          split at h
          · rename_i hl
            split at h
            · rename_i us hus
              split at h
              · rename_i l hl2
                have e := Option.some.inj h; subst e
                obtain ⟨g1, g2⟩ := cellsE_ok (β := β) hcs (ev_oks ht hs)
                have hv := valsE_den hd.bn hus
                have hlen : us.length = sz := by rw [← hv, dens_map]; simpa using lenIs_eq hl
                have hp : post.length = sz + r.length * sz := by rw [h2]; simp [Nat.add_mul, Nat.add_comm]
                have hcells : (a.eval x).cells = us.toArray := by rw [ev_ok ht hs, g1, hv]
                have ih := partsE_fill ht hd hl2 (pre ++ us) (post.drop sz) (by simp [h1, hlen, Nat.add_mul]) (by simp [hp])
                refine ⟨?_, by simp [hlen, ih.2.1, Nat.add_mul, Nat.add_comm], fun _ _ => trivial⟩
                have hfold := fold_set (pre ++ post) (i * sz) us 0 (by simp [h1, hlen, hp])
                have hset : setL (pre ++ post) (i * sz) us = (pre ++ us) ++ post.drop sz := by
                  simp only [setL, ← h1]
                  rw [List.take_left', List.drop_append]
                  · simp [hlen]
                  · rfl
                have hs1 : ((a.eval x).cells.size ≠ sz || i * sz + (a.eval x).cells.size > (pre ++ post).toArray.size) = false := by
                  rw [hcells]; simp [hlen, h1, hp]
                simp only [List.map_cons, Instr.fill, hs1, Bool.false_eq_true, if_false]
                have hz : (a.eval x).cells.zipIdx.foldl (fun cs (x : Value × Nat) => cs.setIfInBounds (i * sz + x.2) x.1) (pre ++ post).toArray = ((pre ++ us) ++ post.drop sz).toArray := by
                  rw [hcells, ← hset]
                  have := hfold
                  simp only [Nat.add_zero] at this
                  rw [← this, ← Array.foldl_toList]
                  simp
                rw [hz, ih.1]
                simp
              · cases h
            · cases h
          · cases h
        · cases h
      · cases h
    · cases h
/-- []T{..}, all parts given -/
theorem r_bslice (hT : TOK P T) {l : List Oper} {o : Oper} {r : List Oper} {d : Nat} {t e : TypeId} {ti te : TI} {ps : List (Nat × Operand)} {m : Nat} {vs : List Value}
    (hw : wantE l tm o = some true) (ho : o.dst = some d) (hn : Nat.blt d F.n.z = true) (hop : o.op = .buildSlice t m ps.toArray) (ht : kget T t = some ti) (hk : ti.kind = .slice e) (he : kget T e = some te) (hz0 : te.zero ≠ [])
    (hv : partsE tm L te.kind.agg te.size 0 ps = some vs) (hm : ps.length = m) (hsm : m * te.size ≤ 2 ^ 24)
    (next : ∀ b, u b = none → Run P Q F ((d, .v (.slice (some ⟨b, 0, none⟩) m m)) :: tm) L (upd u b (.cells vs.toArray e (0, 0))) .seq l r) :
    Run P Q F tm L u .seq l (o :: r) := by
  refine op_any hw ho hn (fun β a w hf ht' hd => ?_)
  obtain ⟨inf, z, hi, hsz, hby, hz, hzc, hzl⟩ := chk_info (hT e te he)
  have hfill := (partsE_fill ht' hd hv [] (reps m (te.zero.map ZV.val)) (by simp) (by rw [reps_length, hm]; simp [hzl])).1
  simp only [List.nil_append] at hfill
  have hnz : te.size ≠ 0 := by rw [← hzl]; intro h; exact hz0 (List.length_eq_zero_iff.1 h)
  have hmade : (Array.range (m * te.size)).map (z.cells[· % z.cells.size]!) = (reps m (te.zero.map ZV.val)).toArray := by
    have := made_reps (te.zero.map ZV.val) m (by simpa using hz0)
    rw [hzc]
    simpa [madeCells, hzl] using this
  refine ⟨β, { w with heap := w.heap.push (.cells vs.toArray e (0, 0)) }, .v (.slice (some ⟨w.heap.size, 0, none⟩) m m), L, _, ?_, hf, ht', den_ext_new hd rfl ⟨rfl, rfl, rfl, Nat.le_refl _⟩, rfl, next w.heap.size hd.fresh⟩
  have hz' : (zeroValue e).run P w = .ok z w := by simp [zeroValue, typeInfo, program, Sem.run, hi, hz]
  have hlarge : ¬ (2 ^ 24 < m * te.size) := by omega
  have hparts : (ps.toArray.map fun p => (p.1, a.eval p.2)).toList = ps.map fun p => (p.1, a.eval p.2) := by simp
  by_cases hm0 : m * te.size = 0
  · have : m = 0 := by rcases Nat.mul_eq_zero.1 hm0 with h | h; exact h; exact absurd h hnz
    subst this
    have : ps = [] := List.length_eq_zero_iff.1 hm
    subst this
    simp only [partsE, Option.some.injEq] at hv; subst hv
    simp [execOp, hop, Instr.buildSlice, run_und (elem_of hT ht hk), run_size (hT e te he), Instr.fill, newRow, newObj, Sem.run, SV.den, Array.range_zero']
  · simp only [execOp, hop, Instr.buildSlice, Sem.run_bind, run_und (elem_of hT ht hk), run_size (hT e te he), Result.andThen_ok, gt_iff_lt, if_neg hlarge, if_neg hm0, hz', hmade, hparts, hfill, Sem.run_pure]
    simp [newRow, newObj, Sem.run, SV.den, hfill, hmade, hz', hm0]
end
end Go.Sy
/- The walk by a symbolic frame: rules for numbers, texts, structs. -/
namespace Go.Sy
set_option linter.unusedSimpArgs false
def byt (s : ByteArray) (i : Nat) : Nat := (s.data.toList.getD i 0).toNat
def arithE (op : BinOp) (a b : Int) : Option Int :=
  match op with
  | .add => some (a + b)
  | .sub => some (a - b)
  | .mul => some (a * b)
  | _ => none
section
variable {P : Program} {T : List (Nat × TI)} {F : Fr} {tm : Tm} {L : Lm} {u : Hp} {n : FN} {N : World} {β : Nat → Nat} {k : Hp} {a : Act} {w : World} {Q : Exit → Act → World → Prop}
theorem r_arithw {qq : Md} {l : List Oper} {o : Oper} {r : List Oper} {d : Nat} {op : BinOp} {t t' : TypeId} {x y : Operand} {kk : IntKind} {p q c : Int} (hw : wantE l tm o = some true) (ho : o.dst = some d) (hn : Nat.blt d F.n.z = true)
    (hop : o.op = .binOp op t x y t') (hx : ev tm x = some (.v (.int kk p))) (hy : ev tm y = some (.v (.int kk q))) (hc : arithE op p q = some c)
    (next : Run P Q F ((d, .v (.int kk (kk.wrap c))) :: tm) L u qq l r) : Run P Q F tm L u qq l (o :: r) := by
  refine op_pure hw ho hn (fun β a w ht hd => ⟨?_, rfl⟩) next
  have hg : eqGuard op t x y (.int kk p) (.int kk q) = pure () := eqGuard_at_int ..
  cases op <;> simp [arithE] at hc <;> subst hc <;> simp [execOp, hop, ev_ok ht hx, ev_ok ht hy, SV.den, hg, binOp, Op.intArith]
theorem r_arith {qq : Md} {l : List Oper} {o : Oper} {r : List Oper} {d : Nat} {op : BinOp} {t t' : TypeId} {x y : Operand} {p q c : Int} (hw : wantE l tm o = some true) (ho : o.dst = some d) (hn : Nat.blt d F.n.z = true)
    (hop : o.op = .binOp op t x y t') (hx : ev tm x = some (.v (.int .i64 p))) (hy : ev tm y = some (.v (.int .i64 q))) (hc : arithE op p q = some c) (hr : -9223372036854775808 ≤ c ∧ c ≤ 9223372036854775807)
    (next : Run P Q F ((d, .v (.int .i64 c)) :: tm) L u qq l r) : Run P Q F tm L u qq l (o :: r) :=
  r_arithw hw ho hn hop hx hy hc (by rw [IntWalk.i64_in c hr]; exact next)
theorem r_quo {qq : Md} {l : List Oper} {o : Oper} {r : List Oper} {d : Nat} {t t' : TypeId} {x y : Operand} {kk : IntKind} {p q : Int} (hw : wantE l tm o = some true) (ho : o.dst = some d) (hn : Nat.blt d F.n.z = true)
    (hop : o.op = .binOp .quo t x y t') (hx : ev tm x = some (.v (.int kk p))) (hy : ev tm y = some (.v (.int kk q))) (hq : q ≠ 0)
    (next : Run P Q F ((d, .v (.int kk (kk.wrap (p.tdiv q)))) :: tm) L u qq l r) : Run P Q F tm L u qq l (o :: r) := by
  refine op_pure hw ho hn (fun β a w ht hd => ⟨?_, rfl⟩) next
  simp [execOp, hop, ev_ok ht hx, ev_ok ht hy, SV.den, eqGuard_quo, binOp, Op.intDiv, hq]
theorem r_rem {qq : Md} {l : List Oper} {o : Oper} {r : List Oper} {d : Nat} {t t' : TypeId} {x y : Operand} {kk : IntKind} {p q : Int} (hw : wantE l tm o = some true) (ho : o.dst = some d) (hn : Nat.blt d F.n.z = true)
    (hop : o.op = .binOp .rem t x y t') (hx : ev tm x = some (.v (.int kk p))) (hy : ev tm y = some (.v (.int kk q))) (hq : q ≠ 0)
    (next : Run P Q F ((d, .v (.int kk (p.tmod q))) :: tm) L u qq l r) : Run P Q F tm L u qq l (o :: r) := by
  refine op_pure hw ho hn (fun β a w ht hd => ⟨?_, rfl⟩) next
  simp [execOp, hop, ev_ok ht hx, ev_ok ht hy, SV.den, eqGuard_rem, binOp, Op.intDiv, hq]
theorem r_quoN {qq : Md} {l : List Oper} {o : Oper} {r : List Oper} {d : Nat} {t t' : TypeId} {x y : Operand} {p q : Nat} (hw : wantE l tm o = some true) (ho : o.dst = some d) (hn : Nat.blt d F.n.z = true)
    (hop : o.op = .binOp .quo t x y t') (hx : ev tm x = some (.v (.int .i64 (p : Int)))) (hy : ev tm y = some (.v (.int .i64 (q : Int)))) (hq : q ≠ 0) (hp : p ≤ 9223372036854775807)
    (next : Run P Q F ((d, .v (.int .i64 ((p / q : Nat) : Int))) :: tm) L u qq l r) : Run P Q F tm L u qq l (o :: r) := by
  refine r_quo hw ho hn hop hx hy (by omega) ?_
  have h1 : ((p : Int).tdiv (q : Int)) = ((p / q : Nat) : Int) := rfl
  have h2 : p / q ≤ p := Nat.div_le_self p q
  rw [h1]
  generalize p / q = z at h2 next
  rw [IntWalk.i64_in _ (by omega)]
  exact next
theorem r_remN {qq : Md} {l : List Oper} {o : Oper} {r : List Oper} {d : Nat} {t t' : TypeId} {x y : Operand} {kk : IntKind} {p q : Nat} (hw : wantE l tm o = some true) (ho : o.dst = some d) (hn : Nat.blt d F.n.z = true)
    (hop : o.op = .binOp .rem t x y t') (hx : ev tm x = some (.v (.int kk (p : Int)))) (hy : ev tm y = some (.v (.int kk (q : Int)))) (hq : q ≠ 0)
    (next : Run P Q F ((d, .v (.int kk ((p % q : Nat) : Int))) :: tm) L u qq l r) : Run P Q F tm L u qq l (o :: r) :=
  r_rem hw ho hn hop hx hy (by omega) next
theorem r_bits {qq : Md} {l : List Oper} {o : Oper} {r : List Oper} {d : Nat} {op : BinOp} {t t' : TypeId} {x y : Operand} {kk : IntKind} {p q c : Int} (hw : wantE l tm o = some true) (ho : o.dst = some d) (hn : Nat.blt d F.n.z = true)
    (hop : o.op = .binOp op t x y t') (hx : ev tm x = some (.v (.int kk p))) (hy : ev tm y = some (.v (.int kk q))) (hc : (Op.intBits op kk p q) = pure (.int kk c)) (hb : op = .and ∨ op = .or ∨ op = .xor ∨ op = .andNot)
    (next : Run P Q F ((d, .v (.int kk c)) :: tm) L u qq l r) : Run P Q F tm L u qq l (o :: r) := by
  refine op_pure hw ho hn (fun β a w ht hd => ⟨?_, rfl⟩) next
  have hg : eqGuard op t x y (.int kk p) (.int kk q) = pure () := eqGuard_at_int ..
  rcases hb with rfl | rfl | rfl | rfl <;> simp [execOp, hop, ev_ok ht hx, ev_ok ht hy, SV.den, hg, binOp, hc]
theorem r_shift {qq : Md} {l : List Oper} {o : Oper} {r : List Oper} {d : Nat} {op : BinOp} {t t' : TypeId} {x y : Operand} {kk ky : IntKind} {p q c : Int} (hw : wantE l tm o = some true) (ho : o.dst = some d) (hn : Nat.blt d F.n.z = true)
    (hop : o.op = .binOp op t x y t') (hx : ev tm x = some (.v (.int kk p))) (hy : ev tm y = some (.v (.int ky q))) (hb : op = .shl ∨ op = .shr) (hc : (Op.shift op kk p ky q) = pure (.int kk c))
    (next : Run P Q F ((d, .v (.int kk c)) :: tm) L u qq l r) : Run P Q F tm L u qq l (o :: r) := by
  refine op_pure hw ho hn (fun β a w ht hd => ⟨?_, rfl⟩) next
  have hg : eqGuard op t x y (.int kk p) (.int ky q) = pure () := eqGuard_at_int ..
  rcases hb with rfl | rfl <;> simp [execOp, hop, ev_ok ht hx, ev_ok ht hy, SV.den, hg, binOp, hc]
theorem r_neg {qq : Md} {l : List Oper} {o : Oper} {r : List Oper} {d : Nat} {t : TypeId} {x : Operand} {kk : IntKind} {p : Int} (hw : wantE l tm o = some true) (ho : o.dst = some d) (hn : Nat.blt d F.n.z = true)
    (hop : o.op = .unOp .neg t x) (hx : ev tm x = some (.v (.int kk p)))
    (next : Run P Q F ((d, .v (.int kk (kk.wrap (0 - p)))) :: tm) L u qq l r) : Run P Q F tm L u qq l (o :: r) := by
  refine op_pure hw ho hn (fun β a w ht hd => ⟨?_, rfl⟩) next
  simp [execOp, hop, ev_ok ht hx, SV.den, Op.unary, Op.intArith]
theorem desc_of (hT : TOK P T) {t : TypeId} {ti : TI} (h : kget T t = some ti) : ∃ d, P.underlying t = some d ∧ kfits P ti.kind d = true := chk_desc (hT t ti h)
/-- A whole number of another kind. -/
theorem r_convw (hT : TOK P T) {qq : Md} {l : List Oper} {o : Oper} {r : List Oper} {d : Nat} {t t' : TypeId} {ti ti' : TI} {x : Operand} {kk k2 : IntKind} {p : Int} (hw : wantE l tm o = some true) (ho : o.dst = some d) (hn : Nat.blt d F.n.z = true)
    (hop : o.op = .convert t t' x) (ht1 : kget T t = some ti) (ht2 : kget T t' = some ti') (hk : ti'.kind = .int k2) (hx : ev tm x = some (.v (.int kk p)))
    (next : Run P Q F ((d, .v (.int k2 (k2.wrap p))) :: tm) L u qq l r) : Run P Q F tm L u qq l (o :: r) := by
  refine op_pure hw ho hn (fun β a w ht hd => ⟨?_, rfl⟩) next
  obtain ⟨d1, e1, f1⟩ := desc_of hT ht1
  obtain ⟨d2, e2, f2⟩ := desc_of hT ht2
  rw [hk] at f2
  cases d2 <;> simp [kfits] at f2
  subst f2
  simp [execOp, hop, ev_ok ht hx, SV.den, convert, run_und e1, run_und e2, Conv.intToInt]
theorem r_conv (hT : TOK P T) {qq : Md} {l : List Oper} {o : Oper} {r : List Oper} {d : Nat} {t t' : TypeId} {ti ti' : TI} {x : Operand} {kk k2 : IntKind} {p : Int} (hw : wantE l tm o = some true) (ho : o.dst = some d) (hn : Nat.blt d F.n.z = true)
    (hop : o.op = .convert t t' x) (ht1 : kget T t = some ti) (ht2 : kget T t' = some ti') (hk : ti'.kind = .int k2) (hx : ev tm x = some (.v (.int kk p))) (hp : k2.wrap p = p)
    (next : Run P Q F ((d, .v (.int k2 p)) :: tm) L u qq l r) : Run P Q F tm L u qq l (o :: r) :=
  r_convw hT hw ho hn hop ht1 ht2 hk hx (by rw [hp]; exact next)
theorem r_concat {qq : Md} {l : List Oper} {o : Oper} {r : List Oper} {d : Nat} {t t' : TypeId} {x y : Operand} {p q : ByteArray} (hw : wantE l tm o = some true) (ho : o.dst = some d) (hn : Nat.blt d F.n.z = true)
    (hop : o.op = .binOp .add t x y t') (hx : ev tm x = some (.v (.string p))) (hy : ev tm y = some (.v (.string q))) (hs : p.size + q.size ≤ 9223372036854775807)
    (next : Run P Q F ((d, .v (.string (p ++ q))) :: tm) L u qq l r) : Run P Q F tm L u qq l (o :: r) := by
  refine op_pure hw ho hn (fun β a w ht hd => ⟨?_, rfl⟩) next
  have hs' : ¬ (p.size + q.size > 9223372036854775807) := by omega
  simp only [execOp, hop, ev_ok ht hx, ev_ok ht hy, SV.den, eqGuard_add, binOp, pure_bind, bind_pure, Sem.run_bind, run_string_add_if, if_neg hs', Result.andThen_ok, Sem.run_pure]
theorem r_str (hT : TOK P T) {qq : Md} {l : List Oper} {o : Oper} {r : List Oper} {d : Nat} {t t' e : TypeId} {ti ti' te : TI} {x : Operand} {A : Option Addr} {m c : Nat} {s : ByteArray} (hw : wantE l tm o = some true) (ho : o.dst = some d) (hn : Nat.blt d F.n.z = true)
    (hop : o.op = .convert t t' x) (ht1 : kget T t = some ti) (hk1 : ti.kind = .slice e) (he : kget T e = some te) (hke : te.kind = .int .u8) (ht2 : kget T t' = some ti') (hk : ti'.kind = .str) (hx : ev tm x = some (.v (.slice A m c)))
    (hS : Sl u A m 1 (byteCells s)) (next : Run P Q F ((d, .v (.string s)) :: tm) L u qq l r) : Run P Q F tm L u qq l (o :: r) := by
  refine op_pure hw ho hn (fun β a w ht hd => ⟨?_, rfl⟩) next
  obtain ⟨d2, e2, f2⟩ := desc_of hT ht2
  rw [hk] at f2
  cases d2 <;> simp [kfits] at f2
  obtain ⟨d3, e3, f3⟩ := desc_of hT he
  rw [hke] at f3
  cases d3 <;> simp [kfits] at f3
  subst f3
  have hc := run_convert_bytes_string (P := P) w t t' e A m c (elem_of hT ht1 hk1) e3 e2
  have hb : (Conv.bytesToString (.slice A m c)).run P w = .ok (.string s) w := by
    cases A with
    | none =>
      have := hS.nil rfl
      subst this
      have hl := hS.len
      rw [byteCells_length] at hl
      have : s = .empty := by
        have h0 : s.data.size = 0 := by simpa using hl
        obtain ⟨d⟩ := s
        simp at h0
        subst h0; rfl
      subst this
      simp [Conv.bytesToString]
    | some ad =>
      by_cases hm0 : m = 0
      · subst hm0
        have hl := hS.len
        rw [byteCells_length] at hl
        have : s = .empty := by
          have h0 : s.data.size = 0 := by simpa using hl
          obtain ⟨d⟩ := s
          simp at h0
          subst h0; rfl
        subst this
        have hrun := run_loadCells_list (P := P) w ad [] (fun j v hj => by simp at hj)
        rw [run_bytesToString w ad 0 c [] (by simpa using hrun)]
        rfl
      obtain ⟨e1, hat⟩ := hS.at_ ad rfl hm0
      obtain ⟨b, off, sp⟩ := ad
      simp only at e1; subst e1
      have hl := hS.len
      have hrun := run_loadCells_list (P := P) w ⟨b, off, none⟩ (byteCells s) (fun j v hj => by
        have : (⟨b, off, none⟩ : Addr).add j = ⟨b, off + j, none⟩ := by simp only [Addr.add]; split <;> simp_all
        rw [this]; exact hat.cell hd hj)
      rw [hl, Nat.mul_one] at hrun
      have hbc : byteCells s = (s.data.toList.map fun b => (b.toNat : Int)).map (Value.int .u8) := by simp [byteCells]
      rw [hbc] at hrun
      rw [run_bytesToString w ⟨b, off, none⟩ m c _ hrun]
      congr 2
      have key : ∀ (l : List UInt8) (acc : ByteArray), (l.map fun b => (b.toNat : Int)).foldl (fun r n => r.push (UInt8.ofNat n.toNat)) acc = ⟨acc.data ++ l.toArray⟩ := by
        intro l
        induction l with
        | nil => intro acc; simp
        | cons x l ih => intro acc; simp only [List.map_cons, List.foldl_cons, ih]; simp [ByteArray.push]
      rw [key]
      have h0 : (ByteArray.empty.data ++ s.data.toList.toArray) = s.data := by
        rw [Array.toArray_toList]
        show (#[] ++ s.data) = s.data
        exact Array.empty_append
      rw [h0]
  simp [execOp, hop, ev_ok ht hx, SV.den, hc, hb]
/-- s[i] -/
theorem r_byte (hT : TOK P T) {qq : Md} {l : List Oper} {o : Oper} {r : List Oper} {d : Nat} {t : TypeId} {ti : TI} {x y : Operand} {kk : IntKind} {s : ByteArray} {i : Nat} (hw : wantE l tm o = some true) (ho : o.dst = some d) (hn : Nat.blt d F.n.z = true)
    (hop : o.op = .index t x y) (ht1 : kget T t = some ti) (hk : ti.kind = .str) (hx : ev tm x = some (.v (.string s))) (hy : ev tm y = some (.v (.int kk (i : Int)))) (hi : i < s.size)
    (next : Run P Q F ((d, .v (.int .u8 (byt s i))) :: tm) L u qq l r) : Run P Q F tm L u qq l (o :: r) := by
  refine op_pure hw ho hn (fun β a w ht hd => ⟨?_, rfl⟩) next
  obtain ⟨d2, e2, f2⟩ := desc_of hT ht1
  rw [hk] at f2
  cases d2 <;> simp [kfits] at f2
  have h1 : s[i]? = some s[i] := getElem?_pos s i hi
  have h2 : (s[i] : UInt8).toNat = byt s i := by
    unfold byt
    have : i < s.data.toList.length := by simpa using hi
    rw [List.getD_eq_getElem?_getD, List.getElem?_eq_getElem this]
    rfl
  simp [execOp, hop, ev_ok ht hx, ev_ok ht hy, SV.den, Instr.index, asIntOf, run_und e2, h1, h2]
end
end Go.Sy
