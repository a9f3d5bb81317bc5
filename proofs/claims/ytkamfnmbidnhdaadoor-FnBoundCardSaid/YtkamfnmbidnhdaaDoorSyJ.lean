/- The walk by a symbolic frame: rules for rows made, built and grown; for numbers and texts. -/
import Derived.Test.YtkamfnmbidnhdaaDoorSyI
import Derived.IntWalk
import Derived.Laws.BytesString
import Derived.Laws.Concat
set_option linter.unusedVariables false
set_option linter.unusedSimpArgs false
set_option linter.unusedSectionVars false
namespace Go.Sy
set_option linter.unusedSimpArgs false
section
variable {P : Program} {T : List (Nat × TI)} {F : Fr} {tm : Tm} {L : Lm} {u : Hp} {n : FN} {N : World} {β : Nat → Nat} {k : Hp} {a : Act} {w : World} {Q : Exit → Act → World → Prop}
/-- append(x, y...), y a slice. -/
theorem r_append (hT : TOK P T) {l : List Oper} {o : Oper} {r : List Oper} {d : Nat} {t t2 e e2 : TypeId} {ti te ti2 : TI} {x y : Operand} {A B : Option Addr} {m c m2 c2 : Nat} {cs news : List Value}
    (hw : wantE l tm o = some true) (ho : o.dst = some d) (hn : Nat.blt d F.n.z = true) (hop : o.op = .call { callee := .builtin .append, args := #[x, y], argTypes := #[t, t2] })
    (ht : kget T t = some ti) (hk : ti.kind = .slice e) (he : kget T e = some te) (ht2 : kget T t2 = some ti2) (hk2 : ti2.kind = .slice e2)
    (hx : ev tm x = some (.v (.slice A m c))) (hy : ev tm y = some (.v (.slice B m2 c2))) (hO : Own u A m c e te.size cs) (hS : Sl u B m2 te.size news) (h1 : ∀ v ∈ news, one v = true)
    (hb : (m + m2) * te.bytes ≤ 140737488355328) (h63 : ((m + m2 : Nat) : Int) ≤ 9223372036854775807)
    (next : ∀ A' c' u', Own u' A' (m + m2) c' e te.size (cs ++ news) → Grown u u' A A' → Run P Q F ((d, .v (.slice A' (m + m2) c')) :: tm) L u' .seq l r) :
    Run P Q F tm L u .seq l (o :: r) := by
  refine op_any hw ho hn (fun β a w hf ht' hd => ?_)
  obtain ⟨A', c', u', w', h1', h2', h3', h4'⟩ := append_run (P := P) hT hd ht hk he (x := .slice B m2 c2) (tx := t2) o.type hO (hS.src (P := P) hd (elem_of hT ht2 hk2) c2 h1) h1 hb h63
  refine ⟨β, w', _, L, u', ?_, hf, ht', h4', rfl, next A' c' u' h2' h3'⟩
  simp [execOp, hop, ev_ok ht' hx, ev_ok ht' hy, SV.den, resolve, invoke, builtin, h1']
/-- append(x, y...), y a text. -/
theorem r_append_str (hT : TOK P T) {l : List Oper} {o : Oper} {r : List Oper} {d : Nat} {t t2 e : TypeId} {ti te ti2 : TI} {x y : Operand} {A : Option Addr} {m c : Nat} {s : ByteArray} {cs : List Value}
    (hw : wantE l tm o = some true) (ho : o.dst = some d) (hn : Nat.blt d F.n.z = true) (hop : o.op = .call { callee := .builtin .append, args := #[x, y], argTypes := #[t, t2] })
    (ht : kget T t = some ti) (hk : ti.kind = .slice e) (he : kget T e = some te) (ht2 : kget T t2 = some ti2) (hk2 : ti2.kind = .str) (hs1 : te.size = 1) (hb1 : te.bytes = 1)
    (hx : ev tm x = some (.v (.slice A m c))) (hy : ev tm y = some (.v (.string s))) (hO : Own u A m c e 1 cs) (hb : m + s.size ≤ 140737488355328)
    (next : ∀ A' c' u', Own u' A' (m + s.size) c' e 1 (cs ++ byteCells s) → Grown u u' A A' → Run P Q F ((d, .v (.slice A' (m + s.size) c')) :: tm) L u' .seq l r) :
    Run P Q F tm L u .seq l (o :: r) := by
  refine op_any hw ho hn (fun β a w hf ht' hd => ?_)
  have hu2 : P.underlying t2 = some .string := by
    obtain ⟨d, hd, h⟩ := chk_desc (hT t2 ti2 ht2)
    rw [hk2] at h
    cases d <;> simp [kfits] at h
    exact hd
  obtain ⟨A', c', u', w', h1', h2', h3', h4'⟩ := append_run (P := P) hT hd ht hk he (x := .string s) (tx := t2) (m := s.size) (news := byteCells s) o.type (by rw [hs1]; exact hO) (by rw [hs1]; exact Src.ofString w hu2 s)
    (fun v hv => by obtain ⟨_, _, rfl⟩ := List.mem_map.1 hv; rfl) (by rw [hb1]; omega) (by omega)
  rw [hs1] at h2'
  refine ⟨β, w', _, L, u', ?_, hf, ht', h4', rfl, next A' c' u' h2' h3'⟩
  simp [execOp, hop, ev_ok ht' hx, ev_ok ht' hy, SV.den, resolve, invoke, builtin, h1']
def reps {α : Type} : Nat → List α → List α
  | 0, _ => []
  | n + 1, l => l ++ reps n l
theorem reps_length {α : Type} : ∀ (n : Nat) (l : List α), (reps n l).length = n * l.length
  | 0, l => by simp [reps]
  | n + 1, l => by simp [reps, reps_length n l, Nat.add_mul, Nat.add_comm]
theorem reps_get {α : Type} : ∀ (n : Nat) (l : List α) (j : Nat), j < n * l.length → (reps n l)[j]? = l[j % l.length]?
  | 0, l, j, h => by simp at h
  | n + 1, l, j, h => by
    simp only [reps]
    by_cases hj : j < l.length
    · rw [List.getElem?_append_left hj, Nat.mod_eq_of_lt hj]
    · rw [List.getElem?_append_right (by omega), reps_get n l _ (by rw [Nat.add_mul] at h; omega)]
      have : j % l.length = (j - l.length) % l.length := by rw [Nat.mod_eq_sub_mod (by omega)]
      rw [this]
theorem made_reps (z : List Value) (n : Nat) (hz : z ≠ []) : madeCells z.toArray (n * z.length) = (reps n z).toArray := by
  apply Array.ext'
  apply List.ext_getElem?
  intro j
  have hpos : 0 < z.length := List.length_pos_iff.2 hz
  by_cases hj : j < n * z.length
  · rw [reps_get n z j hj]
    have hm : j % z.length < z.length := Nat.mod_lt _ hpos
    simp [madeCells, hj, getElem!_pos, hm]
  · have h1 : (reps n z).length ≤ j := by rw [reps_length]; omega
    rw [List.getElem?_eq_none h1]
    simp [madeCells, hj]
/-- make([]T, n) -/
theorem r_make (hT : TOK P T) {l : List Oper} {o : Oper} {r : List Oper} {d : Nat} {t e : TypeId} {ti te : TI} {x y : Operand} {kx ky : IntKind} {i : Int}
    (hw : wantE l tm o = some true) (ho : o.dst = some d) (hn : Nat.blt d F.n.z = true) (hop : o.op = .makeSlice t x y) (ht : kget T t = some ti) (hk : ti.kind = .slice e) (he : kget T e = some te) (hz0 : te.zero ≠ [])
    (hx : ev tm x = some (.v (.int kx i))) (hy : ev tm y = some (.v (.int ky i))) (h0 : 0 ≤ i) (hb : (te.bytes : Int) * i ≤ 281474976710656) (h63 : i ≤ 9223372036854775807)
    (next : ∀ b, u b = none → Run P Q F ((d, .v (.slice (some ⟨b, 0, none⟩) i.toNat i.toNat)) :: tm) L (upd u b (.cells (reps i.toNat (te.zero.map ZV.val)).toArray e (0, 0))) .seq l r) :
    Run P Q F tm L u .seq l (o :: r) := by
  refine op_any hw ho hn (fun β a w hf ht' hd => ?_)
  obtain ⟨inf, z, hi, hsz, hby, hz, hzc, hzl⟩ := chk_info (hT e te he)
  have hrun := run_make (P := P) w t e inf z (elem_of hT ht hk) hi hz kx ky i i h0 (Int.le_refl _) (by rw [hby]; exact hb) h63
  have hm : madeCells z.cells (i.toNat * inf.size) = (reps i.toNat (te.zero.map ZV.val)).toArray := by
    rw [hzc, hsz, ← hzl]
    have := made_reps (te.zero.map ZV.val) i.toNat (by simpa using hz0)
    simpa using this
  rw [hm] at hrun
  refine ⟨β, w.alloc (.cells (reps i.toNat (te.zero.map ZV.val)).toArray e), .v (.slice (some ⟨w.heap.size, 0, none⟩) i.toNat i.toNat), L, _, ?_, hf, ht', den_ext_new hd (w' := w.alloc (.cells (reps i.toNat (te.zero.map ZV.val)).toArray e)) rfl ⟨rfl, rfl, rfl⟩, rfl, next w.heap.size hd.fresh⟩
  simp [execOp, hop, ev_ok ht' hx, ev_ok ht' hy, SV.den, hrun]
/-- The cells of a literal: of its parts, in order, each once. -/
def partsE (tm : Tm) (L : Lm) (agg : Bool) (sz : Nat) : Nat → List (Nat × Operand) → Option (List Value)
  | _, [] => some []
  | i, (j, x) :: r => match Nat.beq i j with
    | true => match ev tm x with
      | some s => match cellsE agg s with
        | some cs => match lenIs cs sz with
          | true => match valsE L cs with
            | some vs => match partsE tm L agg sz (i + 1) r with
              | some l => some (vs ++ l)
              | none => none
            | none => none
          | false => none
        | none => none
      | none => none
    | false => none
theorem fold_set (cs : List Value) (off : Nat) : ∀ (vs : List Value) (i : Nat), off + i + vs.length ≤ cs.length →
    (vs.zipIdx i).foldl (fun (acc : Array Value) (p : Value × Nat) => acc.setIfInBounds (off + p.2) p.1) cs.toArray = (setL cs (off + i) vs).toArray := by
  intro vs
  induction vs generalizing cs with
  | nil => intro i _; simp [setL_nil]
  | cons v vs ih =>
    intro i h
    simp only [List.length_cons] at h
    simp only [List.zipIdx_cons, List.foldl_cons]
    rw [setL_cons _ _ _ _ (by omega)]
    have := ih (cs.set (off + i) v) (i + 1) (by simp; omega)
    rw [show off + (i + 1) = off + i + 1 by omega] at this
    rw [← this]
    simp
theorem partsE_fill (ht : RelT n L β tm a) (hd : Den β L u k N w) {agg : Bool} {sz : Nat} : ∀ {ps : List (Nat × Operand)} {i : Nat} {vs : List Value}, partsE tm L agg sz i ps = some vs → ∀ (pre post : List Value), pre.length = i * sz → post.length = ps.length * sz →
    Instr.fill (fun j => some (j * sz, sz)) (pre ++ post).toArray (ps.map fun p => (p.1, a.eval p.2)) = some (pre ++ vs).toArray ∧ vs.length = ps.length * sz ∧ ∀ v ∈ vs, True
  | [], i, vs, h, pre, post, h1, h2 => by
    simp only [partsE, Option.some.injEq] at h; subst h
    have : post = [] := List.length_eq_zero_iff.1 (by simpa using h2)
    subst this
    simp [Instr.fill]
  | (j, x) :: r, i, vs, h, pre, post, h1, h2 => by
    simp only [partsE] at h
    split at h
    · rename_i hij
      have e := Nat.eq_of_beq_eq_true hij; subst e
      split at h
      · rename_i s hs
        split at h
        · rename_i cs hcs
          split at h
          · rename_i hl
            split at h
            · rename_i us hus
              split at h
              · rename_i l hl2
                have e := Option.some.inj h; subst e
                obtain ⟨g1, g2⟩ := cellsE_ok (β := β) hcs (ev_oks ht hs)
                have hv := valsE_den hd.bn hus
                have hlen : us.length = sz := by rw [← hv, dens_map]; simpa using lenIs_eq hl
                have hp : post.length = sz + r.length * sz := by rw [h2]; simp [Nat.add_mul, Nat.add_comm]
                have hcells : (a.eval x).cells = us.toArray := by rw [ev_ok ht hs, g1, hv]
                have ih := partsE_fill ht hd hl2 (pre ++ us) (post.drop sz) (by simp [h1, hlen, Nat.add_mul]) (by simp [hp])
                refine ⟨?_, by simp [hlen, ih.2.1, Nat.add_mul, Nat.add_comm], fun _ _ => trivial⟩
                have hfold := fold_set (pre ++ post) (i * sz) us 0 (by simp [h1, hlen, hp])
                have hset : setL (pre ++ post) (i * sz) us = (pre ++ us) ++ post.drop sz := by
                  simp only [setL, ← h1]
                  rw [List.take_left', List.drop_append]
                  · simp [hlen]
                  · rfl
                have hs1 : ((a.eval x).cells.size ≠ sz || i * sz + (a.eval x).cells.size > (pre ++ post).toArray.size) = false := by
                  rw [hcells]; simp [hlen, h1, hp]
                simp only [List.map_cons, Instr.fill, hs1, Bool.false_eq_true, if_false]
                have hz : (a.eval x).cells.zipIdx.foldl (fun cs (x : Value × Nat) => cs.setIfInBounds (i * sz + x.2) x.1) (pre ++ post).toArray = ((pre ++ us) ++ post.drop sz).toArray := by
                  rw [hcells, ← hset]
                  have := hfold
                  simp only [Nat.add_zero] at this
                  rw [← this, ← Array.foldl_toList]
                  simp
                rw [hz, ih.1]
                simp
              · cases h
            · cases h
          · cases h
        · cases h
      · cases h
    · cases h
/-- []T{..}, all parts given -/
theorem r_bslice (hT : TOK P T) {l : List Oper} {o : Oper} {r : List Oper} {d : Nat} {t e : TypeId} {ti te : TI} {ps : List (Nat × Operand)} {m : Nat} {vs : List Value}
    (hw : wantE l tm o = some true) (ho : o.dst = some d) (hn : Nat.blt d F.n.z = true) (hop : o.op = .buildSlice t m ps.toArray) (ht : kget T t = some ti) (hk : ti.kind = .slice e) (he : kget T e = some te) (hz0 : te.zero ≠ [])
    (hv : partsE tm L te.kind.agg te.size 0 ps = some vs) (hm : ps.length = m) (hsm : m * te.size ≤ 2 ^ 24)
    (next : ∀ b, u b = none → Run P Q F ((d, .v (.slice (some ⟨b, 0, none⟩) m m)) :: tm) L (upd u b (.cells vs.toArray e (0, 0))) .seq l r) :
    Run P Q F tm L u .seq l (o :: r) := by
  refine op_any hw ho hn (fun β a w hf ht' hd => ?_)
  obtain ⟨inf, z, hi, hsz, hby, hz, hzc, hzl⟩ := chk_info (hT e te he)
  have hfill := (partsE_fill ht' hd hv [] (reps m (te.zero.map ZV.val)) (by simp) (by rw [reps_length, hm]; simp [hzl])).1
  simp only [List.nil_append] at hfill
  have hnz : te.size ≠ 0 := by rw [← hzl]; intro h; exact hz0 (List.length_eq_zero_iff.1 h)
  have hmade : (Array.range (m * te.size)).map (z.cells[· % z.cells.size]!) = (reps m (te.zero.map ZV.val)).toArray := by
    have := made_reps (te.zero.map ZV.val) m (by simpa using hz0)
    rw [hzc]
    simpa [madeCells, hzl] using this
  refine ⟨β, { w with heap := w.heap.push (.cells vs.toArray e (0, 0)) }, .v (.slice (some ⟨w.heap.size, 0, none⟩) m m), L, _, ?_, hf, ht', den_ext_new hd rfl ⟨rfl, rfl, rfl⟩, rfl, next w.heap.size hd.fresh⟩
  have hz' : (zeroValue e).run P w = .ok z w := by simp [zeroValue, typeInfo, program, Sem.run, hi, hz]
  have hlarge : ¬ (2 ^ 24 < m * te.size) := by omega
  have hparts : (ps.toArray.map fun p => (p.1, a.eval p.2)).toList = ps.map fun p => (p.1, a.eval p.2) := by simp
  by_cases hm0 : m * te.size = 0
  · have : m = 0 := by rcases Nat.mul_eq_zero.1 hm0 with h | h; exact h; exact absurd h hnz
    subst this
    have : ps = [] := List.length_eq_zero_iff.1 hm
    subst this
    simp only [partsE, Option.some.injEq] at hv; subst hv
    simp [execOp, hop, Instr.buildSlice, run_und (elem_of hT ht hk), run_size (hT e te he), Instr.fill, newRow, newObj, Sem.run, SV.den, Array.range_zero']
  · simp only [execOp, hop, Instr.buildSlice, Sem.run_bind, run_und (elem_of hT ht hk), run_size (hT e te he), Result.andThen_ok, gt_iff_lt, if_neg hlarge, if_neg hm0, hz', hmade, hparts, hfill, Sem.run_pure]
    simp [newRow, newObj, Sem.run, SV.den, hfill, hmade, hz', hm0]
end
end Go.Sy
