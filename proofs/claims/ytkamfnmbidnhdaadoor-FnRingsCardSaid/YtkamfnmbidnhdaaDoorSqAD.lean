/- A map with whole numbers: what it holds as a list of keys and numbers; its rules. Over any program; no condition on the keys but how they are compared. -/
import Derived.Test.YtkamfnmbidnhdaaDoorSqAC
import Derived.WideKeyEntry
set_option linter.unusedVariables false
set_option linter.unusedSimpArgs false
set_option linter.unusedSectionVars false
namespace Go.Sy
set_option linter.unusedSectionVars false
open Go.RowKit Go.ChangeMaps Go.MapKept
/-- How keys of type kt are compared, and that no check ends the call. -/
structure KeyOps (P : Program) (kt : TypeId) {κ : Type} [DecidableEq κ] (ke : κ → Value) : Prop where
  check : ∀ (w : World) (em : Bool) (x : κ), (Instr.checkKey em 10000 kt (ke x)).run P w = .ok () w
  find : ∀ (w : World) (x : κ) (l : List κ) (es : List MapEntry), es.map (·.key) = l.map ke →
    (Instr.findKey kt (ke x) es).run P w = .ok (match l.findIdx? (fun y => decide (x = y)) with | some i => (es[i]?).map (fun e => (i, e.val)) | none => none) w
  stays : ∀ (w : World) (x : κ), (Instr.keyThatStays (ke x) (ke x)).run P w = .ok (ke x) w
section
variable {κ : Type} [DecidableEq κ]
def mget (l : List (κ × Int)) (x : κ) : Int := ((l.find? (fun p => decide (x = p.1))).map (·.2)).getD 0
def mhas (l : List (κ × Int)) (x : κ) : Bool := (l.find? (fun p => decide (x = p.1))).isSome
def mset : List (κ × Int) → κ → Int → List (κ × Int)
  | [], x, v => [(x, v)]
  | p :: r, x, v => if x = p.1 then (x, v) :: r else p :: mset r x v
theorem mget_mset (l : List (κ × Int)) (x y : κ) (v : Int) : mget (mset l x v) y = if y = x then v else mget l y := by
  induction l with
  | nil =>
    by_cases h : y = x <;> simp [mset, mget, h]
  | cons p r ih =>
    by_cases h : x = p.1
    · rw [mset, if_pos h]
      by_cases h2 : y = x
      · simp [mget, h2]
      · have : ¬ y = p.1 := by rw [← h]; exact h2
        simp [mget, h2, this]
    · rw [mset, if_neg h]
      by_cases h2 : y = p.1
      · have : ¬ y = x := fun e => h (e.symm.trans h2)
        simp only [mget, List.find?_cons, decide_eq_true h2, Option.map_some, Option.getD_some, if_neg this]
      · have e1 : mget (p :: mset r x v) y = mget (mset r x v) y := by simp [mget, h2]
        have e2 : mget (p :: r) y = mget r y := by simp [mget, h2]
        rw [e1, e2, ih]
theorem mhas_mset (l : List (κ × Int)) (x y : κ) (v : Int) : mhas (mset l x v) y = (decide (y = x) || mhas l y) := by
  induction l with
  | nil => by_cases h : y = x <;> simp [mset, mhas, h]
  | cons p r ih =>
    by_cases h : x = p.1
    · rw [mset, if_pos h]
      by_cases h2 : y = x
      · simp [mhas, h2]
      · have : ¬ y = p.1 := by rw [← h]; exact h2
        simp [mhas, h2, this]
    · rw [mset, if_neg h]
      by_cases h2 : y = p.1
      · simp [mhas, h2]
      · have e1 : mhas (p :: mset r x v) y = mhas (mset r x v) y := by simp [mhas, h2]
        have e2 : mhas (p :: r) y = mhas r y := by simp [mhas, h2]
        rw [e1, e2, ih]
theorem mset_keys (l : List (κ × Int)) (x : κ) (v : Int) : (mset l x v).map (·.1) = if x ∈ l.map (·.1) then l.map (·.1) else l.map (·.1) ++ [x] := by
  induction l with
  | nil => simp [mset]
  | cons p r ih =>
    by_cases h : x = p.1
    · simp [mset, h]
    · rw [mset, if_neg h]
      simp only [List.map_cons, ih, List.mem_cons, h, false_or]
      split <;> rfl
theorem mset_length (l : List (κ × Int)) (x : κ) (v : Int) : (mset l x v).length = if x ∈ l.map (·.1) then l.length else l.length + 1 := by
  have := congrArg List.length (mset_keys l x v)
  rw [List.length_map] at this
  rw [this]
  split <;> simp
/-- Block b is a map that holds just l. -/
structure IMap (P : Program) (ke : κ → Value) (w : World) (b : Nat) (l : List (κ × Int)) : Prop where
  nodup : (l.map (·.1)).Nodup
  here : ∃ (es : Array MapEntry) (clock : Nat), w.heap[b]? = some (.map es clock) ∧ es.toList.map (fun e => (e.key, e.val)) = l.map (fun p => (ke p.1, Value.int .i64 p.2)) ∧
    (∀ e ∈ es.toList, e.born < clock) ∧ (es.toList.map (·.born)).Nodup
variable {P : Program} {ke : κ → Value} {w : World} {b : Nat} {l : List (κ × Int)}
theorem IMap.lt (h : IMap P ke w b l) : b < w.heap.size := by
  obtain ⟨es, clock, hb, _⟩ := h.here
  exact (Array.getElem?_eq_some_iff.1 hb).1
theorem IMap.move {w1 : World} (h : IMap P ke w b l) (hw : w1.heap[b]? = w.heap[b]?) : IMap P ke w1 b l := by
  obtain ⟨es, clock, hb, r⟩ := h.here
  exact ⟨h.nodup, es, clock, hw.trans hb, r⟩
theorem IMap.made (P : Program) (ke : κ → Value) (w : World) : IMap P ke (w.alloc (.map #[] 0)) w.heap.size [] := by
  refine ⟨by simp, #[], 0, ?_, by simp, by simp, by simp⟩
  show (w.heap.push _)[w.heap.size]? = _
  simp
theorem keys_of {es : Array MapEntry} (h : es.toList.map (fun e => (e.key, e.val)) = l.map (fun p => (ke p.1, Value.int .i64 p.2))) : es.toList.map (·.key) = (l.map (·.1)).map ke := by
  have := congrArg (List.map Prod.fst) h
  simpa [List.map_map, Function.comp_def] using this
theorem find_idx (l : List (κ × Int)) (x : κ) : (∃ i : Nat, ∃ h : i < l.length, (l.map (·.1)).findIdx? (fun y => decide (x = y)) = some i ∧ l[i].1 = x ∧ mget l x = l[i].2 ∧ mhas l x = true) ∨
    ((l.map (·.1)).findIdx? (fun y => decide (x = y)) = none ∧ mget l x = 0 ∧ mhas l x = false ∧ x ∉ l.map (·.1)) := by
  induction l with
  | nil => right; simp [mget, mhas]
  | cons p r ih =>
    by_cases h : x = p.1
    · left
      exact ⟨0, by simp, by simp [List.findIdx?_cons, h], h.symm, by simp [mget, h], by simp [mhas, h]⟩
    · have e2 : mget (p :: r) x = mget r x := by simp [mget, h]
      have e3 : mhas (p :: r) x = mhas r x := by simp [mhas, h]
      rcases ih with ⟨i, hi, h1, h2, h3, h4⟩ | ⟨h1, h2, h3, h4⟩
      · left
        refine ⟨i + 1, by simpa using hi, ?_, by simpa using h2, by rw [e2, h3]; rfl, by rw [e3, h4]⟩
        simp only [List.map_cons, List.findIdx?_cons, decide_eq_false h, h1]
        rfl
      · right
        refine ⟨?_, by rw [e2, h2], by rw [e3, h3], by simp [h]; simpa using h4⟩
        simp only [List.map_cons, List.findIdx?_cons, decide_eq_false h, h1]
        rfl
theorem val_at {es : Array MapEntry} (h : es.toList.map (fun e => (e.key, e.val)) = l.map (fun p => (ke p.1, Value.int .i64 p.2))) {i : Nat} (hi : i < l.length) : ∃ e, es.toList[i]? = some e ∧ e.key = ke l[i].1 ∧ e.val = .int .i64 l[i].2 := by
  have h1 := congrArg (fun z => z[i]?) h
  simp only [List.getElem?_map, List.getElem?_eq_getElem hi, Option.map_some] at h1
  obtain ⟨e, he, h2⟩ := Option.map_eq_some_iff.1 h1
  simp only [Prod.mk.injEq] at h2
  exact ⟨e, he, h2⟩
theorem IMap.lookup {t k e : TypeId} (K : KeyOps P k ke) (ht : P.underlying t = some (.map k e)) (hz : ∀ u : World, (zeroValue e).run P u = .ok (.int .i64 0) u) (h : IMap P ke w b l) (x : κ) (ok : Bool) :
    (Instr.lookup t (.map (some b)) (ke x) ok).run P w = .ok (if ok then .tuple #[.int .i64 (mget l x), .bool (mhas l x)] else .int .i64 (mget l x)) w := by
  obtain ⟨es, clock, hb, hes, _, _⟩ := h.here
  have hf := K.find w x (l.map (·.1)) es.toList (keys_of hes)
  rcases find_idx l x with ⟨i, hi, h1, h2, h3, h4⟩ | ⟨h1, h2, h3, _⟩
  · obtain ⟨e0, he, _, hv⟩ := val_at hes hi
    rw [h1] at hf
    simp only [he, Option.map_some] at hf
    cases ok <;> simp [Instr.lookup, run_underlying ht, MapKept.run_getObj_map hb, K.check w _ x, hf, Result.andThen, hv, h3, h4]
  · rw [h1] at hf
    simp only at hf
    cases ok <;> simp [Instr.lookup, run_underlying ht, MapKept.run_getObj_map hb, K.check w _ x, hf, Result.andThen, hz, h2, h3]
theorem mset_at (hn : (l.map (·.1)).Nodup) {i : Nat} (hi : i < l.length) (v : Int) : mset l l[i].1 v = l.set i (l[i].1, v) := by
  induction l generalizing i with
  | nil => simp at hi
  | cons p r ih =>
    cases i with
    | zero => simp [mset]
    | succ i =>
      simp only [List.map_cons, List.nodup_cons] at hn
      have hi' : i < r.length := by simpa using hi
      have hne : ¬ r[i].1 = p.1 := fun e => hn.1 (by rw [← e]; exact List.mem_map.2 ⟨r[i], List.getElem_mem hi', rfl⟩)
      simp only [List.getElem_cons_succ, mset, if_neg hne, List.set_cons_succ]
      rw [ih hn.2 hi']
theorem mset_new (x : κ) (v : Int) (h : x ∉ l.map (·.1)) : mset l x v = l ++ [(x, v)] := by
  induction l with
  | nil => rfl
  | cons p r ih =>
    simp only [List.map_cons, List.mem_cons, not_or] at h
    simp only [mset, if_neg h.1, List.cons_append]
    rw [ih h.2]
theorem modify_set {es : List MapEntry} {i : Nat} {e0 : MapEntry} (f : MapEntry → MapEntry) (h : es[i]? = some e0) : es.modify i f = es.set i (f e0) := by
  apply List.ext_getElem?
  intro j
  rw [List.getElem?_modify, List.getElem?_set]
  by_cases e : i = j
  · subst e
    obtain ⟨this, hv⟩ := List.getElem?_eq_some_iff.1 h
    simp [this, hv]
  · simp [e]
/-- 'm[k] = v' and 'm[k] op= ..': the entry's stamp, and the store behind it. -/
theorem IMap.entry {t k e : TypeId} (K : KeyOps P k ke) (ht : P.underlying t = some (.map k e)) (hz : ∀ u : World, (zeroValue e).run P u = .ok (.int .i64 0) u) (h : IMap P ke w b l) (x : κ) :
    ∃ (st : Nat) (o : Obj), (Instr.mapEntry t (.map (some b)) (ke x)).run P w = .ok (.tuple #[.int .i64 (mget l x), goInt st]) (setBlock w b o) ∧ (setBlock w b o).heap[b]? = some o ∧
      (∃ l', IMap P ke (setBlock w b o) b l' ∧ mget l' x = mget l x) ∧
      ∀ (w2 : World) (v : Int), w2.heap[b]? = some o → ∃ o', (Instr.entryStore t (.map (some b)) (goInt st) (.int .i64 v)).run P w2 = .ok () (setBlock w2 b o') ∧ IMap P ke (setBlock w2 b o') b (mset l x v) := by
  obtain ⟨es, clock, hb, hes, s1, s2⟩ := h.here
  have hlt := h.lt
  have here : ∀ (W : World) (o : Obj), b < W.heap.size → (setBlock W b o).heap[b]? = some o := fun W o hw => by simp [setBlock, hw]
  have hf := K.find w x (l.map (·.1)) es.toList (keys_of hes)
  rcases find_idx l x with ⟨i, hi, h1, h2, h3, h4⟩ | ⟨h1, h2, h3, hnot⟩
  · obtain ⟨e0, he, hk, hv⟩ := val_at hes hi
    rw [h1] at hf
    simp only [he, Option.map_some] at hf
    have hj : es[i]? = some e0 := by simpa using he
    have hsame : es.modify i (fun e => { e with key := ke x }) = es := by
      apply Array.ext'
      rw [Array.toList_modify, modify_set _ he]
      have : ({ e0 with key := ke x } : MapEntry) = e0 := by rw [← h2, ← hk]
      rw [this]
      exact Go.WideElems.set_self _ _ _ he
    have hkx : e0.key = ke x := by rw [hk, h2]
    refine ⟨e0.born, .map es clock, ?_, here w _ hlt, ⟨l, h.move ((here w _ hlt).trans hb.symm), rfl⟩, fun w2 v hw2 => ⟨.map (es.modify i fun e => { e with val := .int .i64 v }) clock, ?_, ?_⟩⟩
    · simp [Instr.mapEntry, run_underlying ht, MapKept.run_getObj_map hb, K.check w false x, hf, hj, hkx, K.stays w x, hsame, MapKept.run_setObj_map _ hb, Result.andThen, setBlock, hv, h3]
    · have hidx : es.findIdx? (fun e => ((e.born : Nat) : Int) == ((e0.born : Nat) : Int)) = some i := by
        rw [Go.WideElems.findIdx_arr]
        exact Go.WideElems.findIdx_born s2 he
      simp [Instr.entryStore, MapKept.run_getObj_map hw2, asInt, asIntOf, goInt, hidx, MapKept.run_setObj_map _ hw2, Result.andThen, setBlock]
    · have hlt2 : b < w2.heap.size := (Array.getElem?_eq_some_iff.1 hw2).1
      have hm : (es.modify i fun e => { e with val := .int .i64 v }).toList = es.toList.set i { e0 with val := .int .i64 v } := by rw [Array.toList_modify, modify_set _ he]
      refine ⟨?_, _, clock, here w2 _ hlt2, ?_, ?_, ?_⟩
      · rw [mset_keys, if_pos (by rw [← h2]; exact List.mem_map.2 ⟨l[i], List.getElem_mem hi, rfl⟩)]; exact h.nodup
      · rw [hm, ← h2, mset_at h.nodup hi, List.map_set, List.map_set, hes]
        simp only [hk]
      · intro e hme
        rw [hm] at hme
        rcases List.mem_or_eq_of_mem_set hme with h5 | h5
        · exact s1 e h5
        · rw [h5]; exact s1 e0 (List.mem_of_getElem? he)
      · rw [hm, List.map_set]
        have : (es.toList.map (·.born)).set i e0.born = es.toList.map (·.born) := Go.WideElems.set_self _ _ _ (by rw [List.getElem?_map, he]; rfl)
        simp only [this]
        exact s2
  · rw [h1] at hf
    simp only at hf
    have hnew : ∀ (W : World) (v : Int), b < W.heap.size → IMap P ke (setBlock W b (.map (es.push ⟨ke x, .int .i64 v, clock⟩) (clock + 1))) b (mset l x v) := fun W v hlt2 => by
      refine ⟨?_, _, clock + 1, here W _ hlt2, ?_, ?_, ?_⟩
      · rw [mset_keys, if_neg hnot]
        exact List.nodup_append.2 ⟨h.nodup, by simp, fun a ha c hc e1 => hnot (by rw [List.mem_singleton] at hc; rw [← hc, ← e1]; exact ha)⟩
      · rw [mset_new x v hnot, Array.toList_push, List.map_append, List.map_append, hes]
        simp
      · intro e hme
        rw [Array.toList_push] at hme
        rcases List.mem_append.1 hme with h5 | h5
        · have := s1 e h5; omega
        · rw [List.mem_singleton] at h5; subst h5; simp
      · rw [Array.toList_push, List.map_append]
        refine List.nodup_append.2 ⟨s2, by simp, fun a ha c hc e1 => ?_⟩
        simp only [List.map_cons, List.map_nil, List.mem_singleton] at hc
        obtain ⟨y, hy, rfl⟩ := List.mem_map.1 ha
        have := s1 y hy
        omega
    refine ⟨clock, .map (es.push ⟨ke x, .int .i64 0, clock⟩) (clock + 1), ?_, here w _ hlt, ⟨_, hnew w 0 hlt, by rw [mget_mset, if_pos rfl, h2]⟩, fun w2 v hw2 => ⟨.map (es.push ⟨ke x, .int .i64 v, clock⟩) (clock + 1), ?_, ?_⟩⟩
    · simp [Instr.mapEntry, run_underlying ht, MapKept.run_getObj_map hb, K.check w false x, hf, hz, MapKept.run_setObj_map _ hb, Result.andThen, setBlock, h2]
    · have hidx : (es.push ⟨ke x, .int .i64 0, clock⟩).findIdx? (fun e => ((e.born : Nat) : Int) == ((clock : Nat) : Int)) = some es.size := by
        rw [Go.WideElems.findIdx_arr]
        exact Go.WideElems.findIdx_born (l := (es.push ⟨ke x, .int .i64 0, clock⟩).toList) (j := es.size) (e0 := ⟨ke x, .int .i64 0, clock⟩) (by
          simp only [Array.toList_push, List.map_append, List.map_cons, List.map_nil]
          refine List.nodup_append.2 ⟨s2, by simp, fun a ha c hc e1 => ?_⟩
          simp only [List.mem_singleton] at hc
          obtain ⟨y, hy, rfl⟩ := List.mem_map.1 ha
          have := s1 y hy
          omega) (by simp)
      have hmod : (es.push ⟨ke x, .int .i64 0, clock⟩).modify es.size (fun e => { e with val := .int .i64 v }) = es.push ⟨ke x, .int .i64 v, clock⟩ := by
        apply Array.ext'
        rw [Array.toList_modify, Array.toList_push, Array.toList_push, ← Array.length_toList, Go.WideElems.modify_last]
      simp [Instr.entryStore, MapKept.run_getObj_map hw2, asInt, asIntOf, goInt, hidx, hmod, MapKept.run_setObj_map _ hw2, Result.andThen, setBlock]
    · exact hnew w2 v (Array.getElem?_eq_some_iff.1 hw2).1
theorem IMap.update {t k e : TypeId} (K : KeyOps P k ke) (ht : P.underlying t = some (.map k e)) (h : IMap P ke w b l) (x : κ) (v : Int) :
    ∃ o, (Instr.mapUpdate t (.map (some b)) (ke x) (.int .i64 v)).run P w = .ok () (setBlock w b o) ∧ IMap P ke (setBlock w b o) b (mset l x v) := by
  obtain ⟨es, clock, hb, hes, s1, s2⟩ := h.here
  have hlt := h.lt
  have here : ∀ (W : World) (o : Obj), b < W.heap.size → (setBlock W b o).heap[b]? = some o := fun W o hw => by simp [setBlock, hw]
  have hf := K.find w x (l.map (·.1)) es.toList (keys_of hes)
  rcases find_idx l x with ⟨i, hi, h1, h2, h3, h4⟩ | ⟨h1, h2, h3, hnot⟩
  · obtain ⟨e0, he, hk, hv⟩ := val_at hes hi
    rw [h1] at hf
    simp only [he, Option.map_some] at hf
    have hj : es[i]? = some e0 := by simpa using he
    have hkx : e0.key = ke x := by rw [hk, h2]
    refine ⟨.map (es.modify i fun e => { e with key := ke x, val := .int .i64 v }) clock, ?_, ?_⟩
    · simp [Instr.mapUpdate, run_underlying ht, MapKept.run_getObj_map hb, K.check w false x, hf, hj, hkx, K.stays w x, MapKept.run_setObj_map _ hb, Result.andThen, setBlock]
    · have hm : (es.modify i fun e => { e with key := ke x, val := .int .i64 v }).toList = es.toList.set i { e0 with key := ke x, val := .int .i64 v } := by rw [Array.toList_modify, modify_set _ he]
      refine ⟨?_, _, clock, here w _ hlt, ?_, ?_, ?_⟩
      · rw [mset_keys, if_pos (by rw [← h2]; exact List.mem_map.2 ⟨l[i], List.getElem_mem hi, rfl⟩)]; exact h.nodup
      · rw [hm, ← h2, mset_at h.nodup hi, List.map_set, List.map_set, hes]
      · intro e hme
        rw [hm] at hme
        rcases List.mem_or_eq_of_mem_set hme with h5 | h5
        · exact s1 e h5
        · rw [h5]; exact s1 e0 (List.mem_of_getElem? he)
      · rw [hm, List.map_set]
        have : (es.toList.map (·.born)).set i e0.born = es.toList.map (·.born) := Go.WideElems.set_self _ _ _ (by rw [List.getElem?_map, he]; rfl)
        simp only [this]
        exact s2
  · rw [h1] at hf
    simp only at hf
    refine ⟨.map (es.push ⟨ke x, .int .i64 v, clock⟩) (clock + 1), ?_, ?_⟩
    · simp [Instr.mapUpdate, run_underlying ht, MapKept.run_getObj_map hb, K.check w false x, hf, MapKept.run_setObj_map _ hb, Result.andThen, setBlock]
    · refine ⟨?_, _, clock + 1, here w _ hlt, ?_, ?_, ?_⟩
      · rw [mset_keys, if_neg hnot]
        exact List.nodup_append.2 ⟨h.nodup, by simp, fun a ha c hc e1 => hnot (by rw [List.mem_singleton] at hc; rw [← hc, ← e1]; exact ha)⟩
      · rw [mset_new x v hnot, Array.toList_push, List.map_append, List.map_append, hes]
        simp
      · intro e hme
        rw [Array.toList_push] at hme
        rcases List.mem_append.1 hme with h5 | h5
        · have := s1 e h5; omega
        · rw [List.mem_singleton] at h5; subst h5; simp
      · rw [Array.toList_push, List.map_append]
        refine List.nodup_append.2 ⟨s2, by simp, fun a ha c hc e1 => ?_⟩
        simp only [List.map_cons, List.map_nil, List.mem_singleton] at hc
        obtain ⟨y, hy, rfl⟩ := List.mem_map.1 ha
        have := s1 y hy
        omega
end
theorem setBlock_other {W : World} {b i : Nat} (h : i ≠ b) (o : Obj) : (setBlock W b o).heap[i]? = W.heap[i]? := by
  have hne : b ≠ i := fun e => h e.symm
  simp [setBlock, hne]
end Go.Sy
/- The walk by a symbolic frame: regions that draw their order, with effects: what only reads is taken first, the rest in every order. -/
namespace Go.Sy
set_option linter.unusedVariables false
section
variable {P : Program} {md : Region.Mode} {ops : Array Oper} {pres : Nat → Bool} {C : World → Prop} {Q : Exit → Act → World → Prop}
/-- Whatever order is picked; the operations of 'pres' keep the class C. -/
def wpAnyC (P : Program) (md : Region.Mode) (ops : Array Oper) (pres : Nat → Bool) (C : World → Prop) (Q : Exit → Act → World → Prop) : Nat → Array Bool → Act → World → Prop
  | 0, listed, a, w => Region.ready md ops listed = [] ∧ Q .normal a w
  | fuel + 1, listed, a, w => (Region.ready md ops listed = [] → Q .normal a w) ∧
    ∀ i ∈ Region.ready md ops listed, wpOp P ops Q i (fun a' w' => (pres i = true → C w') ∧ wpAnyC P md ops pres C Q fuel (listed.setIfInBounds i true) a' w') a w
theorem wpAny_of_C : ∀ (fuel : Nat) (listed : Array Bool) (a : Act) (w : World), wpAnyC P md ops pres C Q fuel listed a w → wpAny P md ops Q fuel listed a w
  | 0, _, _, _, h => h
  | fuel + 1, _, _, _, h => ⟨h.1, fun i hi => wpOp_mono (fun a' w' hh => wpAny_of_C fuel _ a' w' hh.2) (h.2 i hi)⟩
/-- In this state the operation yields v, in every world of C, and leaves the world as it is. -/
def Still (P : Program) (ops : Array Oper) (C : World → Prop) (o : Oper) (v : Value) (a : Act) : Prop :=
  (Region.wanted o (yielded ops a.tmps) = true ∧ ∀ w, C w → (execOp a.eval o).run P w = .ok (.value v) w) ∨ (Region.wanted o (yielded ops a.tmps) = false ∧ v = undef)
theorem Still.op {i : Nat} {o : Oper} {v : Value} {a : Act} {w : World} {K : Act → World → Prop} (hi : ops[i]? = some o) (hy : Still P ops C o v a) (hC : C w) (h : K (a.put o.dst v) w) : wpOp P ops Q i K a w := by
  unfold wpOp
  simp only [hi]
  rcases hy with ⟨hw, hv⟩ | ⟨hw, rfl⟩
  · simp only [hw, if_true]; refine .inl ?_; unfold Oper.wp; rw [hv w hC]; exact h
  · simp only [hw, Bool.false_eq_true, if_false]; exact h
/-- No way out but the regular one. -/
def nf (K : Act → World → Prop) : Exit → Act → World → Prop := fun e a w => match e with
  | .normal => K a w
  | _ => False
theorem upon_put {Z : Act → World → Prop} {o : Oper} {d : Option Tmp} {v : Value} {a : Act} {K : Act → World → Prop} (hd : ∀ x, d = some x → o.dst ≠ some x) {r : Result Next} (h : o.upon P (a.put d v) K (nf Z) r) :
    o.upon P a (fun a' w' => K (a'.put d v) w') (nf Z) r := by
  have hc : ∀ (b : Act) u, (b.put d v).put o.dst u = (b.put o.dst u).put d v := fun b u => Act.put_comm b v u hd
  cases r with
  | ok n w' =>
    cases n <;> simp only [Oper.upon] at h ⊢
    case value u => rw [← hc]; exact h
    case skip => rw [← hc]; exact h
    case defer x =>
      have : ({ (a.put d v) with defers := x :: (a.put d v).defers } : Act) = ({ a with defers := x :: a.defers } : Act).put d v := by cases d <;> rfl
      rw [this, hc] at h; exact h
    case enter f args =>
      refine h.mono fun e w'' he => ?_
      cases e with
      | returned u => simp only at he ⊢; rw [← hc]; exact he
      | panicked ch => exact he.elim
      | outgrown => exact he
    case row r args => exact h.mono fun u w'' he => (by rw [← hc]; exact he)
    all_goals exact h
  | halt x w' => cases x <;> simp only [Oper.upon] at h ⊢ <;> exact h
theorem letsOut_nf {Z : Act → World → Prop} : ¬ LetsOut (nf Z) := fun ⟨_, _, h⟩ => h
/-- Another operation, apart from oi: whether oi's value is in its slot already makes no difference to it. -/
theorem wpOp_put {Z : Act → World → Prop} {j : Nat} {oi oj : Oper} {v : Value} {a : Act} {w : World} {K : Act → World → Prop} (hj : ops[j]? = some oj) (hap : oi.apart ops oj = true) (hsj : ∀ cs b, oj.op ≠ .select cs b)
    (h : wpOp P ops (nf Z) j K (a.put oi.dst v) w) : wpOp P ops (nf Z) j (fun a' w' => K (a'.put oi.dst v) w') a w := by
  obtain ⟨h1, h2, h3⟩ := Oper.apart_spec hap
  unfold wpOp at *
  simp only [hj] at *
  rw [wanted_put oj a oi.dst v h1] at h
  split
  · rename_i hw
    simp only [hw, if_true] at h
    rcases h with h | h
    · refine .inl ?_
      unfold Oper.wp at *
      rw [execOp_put oj hsj a oi.dst v h1] at h
      exact upon_put h2 h
    · exact absurd h.2 letsOut_nf
  · rename_i hw
    simp only [hw] at h
    rw [← Act.put_comm a v undef h2]; exact h
theorem upon_keep {Z : Act → World → Prop} {o : Oper} {a : Act} {K : Act → World → Prop} {R : Act → Prop} (hR : ∀ b : Act, b.tmps = a.tmps → ∀ u, R (b.put o.dst u)) {r : Result Next} (h : o.upon P a K (nf Z) r) : o.upon P a (fun a' w' => R a' ∧ K a' w') (nf Z) r := by
  cases r with
  | ok n w' =>
    cases n <;> simp only [Oper.upon] at h ⊢
    case value u => exact ⟨hR a rfl u, h⟩
    case skip => exact ⟨hR a rfl _, h⟩
    case defer x => exact ⟨hR { a with defers := x :: a.defers } rfl _, h⟩
    case enter f args =>
      refine h.mono fun e w'' he => ?_
      cases e with
      | returned u => exact ⟨hR a rfl u, he⟩
      | panicked ch => exact he.elim
      | outgrown => exact he
    case row r args => exact h.mono fun u w'' he => ⟨hR a rfl u, he⟩
    all_goals exact h
  | halt x w' => cases x <;> simp only [Oper.upon] at h ⊢ <;> exact h
theorem Still.of_same {o : Oper} {v : Value} {a a' : Act} (hy : Still P ops C o v a) (he : execOp a'.eval o = execOp a.eval o) (hw : Region.wanted o (yielded ops a'.tmps) = Region.wanted o (yielded ops a.tmps)) : Still P ops C o v a' := by
  unfold Still at *; rw [he, hw]; exact hy
theorem still_keep {oi oj : Oper} {v : Value} {a : Act} (hy : Still P ops C oi v a) (h3 : ∀ d, oj.dst = some d → d ∉ oi.looksAt ops) (hsi : ∀ cs b, oi.op ≠ .select cs b) (b : Act) (hb : b.tmps = a.tmps) (u : Value) : Still P ops C oi v (b.put oj.dst u) := by
  have hb' : Still P ops C oi v b := by
    have he : b.eval = a.eval := by funext x; cases x <;> simp [Act.eval, hb]
    exact hy.of_same (by rw [he]) (by rw [hb])
  exact hb'.of_same (execOp_put oi hsi b oj.dst u h3) (wanted_put oi b oj.dst u h3)
theorem wpOp_keep {Z : Act → World → Prop} {j : Nat} {oi oj : Oper} {v : Value} {a : Act} {w : World} {K : Act → World → Prop} (hj : ops[j]? = some oj) (hap : oi.apart ops oj = true) (hsi : ∀ cs b, oi.op ≠ .select cs b)
    (hy : Still P ops C oi v a) (h : wpOp P ops (nf Z) j K a w) : wpOp P ops (nf Z) j (fun a' w' => Still P ops C oi v a' ∧ K a' w') a w := by
  obtain ⟨h1, h2, h3⟩ := Oper.apart_spec hap
  unfold wpOp at *
  simp only [hj] at *
  split
  · rename_i hw
    simp only [hw, if_true] at h
    rcases h with h | h
    · exact .inl (upon_keep (fun b hb u => still_keep hy h3 hsi b hb u) h)
    · exact absurd h.2 letsOut_nf
  · rename_i hw
    simp only [hw] at h
    exact ⟨still_keep hy h3 hsi a rfl _, h⟩
/-- An operation that only reads may be taken first. -/
theorem wpAnyC_first {Z : Act → World → Prop} {i : Nat} {oi : Oper} {v : Value} (hi : ops[i]? = some oi) (hsel : ∀ (j : Nat) (o : Oper) cs b, ops[j]? = some o → o.op ≠ .select cs b)
    (hpre : ∀ j oj, ops[j]? = some oj → pres j = false → ∃ e ∈ oj.after, Region.binds md e = true ∧ e.on = i) : ∀ (fuel : Nat) (listed : Array Bool) (a : Act) (w : World),
    (∀ j oj, ops[j]? = some oj → j ≠ i → listed.getD j true = false → (∀ e ∈ oj.after, Region.binds md e = true → e.on ≠ i) → oi.apart ops oj = true) →
    i ∈ Region.ready md ops listed → C w → Still P ops C oi v a → wpAnyC P md ops pres C (nf Z) fuel (listed.setIfInBounds i true) (a.put oi.dst v) w → wpAnyC P md ops pres C (nf Z) (fuel + 1) listed a w := by
  intro fuel
  induction fuel with
  | zero =>
    intro listed a w hfree hr hC hy H
    refine ⟨fun h => (by rw [h] at hr; cases hr), fun j hj => ?_⟩
    by_cases hji : j = i
    · subst hji; exact hy.op hi hC ⟨fun _ => hC, H⟩
    · have := ready_mono hj hji
      rw [H.1] at this; cases this
  | succ fuel ih =>
    intro listed a w hfree hr hC hy H
    refine ⟨fun h => (by rw [h] at hr; cases hr), fun j hj => ?_⟩
    by_cases hji : j = i
    · subst hji; exact hy.op hi hC ⟨fun _ => hC, H⟩
    · have h1 := H.2 j (ready_mono hj hji)
      obtain ⟨hjun, oj, hoj, hall⟩ := mem_ready.1 hj
      have hnot : ∀ e ∈ oj.after, Region.binds md e = true → e.on ≠ i := fun e he hb heq => by
        have h1 := hall e he hb
        have h0 := (mem_ready.1 hr).1
        rw [heq] at h1
        rcases Nat.lt_or_ge i listed.size with h' | h'
        · simp [h'] at h0 h1; rw [h0] at h1; cases h1
        · simp [Array.getElem?_eq_none h'] at h1
      have hpj : pres j = true := by
        cases hp : pres j with
        | true => rfl
        | false => obtain ⟨e, he, hb, heq⟩ := hpre j oj hoj hp; exact absurd heq (hnot e he hb)
      have hap := hfree j oj hoj hji hjun hnot
      have h2 := wpOp_keep hoj hap (fun cs b => hsel i oi cs b hi) hy (wpOp_put hoj hap (fun cs b => hsel j oj cs b hoj) h1)
      have hfree' : ∀ k ok, ops[k]? = some ok → k ≠ i → (listed.setIfInBounds j true).getD k true = false → (∀ e ∈ ok.after, Region.binds md e = true → e.on ≠ i) → oi.apart ops ok = true := fun k ok hk hki hun hno => by
        refine hfree k ok hk hki ?_ hno
        by_cases hjk : j = k
        · subst hjk; exact hjun
        · rw [getD_set_ne true hjk] at hun; exact hun
      refine wpOp_mono (fun a' w' h3 => ?_) h2
      obtain ⟨h4, h5, h6⟩ := h3
      refine ⟨h5, ih (listed.setIfInBounds j true) a' w' hfree' (ready_mono hr (Ne.symm hji)) (h5 hpj) h4 ?_⟩
      rw [Array.setIfInBounds_comm _ _ hji]
      exact h6
/-- These, in this order, may be taken first. -/
def preB (md : Region.Mode) (ops : Array Oper) (pres : Nat → Bool) : List Nat → Array Bool → Bool
  | [], _ => true
  | i :: r, listed => (Region.ready md ops listed).contains i && Region.free md ops listed i &&
    ((List.range ops.size).all fun j => pres j || match ops[j]? with
      | some oj => oj.after.any fun e => Region.binds md e && e.on == i
      | none => true) && preB md ops pres r (listed.setIfInBounds i true)
def lst : List Nat → Array Bool → Array Bool
  | [], l => l
  | i :: r, l => lst r (l.setIfInBounds i true)
def selE (l : List Oper) : List Nat → Option (List Oper)
  | [] => some []
  | i :: r => match nth l i with
    | some o => match selE l r with
      | some x => some (o :: x)
      | none => none
    | none => none
end
section
variable {P : Program} {T : List (Nat × TI)} {F : Fr} {tm : Tm} {L : Lm} {u : Hp} {β : Nat → Nat} {a : Act} {w : World} {Q : Exit → Act → World → Prop}
def keysOf {α : Type} : List (Nat × α) → List Nat
  | [] => []
  | (k, _) :: r => k :: keysOf r
theorem keysOf_get {α : Type} : ∀ {l : List (Nat × α)} {i : Nat}, i ∈ keysOf l ↔ (kget l i).isSome = true
  | [], i => by simp [keysOf, kget]
  | (k, x) :: r, i => by
    simp only [keysOf, List.mem_cons, kget_cons, keysOf_get (l := r)]
    by_cases h : k = i
    · subst h; simp
    · rw [if_neg h]; constructor
      · rintro (rfl | h'); exact absurd rfl h; exact h'
      · exact .inr
/-- The fence: what stood in the frame as the region began. -/
def fen (F : Fr) (L : Lm) (β0 : Nat → Nat) : Fr := ⟨F.k, F.N, F.n, keysOf L, β0⟩
def Cls (F : Fr) (L : Lm) (u : Hp) (β0 : Nat → Nat) : World → Prop := fun w => Den β0 L u F.k F.N w
/-- All orders of what is left of a region. -/
abbrev Ex (P : Program) (l : List Oper) (pres : Nat → Bool) (C : World → Prop) (Z : Act → World → Prop) (fuel : Nat) (listed : Array Bool) : Act → World → Prop :=
  fun a w => wpAnyC P .any l.toArray pres C (nf Z) fuel listed a w
/-- One operation, then all orders of the rest. -/
abbrev NextQ (P : Program) (l : List Oper) (pres : Nat → Bool) (C : World → Prop) (Z : Act → World → Prop) (fuel : Nat) (listed : Array Bool) (i : Nat) : Act → World → Prop :=
  fun a w => (pres i = true → C w) ∧ wpAnyC P .any l.toArray pres C (nf Z) fuel (listed.setIfInBounds i true) a w
def AllR (P : Program) (F : Fr) (tm : Tm) (L : Lm) (u : Hp) (l : List Oper) (pres : Nat → Bool) (C : World → Prop) (Z : Act → World → Prop) (fuel : Nat) (listed : Array Bool) : List Nat → Prop
  | [] => True
  | i :: r => (∃ o, nth l i = some o ∧ Run P (nf (NextQ P l pres C Z fuel listed i)) F tm L u .seq l [o]) ∧ AllR P F tm L u l pres C Z fuel listed r
theorem AllR.get {pres : Nat → Bool} {C : World → Prop} {Z : Act → World → Prop} {l : List Oper} {fuel : Nat} {listed : Array Bool} : ∀ {rs : List Nat}, AllR P F tm L u l pres C Z fuel listed rs → ∀ i ∈ rs, ∃ o, nth l i = some o ∧ Run P (nf (NextQ P l pres C Z fuel listed i)) F tm L u .seq l [o]
  | [], _, i, hi => by cases hi
  | j :: r, h, i, hi => by
    rcases List.mem_cons.1 hi with rfl | hi
    · exact h.1
    · exact AllR.get h.2 i hi
theorem a_step {pres : Nat → Bool} {C : World → Prop} {Z : Act → World → Prop} {l : List Oper} {fuel : Nat} {listed : Array Bool} {rs : List Nat} (hr : Region.ready .any l.toArray listed = rs) (hne : rs ≠ []) (h : AllR P F tm L u l pres C Z fuel listed rs) :
    St F tm L u (Ex P l pres C Z (fuel + 1) listed) := by
  intro β a w hf ht hd
  refine ⟨fun h0 => absurd (hr.symm.trans h0) hne, fun i hi => ?_⟩
  rw [hr] at hi
  obtain ⟨o, ho, hR⟩ := h.get i hi
  rw [nth_eq] at ho
  unfold wpOp
  have ho' : l.toArray[i]? = some o := by simpa using ho
  simp only [ho']
  have := hR β a w hf ht hd
  have H' : (if Region.wanted o (yielded l.toArray a.tmps) then _ else _) := this
  split
  · rename_i hw; rw [if_pos hw] at H'
    rcases H' with H' | H'
    · exact .inl H'
    · exact absurd H'.2 letsOut_nf
  · rename_i hw; rw [if_neg hw] at H'; exact H'
theorem cls_of {L0 : Lm} {u0 : Hp} {F0 : Fr} {β0 : Nat → Nat} (hL : kall L L0) (hc : Lm.cl L0 = true) (hu : Le u0 u) (hf : Fence (fen F0 L0 β0) L β) (hd : Den β L u F0.k F0.N w) : Cls F0 L0 u0 β0 w := by
  have hb : ∀ i, (kget L0 i).isSome = true → β0 i = β i := fun i hi => ((hf i (keysOf_get.2 hi)).1).symm
  have hl : ∀ i, (kget L0 i).isSome = true → (kget L i).isSome = true := fun i hi => by
    obtain ⟨B, hB⟩ := Option.isSome_iff_exists.1 hi
    rw [kall_get hL i B hB]; rfl
  have hk : ∀ i B, kget L0 i = some B → SV.oks L0 B.cells = true := fun i B hB => List.all_eq_true.1 hc _ (kget_mem hB)
  refine ⟨fun i B hB => ?_, fun i j hi hj e => hd.inj i j (hl i hi) (hl j hj) (by rw [← hb i hi, ← hb j hj]; exact e), fun b o hbo => ⟨(hd.ext b o (hu b o hbo)).1, fun i hi e => (hd.ext b o (hu b o hbo)).2 i (hl i hi) (by rw [← hb i hi]; exact e)⟩,
    fun b o hbo => ⟨(hd.hid b o hbo).1, ?_, fun i hi e => (hd.hid b o hbo).2.2 i (hl i hi) (by rw [← hb i hi]; exact e)⟩, hd.size⟩
  · have hi : (kget L0 i).isSome = true := by rw [hB]; rfl
    obtain ⟨h1, h2, h3⟩ := hd.loc i B (kall_get hL i B hB)
    refine ⟨?_, fun b hb' => (hb i hi).trans (h2 b hb'), hk i B hB⟩
    rw [hb i hi, dens_same hb _ (hk i B hB)]; exact h1
  · cases hx : u0 b with
    | none => rfl
    | some o' => have := hu b o' hx; rw [(hd.hid b o hbo).2.1] at this; cases this
theorem a_keep {L0 : Lm} {u0 : Hp} {F0 : Fr} {β0 : Nat → Nat} {pres : Nat → Bool} {Z : Act → World → Prop} {l : List Oper} {fuel : Nat} {listed listed' : Array Bool} {i : Nat} (hL : kall L L0) (hc : Lm.cl L0 = true) (hu : Le u0 u) (hl : listed.setIfInBounds i true = listed')
    (h : St (fen F0 L0 β0) tm L u (Ex P l pres (Cls F0 L0 u0 β0) Z fuel listed')) : St (fen F0 L0 β0) tm L u (nf (NextQ P l pres (Cls F0 L0 u0 β0) Z fuel listed i) .normal) := by
  subst hl
  exact fun β a w hf ht hd => ⟨fun _ => cls_of hL hc hu hf hd, h β a w hf ht hd⟩
theorem a_late {C : World → Prop} {pres : Nat → Bool} {Z : Act → World → Prop} {l : List Oper} {fuel : Nat} {listed listed' : Array Bool} {i : Nat} (hp : pres i = false) (hl : listed.setIfInBounds i true = listed')
    (h : St F tm L u (Ex P l pres C Z fuel listed')) : St F tm L u (nf (NextQ P l pres C Z fuel listed i) .normal) := by
  subst hl
  exact fun β a w hf ht hd => ⟨fun hh => (by rw [hp] at hh; cases hh), h β a w hf ht hd⟩
theorem a_end {L0 : Lm} {β0 : Nat → Nat} {C : World → Prop} {pres : Nat → Bool} {Z : Act → World → Prop} {l : List Oper} {listed : Array Bool} (hr : Region.ready .any l.toArray listed = []) (hK : F.K = []) (h : St F tm L u Z) :
    St (fen F L0 β0) tm L u (Ex P l pres C Z 0 listed) :=
  fun β a w hf ht hd => ⟨hr, h β a w (fun i hi => by rw [hK] at hi; cases hi) ht hd⟩
/-- Cut: code ends in one of a family of frames; what follows goes on from there. -/
def CutQ {γ : Type} (F : Fr) (I : γ → Prop) (Tf : γ → Tm) (M : γ → Lm) (U : γ → Hp) (Q : Exit → Act → World → Prop) : Exit → Act → World → Prop
  | .normal, a, w => ∃ g, I g ∧ InSt F (Tf g) (M g) (U g) a w
  | e, a, w => Q e a w
theorem r_cut {γ : Type} {c : Code} (I : γ → Prop) (Tf : γ → Tm) (M : γ → Lm) (U : γ → Hp) (h1 : St F tm L u (fun a w => c.wp P (CutQ F I Tf M U Q) a w)) (h2 : ∀ g, I g → St F (Tf g) (M g) (U g) (Q .normal)) :
    St F tm L u (fun a w => c.wp P Q a w) :=
  h1.imp fun a w h => wp_mono h fun e a w hq => by
    cases e with
    | normal => obtain ⟨g, hg, hin⟩ := hq; exact hin.use (h2 g hg)
    | _ => exact hq
theorem x_cut {γ : Type} {I : γ → Prop} {Tf : γ → Tm} {M : γ → Lm} {U : γ → Hp} (g : γ) (hI : I g) (h : St F tm L u (InSt F (Tf g) (M g) (U g))) : St F tm L u (CutQ F I Tf M U Q .normal) := h.imp fun _ _ h => ⟨g, hI, h⟩
end
end Go.Sy
/- The walk by a symbolic frame: maps, structs compared and built, blocks lent to a call. -/
namespace Go.Sy
set_option linter.unusedVariables false
set_option linter.unusedSimpArgs false
set_option linter.unusedSectionVars false
open Go.ChangeMaps
section
variable {P : Program} {T : List (Nat × TI)} {F : Fr} {tm : Tm} {L : Lm} {u : Hp} {n : FN} {N : World} {β : Nat → Nat} {k : Hp} {a : Act} {w : World} {Q : Exit → Act → World → Prop} {κ : Type} [DecidableEq κ] {ke : κ → Value}
/-- Block g is a map that holds just m. -/
def MAt (P : Program) (ke : κ → Value) (u : Hp) (g : Nat) (m : List (κ × Int)) : Prop := ∃ o, u g = some o ∧ ∀ w : World, w.heap[g]? = some o → IMap P ke w g m
theorem MAt.same {u' : Hp} {g : Nat} {m : List (κ × Int)} (h : MAt P ke u g m) (hu : u' g = u g) : MAt P ke u' g m := let ⟨o, h1, h2⟩ := h; ⟨o, hu.trans h1, h2⟩
theorem MAt.le {u' : Hp} {g : Nat} {m : List (κ × Int)} (h : MAt P ke u g m) (hu : Le u u') : MAt P ke u' g m := let ⟨o, h1, h2⟩ := h; ⟨o, hu _ _ h1, h2⟩
theorem MAt.made (P : Program) (ke : κ → Value) (u : Hp) (g : Nat) : MAt P ke (upd u g (.map #[] 0)) g [] :=
  ⟨_, upd_here .., fun w hw => ⟨by simp, #[], 0, hw, by simp, by simp, by simp⟩⟩
theorem MAt.imap (hd : Den β L u k N w) {g : Nat} {m : List (κ × Int)} (h : MAt P ke u g m) : IMap P ke w g m := let ⟨o, h1, h2⟩ := h; h2 w (hd.ext g o h1).1
theorem upd_setBlock {g : Nat} {o o' : Obj} (hg : w.heap[g]? = some o) : Upd1 w (setBlock w g o') g o' :=
  ⟨by simp [setBlock], by have := (Array.getElem?_eq_some_iff.1 hg).1; simp [setBlock, this], fun x hx => setBlock_other hx o', rfl, rfl, rfl, Nat.le_refl _⟩
theorem mat_new {g : Nat} {m : List (κ × Int)} {o o' : Obj} (hg : w.heap[g]? = some o) (h : IMap P ke (setBlock w g o') g m) : MAt P ke (upd u g o') g m :=
  ⟨o', upd_here .., fun w' hw' => h.move (hw'.trans (upd_setBlock (o' := o') hg).here.symm)⟩
/-- make(map..) -/
theorem r_mkmap {l : List Oper} {o : Oper} {r : List Oper} {d : Nat} {t : TypeId} (hw : wantE l tm o = some true) (ho : o.dst = some d) (hn : Nat.blt d F.n.z = true) (hop : o.op = .makeMap t none)
    (next : ∀ g, u g = none → Run P Q F ((d, .v (.map (some g))) :: tm) L (upd u g (.map #[] 0)) .seq l r) : Run P Q F tm L u .seq l (o :: r) := by
  refine op_any hw ho hn (fun β a w hf ht' hd => ?_)
  refine ⟨β, w.alloc (.map #[] 0), .v (.map (some w.heap.size)), L, _, ?_, hf, ht', den_ext_new hd (w' := w.alloc (.map #[] 0)) rfl ⟨rfl, rfl, rfl, Nat.le_refl _⟩, rfl, next w.heap.size hd.fresh⟩
  simp [execOp, hop, Instr.makeMap, newObj, Sem.run, SV.den]
/-- m[k] -/
theorem r_look {q : Md} {l : List Oper} {o : Oper} {r : List Oper} {d : Nat} {t kt e : TypeId} {x y : Operand} {g : Nat} {s : SV} {m : List (κ × Int)} (K : KeyOps P kt ke) (key : κ) (hM : MAt P ke u g m) (ht : P.underlying t = some (.map kt e)) (hz : ∀ u : World, (zeroValue e).run P u = .ok (.int .i64 0) u)
    (hw : wantE l tm o = some true) (ho : o.dst = some d) (hn : Nat.blt d F.n.z = true) (hop : o.op = .lookup t x y false) (hx : ev tm x = some (.v (.map (some g)))) (hy : ev tm y = some s) (hs : valE L s = some (ke key))
    (next : Run P Q F ((d, .v (.int .i64 (mget m key))) :: tm) L u q l r) : Run P Q F tm L u q l (o :: r) := by
  refine op_pure hw ho hn (fun β a w ht' hd => ⟨?_, rfl⟩) next
  have := (hM.imap hd).lookup K ht hz key false
  simp [execOp, hop, ev_ok ht' hx, ev_ok ht' hy, valE_den hd.bn hs, SV.den, this]
/-- v, ok := m[k] -/
theorem r_lookok {q : Md} {l : List Oper} {o : Oper} {r : List Oper} {d : Nat} {t kt e : TypeId} {x y : Operand} {g : Nat} {s : SV} {m : List (κ × Int)} (K : KeyOps P kt ke) (key : κ) (hM : MAt P ke u g m) (ht : P.underlying t = some (.map kt e)) (hz : ∀ u : World, (zeroValue e).run P u = .ok (.int .i64 0) u)
    (hw : wantE l tm o = some true) (ho : o.dst = some d) (hn : Nat.blt d F.n.z = true) (hop : o.op = .lookup t x y true) (hx : ev tm x = some (.v (.map (some g)))) (hy : ev tm y = some s) (hs : valE L s = some (ke key))
    (next : Run P Q F ((d, .tu [.v (.int .i64 (mget m key)), .v (.bool (mhas m key))]) :: tm) L u q l r) : Run P Q F tm L u q l (o :: r) := by
  refine op_pure hw ho hn (fun β a w ht' hd => ⟨?_, rfl⟩) next
  have := (hM.imap hd).lookup K ht hz key true
  simp [execOp, hop, ev_ok ht' hx, ev_ok ht' hy, valE_den hd.bn hs, SV.den, SV.dens, this]
/-- m[k] = v -/
theorem r_mapset {l : List Oper} {o : Oper} {r : List Oper} {t kt e : TypeId} {x y z : Operand} {g : Nat} {s : SV} {v : Int} {m : List (κ × Int)} (K : KeyOps P kt ke) (key : κ) (hM : MAt P ke u g m) (ht : P.underlying t = some (.map kt e))
    (hw : wantE l tm o = some true) (ho : o.dst = none) (hop : o.op = .mapUpdate t x y z ∨ o.op = .insert t x y z) (hx : ev tm x = some (.v (.map (some g)))) (hy : ev tm y = some s) (hs : valE L s = some (ke key)) (hv : ev tm z = some (.v (.int .i64 v)))
    (next : ∀ u', MAt P ke u' g (mset m key v) → (∀ x, x ≠ g → u' x = u x) → Run P Q F tm L u' .seq l r) : Run P Q F tm L u .seq l (o :: r) := by
  refine op_any_skip hw ho (fun β a w hf ht' hd => ?_)
  have hM' := hM
  obtain ⟨o0, h1, _⟩ := hM'
  have hg := (hd.ext g o0 h1).1
  obtain ⟨o', h2, h3⟩ := (MAt.imap hd hM).update K ht key v
  refine ⟨β, setBlock w g o', L, upd u g o', ?_, hf, ht', den_ext_set hd h1 (upd_setBlock hg), next _ (mat_new hg h3) (fun x hx => upd_ne hx)⟩
  rcases hop with hop | hop <;> simp [execOp, hop, ev_ok ht' hx, ev_ok ht' hy, ev_ok ht' hv, valE_den hd.bn hs, SV.den, h2]
/-- The stamp of an entry: between its making and the store. -/
def Stamp (P : Program) (ke : κ → Value) (u : Hp) (t : TypeId) (g : Nat) (m : List (κ × Int)) (key : κ) (st : Nat) : Prop :=
  ∃ o, u g = some o ∧ ∀ (w : World) (v : Int), w.heap[g]? = some o → ∃ o', (Instr.entryStore t (.map (some g)) (goInt st) (.int .i64 v)).run P w = .ok () (setBlock w g o') ∧ IMap P ke (setBlock w g o') g (mset m key v)
/-- m[k] op= v: the entry -/
theorem r_entry {l : List Oper} {o : Oper} {r : List Oper} {d : Nat} {t kt e : TypeId} {x y : Operand} {g : Nat} {s : SV} {m : List (κ × Int)} (K : KeyOps P kt ke) (key : κ) (hM : MAt P ke u g m) (ht : P.underlying t = some (.map kt e)) (hz : ∀ u : World, (zeroValue e).run P u = .ok (.int .i64 0) u)
    (hw : wantE l tm o = some true) (ho : o.dst = some d) (hn : Nat.blt d F.n.z = true) (hop : o.op = .mapEntry t x y) (hx : ev tm x = some (.v (.map (some g)))) (hy : ev tm y = some s) (hs : valE L s = some (ke key))
    (next : ∀ u' st m', Stamp P ke u' t g m key st → MAt P ke u' g m' → mget m' key = mget m key → (∀ x, x ≠ g → u' x = u x) → Run P Q F ((d, .tu [.v (.int .i64 (mget m key)), .v (.int .i64 (st : Int))]) :: tm) L u' .seq l r) : Run P Q F tm L u .seq l (o :: r) := by
  refine op_any hw ho hn (fun β a w hf ht' hd => ?_)
  have hM' := hM
  obtain ⟨o0, h1, _⟩ := hM'
  have hg := (hd.ext g o0 h1).1
  obtain ⟨st, o', h2, h3, ⟨m', h4, h5⟩, h6⟩ := (MAt.imap hd hM).entry K ht hz key
  refine ⟨β, setBlock w g o', .tu [.v (.int .i64 (mget m key)), .v (.int .i64 (st : Int))], L, upd u g o', ?_, hf, ht', den_ext_set hd h1 (upd_setBlock hg), rfl, next _ st m' ⟨o', upd_here .., h6⟩ (mat_new hg h4) h5 (fun x hx => upd_ne hx)⟩
  simp [execOp, hop, ev_ok ht' hx, ev_ok ht' hy, valE_den hd.bn hs, SV.den, SV.dens, h2, goInt]
theorem r_estore {l : List Oper} {o : Oper} {r : List Oper} {t : TypeId} {x y z : Operand} {g st : Nat} {v : Int} {m : List (κ × Int)} (key : κ) (hS : Stamp P ke u t g m key st)
    (hw : wantE l tm o = some true) (ho : o.dst = none) (hop : o.op = .entryStore t x y z) (hx : ev tm x = some (.v (.map (some g)))) (hy : ev tm y = some (.v (.int .i64 (st : Int)))) (hv : ev tm z = some (.v (.int .i64 v)))
    (next : ∀ u', MAt P ke u' g (mset m key v) → (∀ x, x ≠ g → u' x = u x) → Run P Q F tm L u' .seq l r) : Run P Q F tm L u .seq l (o :: r) := by
  refine op_any_skip hw ho (fun β a w hf ht' hd => ?_)
  obtain ⟨o0, h1, h2⟩ := hS
  have hg := (hd.ext g o0 h1).1
  obtain ⟨o', h3, h4⟩ := h2 w v hg
  refine ⟨β, setBlock w g o', L, upd u g o', ?_, hf, ht', den_ext_set hd h1 (upd_setBlock hg), next _ (mat_new hg h4) (fun x hx => upd_ne hx)⟩
  simp only [goInt] at h3
  simp [execOp, hop, ev_ok ht' hx, ev_ok ht' hy, ev_ok ht' hv, SV.den, h3]
/-- Structs compared. -/
theorem r_eqs {q : Md} {l : List Oper} {o : Oper} {r : List Oper} {d : Nat} {op : BinOp} {t t' : TypeId} {x y : Operand} {cs ds : List SV} {xs ys : List Value} {b : Bool} (heq : ∀ w, (Op.equalIn Op.maxDepth t (.agg xs.toArray) (.agg ys.toArray)).run P w = .ok b w) (hg : P.eqGuardType P.depth t = false)
    (hb : op = .eql ∨ op = .neq) (hw : wantE l tm o = some true) (ho : o.dst = some d) (hn : Nat.blt d F.n.z = true) (hop : o.op = .binOp op t x y t') (hx : ev tm x = some (.ag cs)) (hy : ev tm y = some (.ag ds)) (hxs : valsE L cs = some xs) (hys : valsE L ds = some ys)
    (next : Run P Q F ((d, .v (.bool (match op with | .eql => b | _ => !b))) :: tm) L u q l r) : Run P Q F tm L u q l (o :: r) := by
  refine op_pure hw ho hn (fun β a w ht' hd => ⟨?_, rfl⟩) next
  have h1 : a.eval x = .agg xs.toArray := by rw [ev_ok ht' hx, SV.den, valsE_den hd.bn hxs]
  have h2 : a.eval y = .agg ys.toArray := by rw [ev_ok ht' hy, SV.den, valsE_den hd.bn hys]
  have hg' : (eqGuard op t x y (.agg xs.toArray) (.agg ys.toArray)).run P w = .ok () w := by
    rcases hb with rfl | rfl <;> simp [eqGuard, program, Sem.run, hg]
  rcases hb with rfl | rfl <;> simp [execOp, hop, h1, h2, hg', binOp, Op.equal, heq w, SV.den]
/-- a struct built -/
def buildE (T : List (Nat × TI)) (tm : Tm) (fs : List (Nat × Nat × Bool)) : List SV → List (Nat × Operand) → Option (List SV)
  | cs, [] => some cs
  | cs, (i, x) :: r => match nth fs i with
    | some (o, sz, g) => match ev tm x with
      | some s => match cellsE g s with
        | some vs => match lenIs vs sz with
          | true => match setE cs o vs with
            | some cs' => buildE T tm fs cs' r
            | none => none
          | false => none
        | none => none
      | none => none
    | none => none
theorem buildE_fill {T : List (Nat × TI)} {fs : List (Nat × Nat × Bool)} {places : Array (Nat × Nat)} (hp : ∀ i o sz g, nth fs i = some (o, sz, g) → places[i]? = some (o, sz)) (ht : RelT n L β tm a) : ∀ {ps : List (Nat × Operand)} {cs r : List SV}, buildE T tm fs cs ps = some r → SV.oks L cs = true →
    Instr.fill (places[·]?) (SV.dens β cs).toArray (ps.map fun p => (p.1, a.eval p.2)) = some (SV.dens β r).toArray ∧ SV.oks L r = true
  | [], cs, r, h, hk => by simp only [buildE, Option.some.injEq] at h; subst h; exact ⟨rfl, hk⟩
  | (i, x) :: ps, cs, r, h, hk => by
    simp only [buildE] at h
    split at h
    · rename_i o sz g hn
      split at h
      · rename_i s hs
        split at h
        · rename_i vs hvs
          split at h
          · rename_i hl
            split at h
            · rename_i cs' hset
              obtain ⟨g1, g2⟩ := cellsE_ok (β := β) hvs (ev_oks ht hs)
              obtain ⟨e1, rfl⟩ := setE_eq _ _ _ _ hset
              have hok : SV.oks L (setL cs o vs) = true := by
                rw [oks_all] at *
                refine List.all_eq_true.2 fun y hy => ?_
                simp only [setL, List.mem_append] at hy
                rcases hy with hy | hy | hy
                · exact List.all_eq_true.1 hk y (List.mem_of_mem_take hy)
                · exact List.all_eq_true.1 g2 y hy
                · exact List.all_eq_true.1 hk y (List.mem_of_mem_drop hy)
              obtain ⟨i1, i2⟩ := buildE_fill hp ht h hok
              refine ⟨?_, i2⟩
              have hlen : (SV.dens β vs).length = sz := by rw [dens_map]; simpa using lenIs_eq hl
              have hc : (a.eval x).cells = (SV.dens β vs).toArray := by rw [ev_ok ht hs, g1]
              have hs1 : ((a.eval x).cells.size ≠ sz || o + (a.eval x).cells.size > (SV.dens β cs).toArray.size) = false := by
                rw [hc]
                have : o + vs.length ≤ cs.length := e1
                simp [dens_map]
                have := lenIs_eq hl
                omega
              simp only [List.map_cons, Instr.fill, hp i o sz g hn, hs1, Bool.false_eq_true, if_false]
              have hz : (a.eval x).cells.zipIdx.foldl (fun cs (x : Value × Nat) => cs.setIfInBounds (o + x.2) x.1) (SV.dens β cs).toArray = (SV.dens β (setL cs o vs)).toArray := by
                rw [hc]
                have := fold_set (SV.dens β cs) o (SV.dens β vs) 0 (by simp [dens_map]; exact e1)
                simp only [Nat.add_zero] at this
                have h3 : SV.dens β (setL cs o vs) = setL (SV.dens β cs) o (SV.dens β vs) := by simp [dens_map, setL]
                rw [h3, ← this, ← Array.foldl_toList]
                simp
              rw [hz]; exact i1
            · cases h
          · cases h
        · cases h
      · cases h
    · cases h
theorem places_run {fields : Array Field} (h : ∀ (i : Nat) (fd : Field), fields[i]? = some fd → cells1 P fd.type ≠ 0) : (fields.mapM (m := Sem) fun f => do pure (f.offset, ← sizeOf f.type)).run P w = .ok (fields.map fun f => (f.offset, cells1 P f.type)) w := by
  have key : ∀ (l : List Field), (∀ fd ∈ l, cells1 P fd.type ≠ 0) → (l.mapM (m := Sem) fun f => do pure (f.offset, ← sizeOf f.type)).run P w = .ok (l.map fun f => (f.offset, cells1 P f.type)) w := by
    intro l
    induction l with
    | nil => intro _; simp
    | cons f l ih =>
      intro hl
      have h1 : (sizeOf f.type).run P w = .ok (cells1 P f.type) w := by
        have := hl f (.head _)
        unfold cells1 at this ⊢
        cases hi : P.info? f.type with
        | none => simp [hi] at this
        | some i => simp [sizeOf, typeInfo, program, Sem.run, hi]
      have h2 := ih (fun fd hfd => hl fd (.tail _ hfd))
      simp only [List.mapM_cons, Sem.run_bind, h1, Result.andThen_ok, Sem.run_pure, h2, List.map_cons]
  have := key fields.toList (fun fd hfd => by
    obtain ⟨i, hi, e⟩ := List.getElem_of_mem hfd
    exact h i fd (by rw [← e]; simp at hi ⊢))
  obtain ⟨fl⟩ := fields
  rw [List.mapM_toArray, Sem.run_map, this]
  simp
theorem r_build (hT : TOK P T) {q : Md} {l : List Oper} {o : Oper} {r : List Oper} {d : Nat} {t : TypeId} {ti : TI} {fs : List (Nat × Nat × Bool)} {ps : List (Nat × Operand)} {z cs : List SV} (hw : wantE l tm o = some true) (ho : o.dst = some d) (hn : Nat.blt d F.n.z = true)
    (hop : o.op = .build t ps.toArray) (ht : kget T t = some ti) (hk : ti.kind = .struct fs) (hz : zcells ti.zero = some z) (hcs : buildE T tm fs z ps = some cs) (hnz : (fs.all fun x => !Nat.beq x.2.1 0) = true)
    (next : Run P Q F ((d, .ag cs) :: tm) L u q l r) : Run P Q F tm L u q l (o :: r) := by
  refine op_pure hw ho hn (fun β a w ht' hd => ?_) next
  obtain ⟨d2, e2, f2⟩ := desc_of hT ht
  rw [hk] at f2
  cases d2 with
  | struct fields =>
    simp only [kfits, decide_eq_true_eq] at f2
    have hplace : ∀ (i o sz : Nat) (g : Bool), nth fs i = some (o, sz, g) → (fields.map fun f => (f.offset, cells1 P f.type))[i]? = some (o, sz) := fun i o sz g h => by
      rw [nth_eq, f2] at h
      simp only [List.getElem?_map, Array.getElem?_toList] at h
      obtain ⟨fd, h1, h2⟩ := Option.map_eq_some_iff.1 h
      simp only [Prod.mk.injEq] at h2
      simp [h1, h2.1, h2.2.1]
    have hne : ∀ (i : Nat) (fd : Field), fields[i]? = some fd → cells1 P fd.type ≠ 0 := fun i fd h e => by
      have h1 : nth fs i = some (fd.offset, cells1 P fd.type, isAggB P fd.type) := by rw [nth_eq, f2]; simp [h]
      rw [nth_eq] at h1
      have := List.all_eq_true.1 hnz _ (List.mem_of_getElem? h1)
      simp [e] at this
    obtain ⟨zv, hzv, hzc⟩ := run_zero (hT t ti ht) w
    obtain ⟨g1, g2⟩ := zcells_eq β L hz
    obtain ⟨i1, i2⟩ := buildE_fill (T := T) hplace ht' hcs g2
    refine ⟨?_, i2⟩
    have hparts : (ps.toArray.map fun p => (p.1, a.eval p.2)).toList = ps.map fun p => (p.1, a.eval p.2) := by simp
    rw [g1, ← hzc] at i1
    simp only [execOp, hop, Instr.build, Sem.run_bind, hzv, Result.andThen_ok, run_und e2, places_run hne, hparts]
    rw [i1]
    simp [SV.den]
  | _ => simp [kfits] at f2
end
end Go.Sy
