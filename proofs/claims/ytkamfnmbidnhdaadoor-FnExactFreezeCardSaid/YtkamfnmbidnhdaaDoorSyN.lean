/- A map with whole numbers: what it holds as a list of keys and numbers; its rules. Over any program; no condition on the keys but how they are compared. -/
import Derived.Test.YtkamfnmbidnhdaaDoorSyM
import Derived.WideKeyEntry
set_option linter.unusedVariables false
set_option linter.unusedSimpArgs false
set_option linter.unusedSectionVars false
namespace Go.Sy
set_option linter.unusedSectionVars false
open Go.RowKit Go.ChangeMaps Go.MapKept
/-- How keys of type kt are compared, and that no check ends the call. -/
structure KeyOps (P : Program) (kt : TypeId) {κ : Type} [DecidableEq κ] (ke : κ → Value) : Prop where
  check : ∀ (w : World) (em : Bool) (x : κ), (Instr.checkKey em 10000 kt (ke x)).run P w = .ok () w
  find : ∀ (w : World) (x : κ) (l : List κ) (es : List MapEntry), es.map (·.key) = l.map ke →
    (Instr.findKey kt (ke x) es).run P w = .ok (match l.findIdx? (fun y => decide (x = y)) with | some i => (es[i]?).map (fun e => (i, e.val)) | none => none) w
  stays : ∀ (w : World) (x : κ), (Instr.keyThatStays (ke x) (ke x)).run P w = .ok (ke x) w
section
variable {κ : Type} [DecidableEq κ]
def mget (l : List (κ × Int)) (x : κ) : Int := ((l.find? (fun p => decide (x = p.1))).map (·.2)).getD 0
def mhas (l : List (κ × Int)) (x : κ) : Bool := (l.find? (fun p => decide (x = p.1))).isSome
def mset : List (κ × Int) → κ → Int → List (κ × Int)
  | [], x, v => [(x, v)]
  | p :: r, x, v => if x = p.1 then (x, v) :: r else p :: mset r x v
theorem mget_mset (l : List (κ × Int)) (x y : κ) (v : Int) : mget (mset l x v) y = if y = x then v else mget l y := by
  induction l with
  | nil =>
    by_cases h : y = x <;> simp [mset, mget, h]
  | cons p r ih =>
    by_cases h : x = p.1
    · rw [mset, if_pos h]
      by_cases h2 : y = x
      · simp [mget, h2]
      · have : ¬ y = p.1 := by rw [← h]; exact h2
        simp [mget, h2, this]
    · rw [mset, if_neg h]
      by_cases h2 : y = p.1
      · have : ¬ y = x := fun e => h (e.symm.trans h2)
        simp only [mget, List.find?_cons, decide_eq_true h2, Option.map_some, Option.getD_some, if_neg this]
      · have e1 : mget (p :: mset r x v) y = mget (mset r x v) y := by simp [mget, h2]
        have e2 : mget (p :: r) y = mget r y := by simp [mget, h2]
        rw [e1, e2, ih]
theorem mhas_mset (l : List (κ × Int)) (x y : κ) (v : Int) : mhas (mset l x v) y = (decide (y = x) || mhas l y) := by
  induction l with
  | nil => by_cases h : y = x <;> simp [mset, mhas, h]
  | cons p r ih =>
    by_cases h : x = p.1
    · rw [mset, if_pos h]
      by_cases h2 : y = x
      · simp [mhas, h2]
      · have : ¬ y = p.1 := by rw [← h]; exact h2
        simp [mhas, h2, this]
    · rw [mset, if_neg h]
      by_cases h2 : y = p.1
      · simp [mhas, h2]
      · have e1 : mhas (p :: mset r x v) y = mhas (mset r x v) y := by simp [mhas, h2]
        have e2 : mhas (p :: r) y = mhas r y := by simp [mhas, h2]
        rw [e1, e2, ih]
theorem mset_keys (l : List (κ × Int)) (x : κ) (v : Int) : (mset l x v).map (·.1) = if x ∈ l.map (·.1) then l.map (·.1) else l.map (·.1) ++ [x] := by
  induction l with
  | nil => simp [mset]
  | cons p r ih =>
    by_cases h : x = p.1
    · simp [mset, h]
    · rw [mset, if_neg h]
      simp only [List.map_cons, ih, List.mem_cons, h, false_or]
      split <;> rfl
theorem mset_length (l : List (κ × Int)) (x : κ) (v : Int) : (mset l x v).length = if x ∈ l.map (·.1) then l.length else l.length + 1 := by
  have := congrArg List.length (mset_keys l x v)
  rw [List.length_map] at this
  rw [this]
  split <;> simp
/-- Block b is a map that holds just l. -/
structure IMap (P : Program) (ke : κ → Value) (w : World) (b : Nat) (l : List (κ × Int)) : Prop where
  nodup : (l.map (·.1)).Nodup
  here : ∃ (es : Array MapEntry) (clock : Nat), w.heap[b]? = some (.map es clock) ∧ es.toList.map (fun e => (e.key, e.val)) = l.map (fun p => (ke p.1, Value.int .i64 p.2)) ∧
    (∀ e ∈ es.toList, e.born < clock) ∧ (es.toList.map (·.born)).Nodup
variable {P : Program} {ke : κ → Value} {w : World} {b : Nat} {l : List (κ × Int)}
theorem IMap.lt (h : IMap P ke w b l) : b < w.heap.size := by
  obtain ⟨es, clock, hb, _⟩ := h.here
  exact (Array.getElem?_eq_some_iff.1 hb).1
theorem IMap.move {w1 : World} (h : IMap P ke w b l) (hw : w1.heap[b]? = w.heap[b]?) : IMap P ke w1 b l := by
  obtain ⟨es, clock, hb, r⟩ := h.here
  exact ⟨h.nodup, es, clock, hw.trans hb, r⟩
theorem IMap.made (P : Program) (ke : κ → Value) (w : World) : IMap P ke (w.alloc (.map #[] 0)) w.heap.size [] := by
  refine ⟨by simp, #[], 0, ?_, by simp, by simp, by simp⟩
  show (w.heap.push _)[w.heap.size]? = _
  simp
theorem keys_of {es : Array MapEntry} (h : es.toList.map (fun e => (e.key, e.val)) = l.map (fun p => (ke p.1, Value.int .i64 p.2))) : es.toList.map (·.key) = (l.map (·.1)).map ke := by
  have := congrArg (List.map Prod.fst) h
  simpa [List.map_map, Function.comp_def] using this
theorem find_idx (l : List (κ × Int)) (x : κ) : (∃ i : Nat, ∃ h : i < l.length, (l.map (·.1)).findIdx? (fun y => decide (x = y)) = some i ∧ l[i].1 = x ∧ mget l x = l[i].2 ∧ mhas l x = true) ∨
    ((l.map (·.1)).findIdx? (fun y => decide (x = y)) = none ∧ mget l x = 0 ∧ mhas l x = false ∧ x ∉ l.map (·.1)) := by
  induction l with
  | nil => right; simp [mget, mhas]
  | cons p r ih =>
    by_cases h : x = p.1
    · left
      exact ⟨0, by simp, by simp [List.findIdx?_cons, h], h.symm, by simp [mget, h], by simp [mhas, h]⟩
    · have e2 : mget (p :: r) x = mget r x := by simp [mget, h]
      have e3 : mhas (p :: r) x = mhas r x := by simp [mhas, h]
      rcases ih with ⟨i, hi, h1, h2, h3, h4⟩ | ⟨h1, h2, h3, h4⟩
      · left
        refine ⟨i + 1, by simpa using hi, ?_, by simpa using h2, by rw [e2, h3]; rfl, by rw [e3, h4]⟩
        simp only [List.map_cons, List.findIdx?_cons, decide_eq_false h, h1]
        rfl
      · right
        refine ⟨?_, by rw [e2, h2], by rw [e3, h3], by simp [h]; simpa using h4⟩
        simp only [List.map_cons, List.findIdx?_cons, decide_eq_false h, h1]
        rfl
theorem val_at {es : Array MapEntry} (h : es.toList.map (fun e => (e.key, e.val)) = l.map (fun p => (ke p.1, Value.int .i64 p.2))) {i : Nat} (hi : i < l.length) : ∃ e, es.toList[i]? = some e ∧ e.key = ke l[i].1 ∧ e.val = .int .i64 l[i].2 := by
  have h1 := congrArg (fun z => z[i]?) h
  simp only [List.getElem?_map, List.getElem?_eq_getElem hi, Option.map_some] at h1
  obtain ⟨e, he, h2⟩ := Option.map_eq_some_iff.1 h1
  simp only [Prod.mk.injEq] at h2
  exact ⟨e, he, h2⟩
theorem IMap.lookup {t k e : TypeId} (K : KeyOps P k ke) (ht : P.underlying t = some (.map k e)) (hz : ∀ u : World, (zeroValue e).run P u = .ok (.int .i64 0) u) (h : IMap P ke w b l) (x : κ) (ok : Bool) :
    (Instr.lookup t (.map (some b)) (ke x) ok).run P w = .ok (if ok then .tuple #[.int .i64 (mget l x), .bool (mhas l x)] else .int .i64 (mget l x)) w := by
  obtain ⟨es, clock, hb, hes, _, _⟩ := h.here
  have hf := K.find w x (l.map (·.1)) es.toList (keys_of hes)
  rcases find_idx l x with ⟨i, hi, h1, h2, h3, h4⟩ | ⟨h1, h2, h3, _⟩
  · obtain ⟨e0, he, _, hv⟩ := val_at hes hi
    rw [h1] at hf
    simp only [he, Option.map_some] at hf
    cases ok <;> simp [Instr.lookup, run_underlying ht, MapKept.run_getObj_map hb, K.check w _ x, hf, Result.andThen, hv, h3, h4]
  · rw [h1] at hf
    simp only at hf
    cases ok <;> simp [Instr.lookup, run_underlying ht, MapKept.run_getObj_map hb, K.check w _ x, hf, Result.andThen, hz, h2, h3]
theorem mset_at (hn : (l.map (·.1)).Nodup) {i : Nat} (hi : i < l.length) (v : Int) : mset l l[i].1 v = l.set i (l[i].1, v) := by
  induction l generalizing i with
  | nil => simp at hi
  | cons p r ih =>
    cases i with
    | zero => simp [mset]
    | succ i =>
      simp only [List.map_cons, List.nodup_cons] at hn
      have hi' : i < r.length := by simpa using hi
      have hne : ¬ r[i].1 = p.1 := fun e => hn.1 (by rw [← e]; exact List.mem_map.2 ⟨r[i], List.getElem_mem hi', rfl⟩)
      simp only [List.getElem_cons_succ, mset, if_neg hne, List.set_cons_succ]
      rw [ih hn.2 hi']
theorem mset_new (x : κ) (v : Int) (h : x ∉ l.map (·.1)) : mset l x v = l ++ [(x, v)] := by
  induction l with
  | nil => rfl
  | cons p r ih =>
    simp only [List.map_cons, List.mem_cons, not_or] at h
    simp only [mset, if_neg h.1, List.cons_append]
    rw [ih h.2]
theorem modify_set {es : List MapEntry} {i : Nat} {e0 : MapEntry} (f : MapEntry → MapEntry) (h : es[i]? = some e0) : es.modify i f = es.set i (f e0) := by
  apply List.ext_getElem?
  intro j
  rw [List.getElem?_modify, List.getElem?_set]
  by_cases e : i = j
  · subst e
    obtain ⟨this, hv⟩ := List.getElem?_eq_some_iff.1 h
    simp [this, hv]
  · simp [e]
/-- 'm[k] = v' and 'm[k] op= ..': the entry's stamp, and the store behind it. -/
theorem IMap.entry {t k e : TypeId} (K : KeyOps P k ke) (ht : P.underlying t = some (.map k e)) (hz : ∀ u : World, (zeroValue e).run P u = .ok (.int .i64 0) u) (h : IMap P ke w b l) (x : κ) :
    ∃ (st : Nat) (o : Obj), (Instr.mapEntry t (.map (some b)) (ke x)).run P w = .ok (.tuple #[.int .i64 (mget l x), goInt st]) (setBlock w b o) ∧ (setBlock w b o).heap[b]? = some o ∧
      (∃ l', IMap P ke (setBlock w b o) b l' ∧ mget l' x = mget l x) ∧
      ∀ (w2 : World) (v : Int), w2.heap[b]? = some o → ∃ o', (Instr.entryStore t (.map (some b)) (goInt st) (.int .i64 v)).run P w2 = .ok () (setBlock w2 b o') ∧ IMap P ke (setBlock w2 b o') b (mset l x v) := by
  obtain ⟨es, clock, hb, hes, s1, s2⟩ := h.here
  have hlt := h.lt
  have here : ∀ (W : World) (o : Obj), b < W.heap.size → (setBlock W b o).heap[b]? = some o := fun W o hw => by simp [setBlock, hw]
  have hf := K.find w x (l.map (·.1)) es.toList (keys_of hes)
  rcases find_idx l x with ⟨i, hi, h1, h2, h3, h4⟩ | ⟨h1, h2, h3, hnot⟩
  · obtain ⟨e0, he, hk, hv⟩ := val_at hes hi
    rw [h1] at hf
    simp only [he, Option.map_some] at hf
    have hj : es[i]? = some e0 := by simpa using he
    have hsame : es.modify i (fun e => { e with key := ke x }) = es := by
      apply Array.ext'
      rw [Array.toList_modify, modify_set _ he]
      have : ({ e0 with key := ke x } : MapEntry) = e0 := by rw [← h2, ← hk]
      rw [this]
      exact Go.WideElems.set_self _ _ _ he
    have hkx : e0.key = ke x := by rw [hk, h2]
    refine ⟨e0.born, .map es clock, ?_, here w _ hlt, ⟨l, h.move ((here w _ hlt).trans hb.symm), rfl⟩, fun w2 v hw2 => ⟨.map (es.modify i fun e => { e with val := .int .i64 v }) clock, ?_, ?_⟩⟩
    · simp [Instr.mapEntry, run_underlying ht, MapKept.run_getObj_map hb, K.check w false x, hf, hj, hkx, K.stays w x, hsame, MapKept.run_setObj_map _ hb, Result.andThen, setBlock, hv, h3]
    · have hidx : es.findIdx? (fun e => ((e.born : Nat) : Int) == ((e0.born : Nat) : Int)) = some i := by
        rw [Go.WideElems.findIdx_arr]
        exact Go.WideElems.findIdx_born s2 he
      simp [Instr.entryStore, MapKept.run_getObj_map hw2, asInt, asIntOf, goInt, hidx, MapKept.run_setObj_map _ hw2, Result.andThen, setBlock]
    · have hlt2 : b < w2.heap.size := (Array.getElem?_eq_some_iff.1 hw2).1
      have hm : (es.modify i fun e => { e with val := .int .i64 v }).toList = es.toList.set i { e0 with val := .int .i64 v } := by rw [Array.toList_modify, modify_set _ he]
      refine ⟨?_, _, clock, here w2 _ hlt2, ?_, ?_, ?_⟩
      · rw [mset_keys, if_pos (by rw [← h2]; exact List.mem_map.2 ⟨l[i], List.getElem_mem hi, rfl⟩)]; exact h.nodup
      · rw [hm, ← h2, mset_at h.nodup hi, List.map_set, List.map_set, hes]
        simp only [hk]
      · intro e hme
        rw [hm] at hme
        rcases List.mem_or_eq_of_mem_set hme with h5 | h5
        · exact s1 e h5
        · rw [h5]; exact s1 e0 (List.mem_of_getElem? he)
      · rw [hm, List.map_set]
        have : (es.toList.map (·.born)).set i e0.born = es.toList.map (·.born) := Go.WideElems.set_self _ _ _ (by rw [List.getElem?_map, he]; rfl)
        simp only [this]
        exact s2
  · rw [h1] at hf
    simp only at hf
    have hnew : ∀ (W : World) (v : Int), b < W.heap.size → IMap P ke (setBlock W b (.map (es.push ⟨ke x, .int .i64 v, clock⟩) (clock + 1))) b (mset l x v) := fun W v hlt2 => by
      refine ⟨?_, _, clock + 1, here W _ hlt2, ?_, ?_, ?_⟩
      · rw [mset_keys, if_neg hnot]
        exact List.nodup_append.2 ⟨h.nodup, by simp, fun a ha c hc e1 => hnot (by rw [List.mem_singleton] at hc; rw [← hc, ← e1]; exact ha)⟩
      · rw [mset_new x v hnot, Array.toList_push, List.map_append, List.map_append, hes]
        simp
      · intro e hme
        rw [Array.toList_push] at hme
        rcases List.mem_append.1 hme with h5 | h5
        · have := s1 e h5; omega
        · rw [List.mem_singleton] at h5; subst h5; simp
      · rw [Array.toList_push, List.map_append]
        refine List.nodup_append.2 ⟨s2, by simp, fun a ha c hc e1 => ?_⟩
        simp only [List.map_cons, List.map_nil, List.mem_singleton] at hc
        obtain ⟨y, hy, rfl⟩ := List.mem_map.1 ha
        have := s1 y hy
        omega
    refine ⟨clock, .map (es.push ⟨ke x, .int .i64 0, clock⟩) (clock + 1), ?_, here w _ hlt, ⟨_, hnew w 0 hlt, by rw [mget_mset, if_pos rfl, h2]⟩, fun w2 v hw2 => ⟨.map (es.push ⟨ke x, .int .i64 v, clock⟩) (clock + 1), ?_, ?_⟩⟩
    · simp [Instr.mapEntry, run_underlying ht, MapKept.run_getObj_map hb, K.check w false x, hf, hz, MapKept.run_setObj_map _ hb, Result.andThen, setBlock, h2]
    · have hidx : (es.push ⟨ke x, .int .i64 0, clock⟩).findIdx? (fun e => ((e.born : Nat) : Int) == ((clock : Nat) : Int)) = some es.size := by
        rw [Go.WideElems.findIdx_arr]
        exact Go.WideElems.findIdx_born (l := (es.push ⟨ke x, .int .i64 0, clock⟩).toList) (j := es.size) (e0 := ⟨ke x, .int .i64 0, clock⟩) (by
          simp only [Array.toList_push, List.map_append, List.map_cons, List.map_nil]
          refine List.nodup_append.2 ⟨s2, by simp, fun a ha c hc e1 => ?_⟩
          simp only [List.mem_singleton] at hc
          obtain ⟨y, hy, rfl⟩ := List.mem_map.1 ha
          have := s1 y hy
          omega) (by simp)
      have hmod : (es.push ⟨ke x, .int .i64 0, clock⟩).modify es.size (fun e => { e with val := .int .i64 v }) = es.push ⟨ke x, .int .i64 v, clock⟩ := by
        apply Array.ext'
        rw [Array.toList_modify, Array.toList_push, Array.toList_push, ← Array.length_toList, Go.WideElems.modify_last]
      simp [Instr.entryStore, MapKept.run_getObj_map hw2, asInt, asIntOf, goInt, hidx, hmod, MapKept.run_setObj_map _ hw2, Result.andThen, setBlock]
    · exact hnew w2 v (Array.getElem?_eq_some_iff.1 hw2).1
theorem IMap.update {t k e : TypeId} (K : KeyOps P k ke) (ht : P.underlying t = some (.map k e)) (h : IMap P ke w b l) (x : κ) (v : Int) :
    ∃ o, (Instr.mapUpdate t (.map (some b)) (ke x) (.int .i64 v)).run P w = .ok () (setBlock w b o) ∧ IMap P ke (setBlock w b o) b (mset l x v) := by
  obtain ⟨es, clock, hb, hes, s1, s2⟩ := h.here
  have hlt := h.lt
  have here : ∀ (W : World) (o : Obj), b < W.heap.size → (setBlock W b o).heap[b]? = some o := fun W o hw => by simp [setBlock, hw]
  have hf := K.find w x (l.map (·.1)) es.toList (keys_of hes)
  rcases find_idx l x with ⟨i, hi, h1, h2, h3, h4⟩ | ⟨h1, h2, h3, hnot⟩
  · obtain ⟨e0, he, hk, hv⟩ := val_at hes hi
    rw [h1] at hf
    simp only [he, Option.map_some] at hf
    have hj : es[i]? = some e0 := by simpa using he
    have hkx : e0.key = ke x := by rw [hk, h2]
    refine ⟨.map (es.modify i fun e => { e with key := ke x, val := .int .i64 v }) clock, ?_, ?_⟩
    · simp [Instr.mapUpdate, run_underlying ht, MapKept.run_getObj_map hb, K.check w false x, hf, hj, hkx, K.stays w x, MapKept.run_setObj_map _ hb, Result.andThen, setBlock]
    · have hm : (es.modify i fun e => { e with key := ke x, val := .int .i64 v }).toList = es.toList.set i { e0 with key := ke x, val := .int .i64 v } := by rw [Array.toList_modify, modify_set _ he]
      refine ⟨?_, _, clock, here w _ hlt, ?_, ?_, ?_⟩
      · rw [mset_keys, if_pos (by rw [← h2]; exact List.mem_map.2 ⟨l[i], List.getElem_mem hi, rfl⟩)]; exact h.nodup
      · rw [hm, ← h2, mset_at h.nodup hi, List.map_set, List.map_set, hes]
      · intro e hme
        rw [hm] at hme
        rcases List.mem_or_eq_of_mem_set hme with h5 | h5
        · exact s1 e h5
        · rw [h5]; exact s1 e0 (List.mem_of_getElem? he)
      · rw [hm, List.map_set]
        have : (es.toList.map (·.born)).set i e0.born = es.toList.map (·.born) := Go.WideElems.set_self _ _ _ (by rw [List.getElem?_map, he]; rfl)
        simp only [this]
        exact s2
  · rw [h1] at hf
    simp only at hf
    refine ⟨.map (es.push ⟨ke x, .int .i64 v, clock⟩) (clock + 1), ?_, ?_⟩
    · simp [Instr.mapUpdate, run_underlying ht, MapKept.run_getObj_map hb, K.check w false x, hf, MapKept.run_setObj_map _ hb, Result.andThen, setBlock]
    · refine ⟨?_, _, clock + 1, here w _ hlt, ?_, ?_, ?_⟩
      · rw [mset_keys, if_neg hnot]
        exact List.nodup_append.2 ⟨h.nodup, by simp, fun a ha c hc e1 => hnot (by rw [List.mem_singleton] at hc; rw [← hc, ← e1]; exact ha)⟩
      · rw [mset_new x v hnot, Array.toList_push, List.map_append, List.map_append, hes]
        simp
      · intro e hme
        rw [Array.toList_push] at hme
        rcases List.mem_append.1 hme with h5 | h5
        · have := s1 e h5; omega
        · rw [List.mem_singleton] at h5; subst h5; simp
      · rw [Array.toList_push, List.map_append]
        refine List.nodup_append.2 ⟨s2, by simp, fun a ha c hc e1 => ?_⟩
        simp only [List.map_cons, List.map_nil, List.mem_singleton] at hc
        obtain ⟨y, hy, rfl⟩ := List.mem_map.1 ha
        have := s1 y hy
        omega
end
theorem below_setBlock {B : Nat} {w W : World} (h : Below B w W) {b : Nat} (hb : B ≤ b) (o : Obj) : Below B w (setBlock W b o) :=
  ⟨h.os, h.tape, h.output, by simpa [setBlock] using h.size, fun i hi => by
    have hne : b ≠ i := by omega
    have : (setBlock W b o).heap[i]? = W.heap[i]? := by simp [setBlock, hne]
    exact this.trans (h.block i hi)⟩
theorem setBlock_other {W : World} {b i : Nat} (h : i ≠ b) (o : Obj) : (setBlock W b o).heap[i]? = W.heap[i]? := by
  have hne : b ≠ i := fun e => h e.symm
  simp [setBlock, hne]
end Go.Sy
