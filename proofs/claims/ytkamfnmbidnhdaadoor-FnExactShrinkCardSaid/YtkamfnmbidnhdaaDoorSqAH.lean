/- The walk by a symbolic frame: regions that draw their order; a late operation may hang on what is read first through others. -/
import Derived.Test.YtkamfnmbidnhdaaDoorSqAG
import Derived.Test.YtkamfnmbidnhdaaDoorSqAE
import Derived.Lib.ItoaNum
import Derived.Lib.Builder
import Derived.Lib.UnsafeStr
import Derived.Laws.Externs
import Derived.Test.YtkamfnmbidnhdaaDoorSqAD
import Derived.BigFrame
import Derived.Shelf.LaysM
import Derived.Shelf.Strconv.Itoa3
import Derived.Test.YtkamfnmbidnhdaaDoorProg
import Derived.Sort.Grow
set_option linter.unusedVariables false
set_option linter.unusedSimpArgs false
set_option linter.unusedSectionVars false
namespace Go.Sy
set_option linter.unusedVariables false
section
variable {P : Program} {md : Region.Mode} {ops : Array Oper} {pres : Nat → Bool} {C : World → Prop} {Q : Exit → Act → World → Prop}
theorem wpAnyC_firstD {Z : Act → World → Prop} {i : Nat} {oi : Oper} {v : Value} (D : List Nat) (hi : ops[i]? = some oi) (hsel : ∀ (j : Nat) (o : Oper) cs b, ops[j]? = some o → o.op ≠ .select cs b)
    (hpre : ∀ j, pres j = false → j < ops.size → j ∈ D) (hD : ∀ j ∈ D, ∃ oj, ops[j]? = some oj ∧ ∃ e ∈ oj.after, Region.binds md e = true ∧ (e.on = i ∨ e.on ∈ D)) : ∀ (fuel : Nat) (listed : Array Bool) (a : Act) (w : World),
    (∀ j ∈ D, listed.getD j true = false) →
    (∀ j oj, ops[j]? = some oj → j ≠ i → listed.getD j true = false → (∀ e ∈ oj.after, Region.binds md e = true → e.on ≠ i) → oi.apart ops oj = true) →
    i ∈ Region.ready md ops listed → C w → Still P ops C oi v a → wpAnyC P md ops pres C (nf Z) fuel (listed.setIfInBounds i true) (a.put oi.dst v) w → wpAnyC P md ops pres C (nf Z) (fuel + 1) listed a w := by
  intro fuel
  induction fuel with
  | zero =>
    intro listed a w hU hfree hr hC hy H
    refine ⟨fun h => (by rw [h] at hr; cases hr), fun j hj => ?_⟩
    by_cases hji : j = i
    · subst hji; exact hy.op hi hC ⟨fun _ => hC, H⟩
    · have := ready_mono hj hji
      rw [H.1] at this; cases this
  | succ fuel ih =>
    intro listed a w hU hfree hr hC hy H
    refine ⟨fun h => (by rw [h] at hr; cases hr), fun j hj => ?_⟩
    by_cases hji : j = i
    · subst hji; exact hy.op hi hC ⟨fun _ => hC, H⟩
    · have h1 := H.2 j (ready_mono hj hji)
      obtain ⟨hjun, oj, hoj, hall⟩ := mem_ready.1 hj
      have hunl : ∀ k, listed.getD k true = false → ∀ e ∈ oj.after, Region.binds md e = true → e.on ≠ k := fun k hk e he hb heq => by
        have h1 := hall e he hb
        rw [heq] at h1
        rcases Nat.lt_or_ge k listed.size with h' | h'
        · simp [h'] at hk h1; rw [hk] at h1; cases h1
        · simp [Array.getElem?_eq_none h'] at h1
      have hnot : ∀ e ∈ oj.after, Region.binds md e = true → e.on ≠ i := hunl i (mem_ready.1 hr).1
      have hjD : j ∉ D := fun hm => by
        obtain ⟨oj', hoj', e, he, hb, h⟩ := hD j hm
        rw [hoj] at hoj'
        obtain rfl := Option.some.inj hoj'
        rcases h with h | h
        · exact hnot e he hb h
        · exact hunl _ (hU _ h) e he hb rfl
      have hpj : pres j = true := by
        cases hp : pres j with
        | true => rfl
        | false => exact absurd (hpre j hp (Array.getElem?_eq_some_iff.1 hoj).1) hjD
      have hap := hfree j oj hoj hji hjun hnot
      have h2 := wpOp_keep hoj hap (fun cs b => hsel i oi cs b hi) hy (wpOp_put hoj hap (fun cs b => hsel j oj cs b hoj) h1)
      have hfree' : ∀ k ok, ops[k]? = some ok → k ≠ i → (listed.setIfInBounds j true).getD k true = false → (∀ e ∈ ok.after, Region.binds md e = true → e.on ≠ i) → oi.apart ops ok = true := fun k ok hk hki hun hno => by
        refine hfree k ok hk hki ?_ hno
        by_cases hjk : j = k
        · subst hjk; exact hjun
        · rw [getD_set_ne true hjk] at hun; exact hun
      have hU' : ∀ k ∈ D, (listed.setIfInBounds j true).getD k true = false := fun k hk => by
        rw [getD_set_ne true (fun e => hjD (by rw [e]; exact hk))]; exact hU k hk
      refine wpOp_mono (fun a' w' h3 => ?_) h2
      obtain ⟨h4, h5, h6⟩ := h3
      refine ⟨h5, ih (listed.setIfInBounds j true) a' w' hU' hfree' (ready_mono hr (Ne.symm hji)) (h5 hpj) h4 ?_⟩
      rw [Array.setIfInBounds_comm _ _ hji]
      exact h6
def downB (md : Region.Mode) (ops : Array Oper) (i : Nat) : List Nat :=
  (List.range ops.size).foldl (fun acc j => match ops[j]? with
    | some oj => if oj.after.any fun e => Region.binds md e && (e.on == i || acc.contains e.on) then j :: acc else acc
    | none => acc) []
def preD (md : Region.Mode) (ops : Array Oper) (pres : Nat → Bool) : List Nat → Array Bool → Bool
  | [], _ => true
  | i :: r, listed => (Region.ready md ops listed).contains i && Region.free md ops listed i &&
    ((List.range ops.size).all fun j => pres j || (downB md ops i).contains j) &&
    ((downB md ops i).all fun j => !listed.getD j true && match ops[j]? with
      | some oj => oj.after.any fun e => Region.binds md e && (e.on == i || (downB md ops i).contains e.on)
      | none => false) && preD md ops pres r (listed.setIfInBounds i true)
theorem wpAnyC_preDW {Z : Act → World → Prop} {l : List Oper} (hsel : Region.noSelect l.toArray = true) (π : List Nat) (lo : List Oper) (listed : Array Bool) (a : Act) (w : World) (fuel : Nat) (h : selE l π = some lo) (hB : preD md l.toArray pres π listed = true) (hC : C w)
    (H : wpStillC P l.toArray C (fun a' => wpAnyC P md l.toArray pres C (nf Z) fuel (lst π listed) a' w) lo a) : wpAnyC P md l.toArray pres C (nf Z) (fuel + π.length) listed a w := by
  induction π generalizing lo listed a with
  | nil => simp only [selE, Option.some.injEq] at h; subst h; exact H
  | cons i r ih =>
    simp only [selE] at h
    split at h
    · rename_i o ho
      split at h
      · rename_i x hx
        have e := Option.some.inj h; subst e
        rw [nth_eq] at ho
        have ho' : l.toArray[i]? = some o := by simpa using ho
        simp only [preD, Bool.and_eq_true] at hB
        obtain ⟨⟨⟨⟨hr, hf⟩, hp⟩, hdn⟩, hB'⟩ := hB
        have hpre : ∀ j, pres j = false → j < l.toArray.size → j ∈ downB md l.toArray i := fun j hpj hj => by
          have := List.all_eq_true.1 hp j (List.mem_range.2 hj)
          simp only [hpj, Bool.false_or] at this
          simpa using this
        have hdn' := List.all_eq_true.1 hdn
        have hD : ∀ j ∈ downB md l.toArray i, ∃ oj, l.toArray[j]? = some oj ∧ ∃ e ∈ oj.after, Region.binds md e = true ∧ (e.on = i ∨ e.on ∈ downB md l.toArray i) := fun j hj => by
          have := hdn' j hj
          simp only [Bool.and_eq_true] at this
          obtain ⟨_, h2⟩ := this
          cases hq : l.toArray[j]? with
          | none => rw [hq] at h2; cases h2
          | some oj =>
            rw [hq] at h2
            obtain ⟨e, he, hb⟩ := Array.any_eq_true'.1 h2
            simp only [Bool.and_eq_true, Bool.or_eq_true, beq_iff_eq] at hb
            exact ⟨oj, rfl, e, he, hb.1, hb.2.imp id fun h => by simpa using h⟩
        have hU : ∀ j ∈ downB md l.toArray i, listed.getD j true = false := fun j hj => by
          have := hdn' j hj
          simp only [Bool.and_eq_true] at this
          simpa using this.1
        have key : ∀ v, Still P l.toArray C o v a → wpStillC P l.toArray C (fun a' => wpAnyC P md l.toArray pres C (nf Z) fuel (lst r (listed.setIfInBounds i true)) a' w) x (a.put o.dst v) →
            wpAnyC P md l.toArray pres C (nf Z) (fuel + (r.length + 1)) listed a w := fun v hv hK => by
          refine wpAnyC_firstD (downB md l.toArray i) ho' (Region.noSelect_spec hsel) hpre hD (fuel + r.length) listed a w hU (Region.free_spec ho' hf) (by simpa using hr) hC hv ?_
          exact ih x _ _ hx hB' hK
        have H' : (if Region.wanted o (yielded l.toArray a.tmps) then _ else _) := H
        split at H'
        · rename_i hw
          obtain ⟨v, h1, h2⟩ := H'
          exact key v (.inl ⟨hw, h1⟩) h2
        · rename_i hw
          exact key undef (.inr ⟨by simpa using hw, rfl⟩) H'
      · cases h
    · cases h
end
section
variable {P : Program} {T : List (Nat × TI)} {F : Fr} {tm : Tm} {L : Lm} {u : Hp} {β : Nat → Nat} {a : Act} {w : World} {Q : Exit → Act → World → Prop}
theorem r_anyD {id : Nat} {l : List Oper} (π : List Nat) (late : List Nat) (u0 : Hp) (hu : Le u0 u) {lo : List Oper} {fuel : Nat} {listed : Array Bool} (hm : P.follows .mixedOrders = true) (hsel : Region.noSelect l.toArray = true) (hlo : selE l π = some lo)
    (hB : preD .any l.toArray (fun j => !late.contains j) π (Array.replicate l.length false) = true) (hf : l.length = fuel + π.length) (hl : lst π (Array.replicate l.length false) = listed) (hK : F.K = [])
    (h : ∀ β0, Run P (nf (fun a w => Cls F L u β0 w → Ex P l (fun j => !late.contains j) (Cls F L u0 β0) (Q .normal) fuel listed a w)) (fen F L β0) tm L u0 .still l lo) : St F tm L u (fun a w => (Code.region id l.toArray true).wp P Q a w) := by
  intro β a w hfe ht hd
  refine wp_mono (wp_region_any (Q := nf (Q .normal)) hm ?_) (fun e a w hq => by cases e <;> first | exact hq | exact hq.elim)
  have hd1 : Cls F L u β { w with drawn := w.drawn + 1 } := hd.drew
  have hd' : Cls F L u0 β { w with drawn := w.drawn + 1 } := hd1.weak hu
  have hfe' : Fence (fen F L β) L β := fun i hi => ⟨rfl, keysOf_get.1 hi⟩
  refine wpAny_of_C _ _ _ _ (pres := fun j => !late.contains j) (C := Cls F L u0 β) ?_
  have := h β β a _ hfe' ht hd'
  rw [show l.toArray.size = fuel + π.length by simpa using hf]
  subst hl
  have hrep : (Array.replicate (fuel + π.length) false) = Array.replicate l.length false := by rw [hf]
  rw [hrep]
  refine wpAnyC_preDW hsel π lo _ a _ fuel hlo hB hd' (wpStillC_imp (fun a' h' => h' _ hd' hd1) this)
theorem r_manyD {id : Nat} {l : List Oper} (π : List Nat) (late : List Nat) (u0 : Hp) (hu : Le u0 u) {lo : List Oper} {fuel : Nat} {lb : List Bool} (hm : P.follows .mixedOrders = true) (hsel : Region.noSelect l.toArray = true) (hlo : selE l π = some lo)
    (hB : preD .any l.toArray (fun j => !late.contains j) π (Array.replicate l.length false) = true) (hf : l.length = fuel + π.length) (hl : lsB π (falses l.length) = lb) (hK : F.K = [])
    (h : ∀ β0, Run P (nf (fun a w => Cls F L u β0 w → ExL P l (fun j => !late.contains j) (Cls F L u0 β0) (Q .normal) fuel lb a w)) (fen F L β0) tm L u0 .still l lo) : St F tm L u (fun a w => (Code.region id l.toArray true).wp P Q a w) :=
  r_anyD π late u0 hu hm hsel hlo hB hf (by rw [← hl, ← lsB_eq, falses_eq]; simp) hK h
end
end Go.Sy
/- Bytes as cells; decimal digits from behind. Plain. -/
namespace Go.Sy
def bc1 (b : UInt8) : List Value := [.int .u8 (b.toNat : Int)]
theorem bc1_len (b : UInt8) : (bc1 b).length = 1 := rfl
theorem bc1_one {l : List UInt8} : ∀ v ∈ l.flatMap bc1, one v = true := fun v hv => by
  obtain ⟨x, _, hx⟩ := List.mem_flatMap.1 hv
  simp only [bc1, List.mem_singleton] at hx
  rw [hx]; rfl
theorem bc1_map (l : List UInt8) : l.flatMap bc1 = l.map fun b : UInt8 => Value.int .u8 (b.toNat : Int) := by
  induction l with
  | nil => rfl
  | cons b r ih => rw [List.flatMap_cons, ih]; rfl
theorem bc1_bytes (s : ByteArray) : s.data.toList.flatMap bc1 = byteCells s := bc1_map _
theorem bc1_of (l : List UInt8) : byteCells ⟨l.toArray⟩ = l.flatMap bc1 := by rw [← bc1_bytes]
theorem bytes_app (a b : List UInt8) : (⟨a.toArray⟩ : ByteArray) ++ ⟨b.toArray⟩ = ⟨(a ++ b).toArray⟩ := by
  apply ByteArray.ext
  simp
theorem bytes_size (l : List UInt8) : (⟨l.toArray⟩ : ByteArray).size = l.length := rfl
abbrev Bts (u : Hp) (A : Option Addr) (n : Nat) (xs : List UInt8) : Prop := Rd bc1 1 u A n xs
def rdg (k : Nat) : List UInt8 := if h : k = 0 then [] else UInt8.ofNat (48 + k % 10) :: rdg (k / 10)
  termination_by k
  decreasing_by omega
theorem rdg_zero : rdg 0 = [] := by rw [rdg, dif_pos rfl]
theorem rdg_step {k : Nat} (h : k ≠ 0) : rdg k = UInt8.ofNat (48 + k % 10) :: rdg (k / 10) := by rw [rdg, dif_neg h]
theorem rdg_dec : ∀ k, k ≠ 0 → (rdg k).reverse = Lib.decDigits k := fun k => by
  induction k using Nat.strongRecOn with
  | _ k ih =>
    intro h
    rw [rdg_step h, Lib.decDigits]
    by_cases h10 : k < 10
    · rw [dif_pos h10, Nat.div_eq_of_lt h10, rdg_zero, Nat.mod_eq_of_lt h10]; rfl
    · rw [dif_neg h10, List.reverse_cons, ih (k / 10) (by omega) (by omega)]
theorem rdg_len : ∀ (m k : Nat), k < 10 ^ m → (rdg k).length ≤ m
  | 0, k, h => by
    have : k = 0 := by simpa using h
    rw [this, rdg_zero]; simp
  | m + 1, k, h => by
    by_cases h0 : k = 0
    · rw [h0, rdg_zero]; simp
    · rw [rdg_step h0, List.length_cons]
      have := rdg_len m (k / 10) (by rw [Nat.pow_succ] at h; omega)
      omega
theorem u8_to (k : Nat) (h : k < 256) : ((UInt8.ofNat k).toNat : Int) = (k : Int) := by
  rw [UInt8.toNat_ofNat', Nat.mod_eq_of_lt h]
theorem itoa_rdg (n : Int) (h : n ≠ 0) : Lib.itoa n = (if n < 0 then [45] else []) ++ (rdg n.natAbs).reverse := by
  rw [rdg_dec _ (by omega)]
  unfold Lib.itoa
  by_cases hn : n < 0
  · rw [if_pos hn, if_pos hn]; rfl
  · rw [if_neg hn, if_neg hn, show n.toNat = n.natAbs by omega]; rfl
theorem itoa_zero : Lib.itoa 0 = [48] := by
  unfold Lib.itoa
  rw [if_neg (by omega), Lib.decDigits]; rfl
theorem sl_blk {u : Hp} {b m sz : Nat} {vs : List Value} {t : TypeId} (h : u b = some (.cells vs.toArray t (0, 0))) (hl : vs.length = m * sz) : Sl u (some ⟨b, 0, none⟩) m sz vs :=
  ⟨hl, fun h => (by cases h), fun a ha _ => (by have e := Option.some.inj ha; subst e; exact ⟨rfl, _, _, _, h, fun j v hj => by simpa using hj⟩)⟩
theorem le_frsh {h u : Hp} {b : Nat} {o : Obj} (hl : Le h u) (hb : u b = none) : Le h (upd u b o) := fun x o' hx => by
  rw [upd_ne (fun e => by subst e; have := hl _ _ hx; rw [hb] at this; cases this)]; exact hl x o' hx
theorem none_of {h hB : Hp} (hl : Le h hB) {b : Nat} (hb : hB b = none) : h b = none := by
  cases hu : h b with
  | none => rfl
  | some o => rw [hl b o hu] at hb; cases hb
theorem own_fr {u : Hp} {A : Option Addr} {n c e sz : Nat} {cs : List Value} {b : Nat} {o : Obj} (h : Own u A n c e sz cs) (hb : u b = none) : Own (upd u b o) A n c e sz cs := h.le fun x ox hx ho => by
  rw [upd_ne (fun e => by rw [e, hb] at ho; cases ho)]; exact ho
end Go.Sy
/- The walk by a symbolic frame: what strings.Builder's own text does: pointers compared, turned to unsafe and back; a call of abi.NoEscape; its bytes as a text. -/
namespace Go.Sy
set_option linter.unusedVariables false
set_option linter.unusedSimpArgs false
section
variable {P : Program} {T : List (Nat × TI)} {F : Fr} {tm : Tm} {L : Lm} {u : Hp} {Q : Exit → Act → World → Prop}
theorem r_ptrnil {q : Md} {l : List Oper} {o : Oper} {r : List Oper} {d : Nat} {t t' : TypeId} {x y : Operand} {p : Option Addr} (hu : P.underlying t = some (.pointer (P.pointee t))) (hw : wantE l tm o = some true) (ho : o.dst = some d) (hn : Nat.blt d F.n.z = true) (hop : o.op = .binOp .eql t x y t')
    (hx : ev tm x = some (.v (.pointer p))) (hy : ev tm y = some (.v (.pointer none))) (next : Run P Q F ((d, .v (.bool p.isNone)) :: tm) L u q l r) : Run P Q F tm L u q l (o :: r) := by
  refine op_pure hw ho hn (fun β a w ht' hd => ⟨?_, rfl⟩) next
  have h1 : a.eval x = .pointer p := by rw [ev_ok ht' hx, SV.den]
  have h2 : a.eval y = .pointer none := by rw [ev_ok ht' hy, SV.den]
  simp [execOp, hop, h1, h2, eqGuard, binOp, run_equal_pointer_nil w t p hu, SV.den]
theorem r_ptrsame {q : Md} {l : List Oper} {o : Oper} {r : List Oper} {d : Nat} {t t' te : TypeId} {x y : Operand} {p : Addr} {j : TypeInfo} (hu : P.underlying t = some (.pointer te)) (hte : P.info? te = some j) (hw : wantE l tm o = some true) (ho : o.dst = some d) (hn : Nat.blt d F.n.z = true) (hop : o.op = .binOp .neq t x y t')
    (hx : ev tm x = some (.v (.pointer (some p)))) (hy : ev tm y = some (.v (.pointer (some p)))) (next : Run P Q F ((d, .v (.bool false)) :: tm) L u q l r) : Run P Q F tm L u q l (o :: r) := by
  refine op_pure hw ho hn (fun β a w ht' hd => ⟨?_, rfl⟩) next
  have h1 : a.eval x = .pointer (some p) := by rw [ev_ok ht' hx, SV.den]
  have h2 : a.eval y = .pointer (some p) := by rw [ev_ok ht' hy, SV.den]
  simp [execOp, hop, h1, h2, eqGuard, Lib.run_neq_ptr_same w p hu hte, SV.den]
theorem shape_of {w : World} {b : Nat} {arr : Array Value} {e : TypeId} {fr : Nat × Nat} (h : w.heap[b]? = some (.cells arr e fr)) : w.shape? b = some (e, arr.size) := by
  simp [World.shape?, h]
theorem r_tounsafe {q : Md} {l : List Oper} {o : Oper} {r : List Oper} {d : Nat} {t t' te e : TypeId} {x : Operand} {p : Addr} {j : TypeInfo} {arr : Array Value} {fr : Nat × Nat} (hs : P.underlying t = some (.pointer te)) (hd' : P.underlying t' = some .unsafePointer) (hte : P.info? te = some j) (hj : j.size ≠ 0)
    (hb : u p.block = some (.cells arr e fr)) (hoff : p.off < arr.size) (hw : wantE l tm o = some true) (ho : o.dst = some d) (hn : Nat.blt d F.n.z = true) (hop : o.op = .convert t t' x)
    (hx : ev tm x = some (.v (.pointer (some p)))) (next : Run P Q F ((d, .v (.pointer (some p))) :: tm) L u q l r) : Run P Q F tm L u q l (o :: r) := by
  refine op_pure hw ho hn (fun β a w ht' hd => ⟨?_, rfl⟩) next
  have h1 : a.eval x = .pointer (some p) := by rw [ev_ok ht' hx, SV.den]
  simp [execOp, hop, h1, Lib.run_to_unsafe w p hs hd' hte hj (shape_of (hd.ext _ _ hb).1) hoff, SV.den]
theorem r_fromunsafe {q : Md} {l : List Oper} {o : Oper} {r : List Oper} {d : Nat} {t t' te e : TypeId} {x : Operand} {p : Addr} {j : TypeInfo} {arr : Array Value} {fr : Nat × Nat} (hs : P.underlying t = some .unsafePointer) (hd' : P.underlying t' = some (.pointer te)) (hte : P.info? te = some j)
    (hb : u p.block = some (.cells arr e fr)) (hlies : liesAt P P.depth e (arr.size / P.cellsOf e) p.off te 1 = true) (hw : wantE l tm o = some true) (ho : o.dst = some d) (hn : Nat.blt d F.n.z = true) (hop : o.op = .convert t t' x)
    (hx : ev tm x = some (.v (.pointer (some p)))) (next : Run P Q F ((d, .v (.pointer (some p))) :: tm) L u q l r) : Run P Q F tm L u q l (o :: r) := by
  refine op_pure hw ho hn (fun β a w ht' hd => ⟨?_, rfl⟩) next
  have h1 : a.eval x = .pointer (some p) := by rw [ev_ok ht' hx, SV.den]
  simp [execOp, hop, h1, Lib.run_from_unsafe w p hs hd' hte (shape_of (hd.ext _ _ hb).1) hlies, SV.den]
/-- A call of abi.NoEscape: what it is handed. -/
theorem r_noescape {q : Md} {l : List Oper} {o : Oper} {r : List Oper} {d f : Nat} {tys : Array TypeId} {x : Operand} {fn : Func} {v : Value} (hf : P.funcs[f]? = some fn) (hname : (fn.name == "runtime.NumGoroutine") = false) (hb : fn.body.isNone = true) (hnx : Extern.findNext fn = none) (he : Extern.find fn = some Extern.AbiNoEscape.same)
    (hw : wantE l tm o = some true) (ho : o.dst = some d) (hn : Nat.blt d F.n.z = true) (hop : o.op = .call { callee := .value (.func f), args := #[x], argTypes := tys })
    (hx : ev tm x = some (.v v)) (next : Run P Q F ((d, .v v) :: tm) L u q l r) : Run P Q F tm L u q l (o :: r) := by
  refine op_pure hw ho hn (fun β a w ht' hd => ⟨?_, rfl⟩) next
  have h1 : a.eval x = v := by rw [ev_ok ht' hx, SV.den]
  have h2 := run_callFunc_extern (P := P) hf hname hb hnx he #[v] w
  rw [Lib.run_noEscape] at h2
  have h3 : a.eval (.func f) = .func (.func f) #[] #[] := rfl
  simp only [Result.andThen_ok] at h2
  simp [execOp, hop, h1, h3, resolve, Deferred.ofValue, invoke, h2, SV.den]
end
end Go.Sy
/- append, and that what it gives starts where its block does. -/
namespace Go.Sy
set_option linter.unusedSimpArgs false
set_option linter.unusedVariables false

def HdA (A : Option Addr) : Prop := ∀ a, A = some a → a.off = 0
section
variable {P : Program} {T : List (Nat × TI)} {F : Fr} {tm : Tm} {L : Lm} {u : Hp} {n : FN} {N : World} {β : Nat → Nat} {k : Hp} {a : Act} {w : World} {Q : Exit → Act → World → Prop}
theorem append_run0 (hT : TOK P T) (hd : Den β L u k N w) {t e : TypeId} {ti te : TI} (ht : kget T t = some ti) (hk : ti.kind = .slice e) (he : kget T e = some te) {A : Option Addr} {n c m : Nat} {cs news : List Value} {x : Value} {tx : TypeId} (ty : TypeId)
    (hO : Own u A n c e te.size cs) (hs : Src P te.size tx x m news w) (h1 : ∀ v ∈ news, one v = true) (hb : (n + m) * te.bytes ≤ 140737488355328) (h63 : ((n + m : Nat) : Int) ≤ 9223372036854775807) :
    ∃ A' c' u' w', (Builtin.append_ #[t, tx] ty #[.slice A n c, x]).run P w = .ok (.slice A' (n + m) c') w' ∧ Own u' A' (n + m) c' e te.size (cs ++ news) ∧ Grown u u' A A' ∧ Den β L u' k N w' ∧ (HdA A → HdA A') := by
  have hund := elem_of hT ht hk
  obtain ⟨i, z, hi, hsz, hby, hz, hzc, hzl⟩ := chk_info (hT e te he)
  rw [← hsz] at hs
  have hlen : (cs ++ news).length = (n + m) * te.size := by rw [List.length_append, hO.len, hs.newsLen, hsz, Nat.add_mul]
  by_cases hroom : n + m ≤ c
  · cases A with
    | none =>
      have h0 := hO.nil rfl
      obtain ⟨rfl, rfl, rfl⟩ : n = 0 ∧ m = 0 ∧ c = 0 := ⟨by omega, by omega, by omega⟩
      have e1 : cs = [] := List.length_eq_zero_iff.1 (by rw [hO.len]; simp)
      have e2 : news = [] := List.length_eq_zero_iff.1 (by rw [hs.newsLen]; simp)
      subst e1; subst e2
      refine ⟨none, 0, u, w, ?_, own_nil, fun h h1 h2 => ⟨h1, h2⟩, hd, fun h => h⟩
      rcases hs.kind with ⟨e', hk'⟩ | hk' <;> simp [Builtin.append_, run_und hund, run_und hk', sizeOf, typeInfo, hi, hs.len, hs.cells, program, Sem.run]
    | some ad =>
      obtain ⟨e1, arr, g1, g2, g3⟩ := hO.row ad rfl
      obtain ⟨b, o, sp⟩ := ad
      simp only at e1 g1 g2 g3; subst e1
      have hfit : o + n * te.size + 0 + news.length ≤ arr.size := by
        rw [hs.newsLen, hsz]
        have : (n + m) * te.size ≤ c * te.size := Nat.mul_le_mul_right _ hroom
        rw [Nat.add_mul] at this; omega
      obtain ⟨w', hst, hu⟩ := run_storeCells (P := P) (b := b) (o + n * te.size) news 0 w arr (hd.ext b _ g1).1 hfit h1
      simp only [Nat.add_zero] at hu
      refine ⟨some ⟨b, o, none⟩, c, _, w', ?_, ⟨hlen, hroom, fun h => by (cases h), fun a ha => ?_⟩, fun h h1 h2 => ⟨fun x y hx => ?_, h2⟩, den_ext_set hd g1 hu, fun h => h⟩
      · have hadd : (⟨b, o, none⟩ : Addr).add (n * te.size) = ⟨b, o + n * te.size, none⟩ := by simp only [Addr.add]; split <;> simp_all
        rw [← hsz] at hadd hst
        rcases hs.kind with ⟨e', hk'⟩ | hk' <;> simp [Builtin.append_, run_und hund, run_und hk', sizeOf, typeInfo, hi, hs.len, hroom, hs.cells, program, Sem.run, hadd, hst]
      · have e' := Option.some.inj ha; subst e'
        refine ⟨rfl, _, upd_here .., ?_, fun j v hj => ?_⟩
        · have : o + n * te.size + news.length ≤ arr.toList.length := by simpa using hfit
          have := setL_length arr.toList (o + n * te.size) news this
          simp only [List.size_toArray, this, Array.length_toList]; exact g2
        · simp only [List.getElem?_toArray]
          rw [setL_get _ _ _ (by simpa using hfit)]
          by_cases hjn : j < cs.length
          · rw [List.getElem?_append_left hjn] at hj
            rw [if_neg (by rw [hO.len] at hjn; omega)]
            simpa using g3 j v hj
          · rw [List.getElem?_append_right (by omega), hO.len] at hj
            have : j - n * te.size < news.length := (List.getElem?_eq_some_iff.1 hj).1
            rw [hO.len] at hjn
            rw [if_pos (by omega), show o + j - (o + n * te.size) = j - n * te.size by omega]; exact hj
      · have : x ≠ b := fun e => by subst e; rw [h2 x rfl] at hx; cases hx
        rw [upd_ne this]; exact h1 x y hx
  · have hcap : c < n + m := by omega
    have hold : (Builtin.firstCells i.size n (.slice A n c)).run P w.drew = .ok cs.toArray w.drew := by
      cases A with
      | none =>
        have h0 := hO.nil rfl
        have hn0 : n = 0 := by have := hO.cap; omega
        subst hn0
        have e1 : cs = [] := List.length_eq_zero_iff.1 (by rw [hO.len]; simp)
        subst e1
        exact run_firstCells_none _ _ _ _ _
      | some ad =>
        obtain ⟨e1, arr, g1, g2, g3⟩ := hO.row ad rfl
        obtain ⟨b, o, sp⟩ := ad
        simp only at e1 g1 g2 g3; subst e1
        refine run_firstCells_some _ _ _ _ _ _ _ (by rw [hO.len, hsz]) fun j v hj => ?_
        have : (⟨b, o, none⟩ : Addr).add j = ⟨b, o + j, none⟩ := by simp only [Addr.add]; split <;> simp_all
        rw [this]
        have hc := cell_of (w := w) (off := o + j) (hd.ext b _ g1).1
        have := g3 j v hj
        rw [this] at hc
        exact hc
    have hfit : Builtin.nextslicecap (n + m) c * i.bytes ≤ 281474976710656 := by rw [hby]; exact growslice_fits hcap hb
    have hrun := run_append_grow_src (P := P) w t tx ty e i z hund hi hz A n c cs hold x m news hs hcap h63 hfit
    have hge := grownCap_ge w (n + m) c e
    refine ⟨some ⟨w.heap.size, 0, none⟩, grownCap w (n + m) c e, upd u w.heap.size _, _, hrun, ⟨hlen, hge, fun h => by (cases h), fun a ha => ?_⟩, fun h h1 h2 => ⟨fun x y hx => ?_, fun b hb' => ?_⟩, den_ext_new hd rfl ⟨rfl, rfl, rfl, (by first | exact Nat.le_refl _ | exact Nat.le_succ _)⟩, fun _ a ha => by have e := Option.some.inj ha; rw [← e]⟩
    · have e' := Option.some.inj ha; subst e'
      refine ⟨rfl, _, upd_here .., ?_, fun j v hj => ?_⟩
      · rw [hzc]
        simp only [Array.size_append, List.size_toArray, hlen, zeroCells_size, Nat.zero_add]
        simp only [List.length_map, hzl]
        rw [← Nat.add_mul]
        exact Nat.le_of_eq (by congr 1; omega)
      · simp only [Nat.zero_add]
        have hj' := (List.getElem?_eq_some_iff.1 hj).1
        rw [Array.getElem?_append_left (by simpa using hj')]; simpa using hj
    · have : x ≠ w.heap.size := fun e => by subst e; have := h1 _ _ hx; rw [hd.fresh] at this; cases this
      rw [upd_ne this]; exact h1 x y hx
    · have e' := Option.some.inj hb'; subst e'
      cases hh : h w.heap.size with
      | none => rfl
      | some y => have := h1 _ _ hh; rw [hd.fresh] at this; cases this
end
section
variable {P : Program} {T : List (Nat × TI)} {F : Fr} {tm : Tm} {L : Lm} {u : Hp} {n : FN} {N : World} {β : Nat → Nat} {k : Hp} {a : Act} {w : World} {Q : Exit → Act → World → Prop}
/-- append(x, y...), y a slice. -/
theorem r_append0 (hT : TOK P T) {l : List Oper} {o : Oper} {r : List Oper} {d : Nat} {t t2 e e2 : TypeId} {ti te ti2 : TI} {x y : Operand} {A B : Option Addr} {m c m2 c2 : Nat} {cs news : List Value}
    (hw : wantE l tm o = some true) (ho : o.dst = some d) (hn : Nat.blt d F.n.z = true) (hop : o.op = .call { callee := .builtin .append, args := #[x, y], argTypes := #[t, t2] })
    (ht : kget T t = some ti) (hk : ti.kind = .slice e) (he : kget T e = some te) (ht2 : kget T t2 = some ti2) (hk2 : ti2.kind = .slice e2)
    (hx : ev tm x = some (.v (.slice A m c))) (hy : ev tm y = some (.v (.slice B m2 c2))) (hO : Own u A m c e te.size cs) (hS : Sl u B m2 te.size news) (h1 : ∀ v ∈ news, one v = true)
    (hb : (m + m2) * te.bytes ≤ 140737488355328) (h63 : ((m + m2 : Nat) : Int) ≤ 9223372036854775807)
    (next : ∀ A' c' u', Own u' A' (m + m2) c' e te.size (cs ++ news) → Grown u u' A A' → (HdA A → HdA A') → Run P Q F ((d, .v (.slice A' (m + m2) c')) :: tm) L u' .seq l r) :
    Run P Q F tm L u .seq l (o :: r) := by
  refine op_any hw ho hn (fun β a w hf ht' hd => ?_)
  obtain ⟨A', c', u', w', h1', h2', h3', h4', h5'⟩ := append_run0 (P := P) hT hd ht hk he (x := .slice B m2 c2) (tx := t2) o.type hO (hS.src (P := P) hd (elem_of hT ht2 hk2) c2 h1) h1 hb h63
  refine ⟨β, w', _, L, u', ?_, hf, ht', h4', rfl, next A' c' u' h2' h3' h5'⟩
  simp [execOp, hop, ev_ok ht' hx, ev_ok ht' hy, SV.den, resolve, invoke, builtin, h1']
/-- append(x, y...), y a text. -/
theorem r_append_str0 (hT : TOK P T) {l : List Oper} {o : Oper} {r : List Oper} {d : Nat} {t t2 e : TypeId} {ti te ti2 : TI} {x y : Operand} {A : Option Addr} {m c : Nat} {s : ByteArray} {cs : List Value}
    (hw : wantE l tm o = some true) (ho : o.dst = some d) (hn : Nat.blt d F.n.z = true) (hop : o.op = .call { callee := .builtin .append, args := #[x, y], argTypes := #[t, t2] })
    (ht : kget T t = some ti) (hk : ti.kind = .slice e) (he : kget T e = some te) (ht2 : kget T t2 = some ti2) (hk2 : ti2.kind = .str) (hs1 : te.size = 1) (hb1 : te.bytes = 1)
    (hx : ev tm x = some (.v (.slice A m c))) (hy : ev tm y = some (.v (.string s))) (hO : Own u A m c e 1 cs) (hb : m + s.size ≤ 140737488355328)
    (next : ∀ A' c' u', Own u' A' (m + s.size) c' e 1 (cs ++ byteCells s) → Grown u u' A A' → (HdA A → HdA A') → Run P Q F ((d, .v (.slice A' (m + s.size) c')) :: tm) L u' .seq l r) :
    Run P Q F tm L u .seq l (o :: r) := by
  refine op_any hw ho hn (fun β a w hf ht' hd => ?_)
  have hu2 : P.underlying t2 = some .string := by
    obtain ⟨d, hd, h⟩ := chk_desc (hT t2 ti2 ht2)
    rw [hk2] at h
    cases d <;> simp [kfits] at h
    exact hd
  obtain ⟨A', c', u', w', h1', h2', h3', h4', h5'⟩ := append_run0 (P := P) hT hd ht hk he (x := .string s) (tx := t2) (m := s.size) (news := byteCells s) o.type (by rw [hs1]; exact hO) (by rw [hs1]; exact Src.ofString w hu2 s)
    (fun v hv => by obtain ⟨_, _, rfl⟩ := List.mem_map.1 hv; rfl) (by rw [hb1]; omega) (by omega)
  rw [hs1] at h2'
  refine ⟨β, w', _, L, u', ?_, hf, ht', h4', rfl, next A' c' u' h2' h3' h5'⟩
  simp [execOp, hop, ev_ok ht' hx, ev_ok ht' hy, SV.den, resolve, invoke, builtin, h1']
end
end Go.Sy
/- The walk by a symbolic frame: a Builder's bytes taken as a text (unsafe.String): they are frozen. -/
namespace Go.Sy
set_option linter.unusedVariables false
set_option linter.unusedSimpArgs false
section
variable {P : Program} {T : List (Nat × TI)} {F : Fr} {tm : Tm} {L : Lm} {u : Hp} {Q : Exit → Act → World → Prop}
theorem r_sldata {q : Md} {l : List Oper} {o : Oper} {r : List Oper} {d : Nat} {tys : Array TypeId} {x : Operand} {a0 : Addr} {n c : Nat} (hc : c ≠ 0) (hw : wantE l tm o = some true) (ho : o.dst = some d) (hn : Nat.blt d F.n.z = true)
    (hop : o.op = .call { callee := .builtin .unsafeSliceData, args := #[x], argTypes := tys }) (hx : ev tm x = some (.v (.slice (some a0) n c))) (next : Run P Q F ((d, .v (.pointer (some a0))) :: tm) L u q l r) : Run P Q F tm L u q l (o :: r) := by
  refine op_pure hw ho hn (fun β a w ht' hd => ⟨?_, rfl⟩) next
  have h1 : a.eval x = .slice (some a0) n c := by rw [ev_ok ht' hx, SV.den]
  simp [execOp, hop, h1, resolve, invoke, builtin, Lib.run_unsafeSliceData_row w tys o.type a0 n c hc, SV.den]
theorem freeze_upd {w : World} {g n : Nat} {arr : Array Value} {e : TypeId} (hg : w.heap[g]? = some (.cells arr e (0, 0))) (hn : n ≠ 0) : Upd1 w (w.freeze ⟨g, 0, none⟩ n) g (.cells arr e (0, n)) := by
  have hlt := (Array.getElem?_eq_some_iff.1 hg).1
  have hge := (Array.getElem?_eq_some_iff.1 hg).2
  unfold World.freeze
  rw [if_neg hn]
  refine ⟨by simp, ?_, fun x hx => ?_, rfl, rfl, rfl, Nat.le_refl _⟩
  · simp [Array.getElem?_modify, hg]
  · show (w.heap.modify g _)[x]? = _
    rw [Array.getElem?_modify, if_neg (Ne.symm hx)]
theorem r_ustring {l : List Oper} {o : Oper} {r : List Oper} {d : Nat} {pt it e : TypeId} {x y : Operand} {g m c : Nat} {bs : List UInt8} (hp : P.underlying pt = some (.pointer e)) (hce : P.cellsOf e = 1) (h0 : bs ≠ []) (h63 : bs.length ≤ 9223372036854775807) (hm : m = bs.length)
    (hO : Own u (some ⟨g, 0, none⟩) m c e 1 (bs.flatMap bc1)) (hw : wantE l tm o = some true) (ho : o.dst = some d) (hn : Nat.blt d F.n.z = true) (hop : o.op = .call { callee := .builtin .unsafeString, args := #[x, y], argTypes := #[pt, it] })
    (hx : ev tm x = some (.v (.pointer (some ⟨g, 0, none⟩)))) (hy : ev tm y = some (.v (.int .i64 (m : Int)))) (next : ∀ u', (∀ z, z ≠ g → u' z = u z) → Run P Q F ((d, .v (.string ⟨bs.toArray⟩)) :: tm) L u' .seq l r) : Run P Q F tm L u .seq l (o :: r) := by
  subst hm
  obtain ⟨_, arr, g1, g2, g3⟩ := hO.row _ rfl
  simp only at g1 g2 g3
  have hl0 : bs.length ≠ 0 := by simpa using h0
  refine op_any hw ho hn (fun β a w hf ht' hd => ?_)
  have hg := (hd.ext g _ g1).1
  have h1 : a.eval x = .pointer (some ⟨g, 0, none⟩) := by rw [ev_ok ht' hx, SV.den]
  have h2 : a.eval y = .int .i64 (bs.length : Int) := by rw [ev_ok ht' hy, SV.den]
  have hcell : ∀ (j : Nat) (z : UInt8), bs[j]? = some z → w.cell? ((⟨g, 0, none⟩ : Addr).add j) = some (.int .u8 z.toNat) := fun j z hz => by
    have e1 : (⟨g, 0, none⟩ : Addr).add j = ⟨g, 0 + j, none⟩ := by simp only [Addr.add]; split <;> simp_all
    rw [e1, cell_of (w := w) (off := 0 + j) hg]
    exact g3 j _ (by rw [bc1_map, List.getElem?_map, hz]; rfl)
  have hrun := Lib.run_unsafeString_row (P := P) w pt it o.type e hp hce g arr.size (shape_of hg) bs h0 (by have := hO.cap; omega) h63 hcell
  refine ⟨β, w.freeze ⟨g, 0, none⟩ bs.length, .v (.string ⟨bs.toArray⟩), L, upd u g (.cells arr e (0, bs.length)), ?_, hf, ht', den_ext_set hd g1 (freeze_upd hg hl0), rfl, next _ (fun z hz => upd_ne hz)⟩
  simp [execOp, hop, h1, h2, resolve, invoke, builtin, hrun, SV.den]
end
end Go.Sy
/- The walk by a symbolic frame: the text of a Builder that nothing was written into. -/
namespace Go.Sy
set_option linter.unusedVariables false
section
variable {P : Program} {F : Fr} {tm : Tm} {L : Lm} {u : Hp} {Q : Exit → Act → World → Prop}
theorem r_sldata0 {q : Md} {l : List Oper} {o : Oper} {r : List Oper} {d : Nat} {tys : Array TypeId} {x : Operand} {n c : Nat} (hw : wantE l tm o = some true) (ho : o.dst = some d) (hn : Nat.blt d F.n.z = true)
    (hop : o.op = .call { callee := .builtin .unsafeSliceData, args := #[x], argTypes := tys }) (hx : ev tm x = some (.v (.slice none n c))) (next : Run P Q F ((d, .v (.pointer none)) :: tm) L u q l r) : Run P Q F tm L u q l (o :: r) := by
  refine op_pure hw ho hn (fun β a w ht' hd => ⟨?_, rfl⟩) next
  have h1 : a.eval x = .slice none n c := by rw [ev_ok ht' hx, SV.den]
  simp [execOp, hop, h1, resolve, invoke, builtin, Lib.run_unsafeSliceData_nil (P := P) (w := w) tys o.type n c, SV.den]
theorem r_ustring0 {q : Md} {l : List Oper} {o : Oper} {r : List Oper} {d : Nat} {pt it : TypeId} {x y : Operand} {p : Option Addr} (hw : wantE l tm o = some true) (ho : o.dst = some d) (hn : Nat.blt d F.n.z = true)
    (hop : o.op = .call { callee := .builtin .unsafeString, args := #[x, y], argTypes := #[pt, it] })
    (hx : ev tm x = some (.v (.pointer p))) (hy : ev tm y = some (.v (.int .i64 0))) (next : Run P Q F ((d, .v (.string ⟨#[]⟩)) :: tm) L u q l r) : Run P Q F tm L u q l (o :: r) := by
  refine op_pure hw ho hn (fun β a w ht' hd => ⟨?_, rfl⟩) next
  have h1 : a.eval x = .pointer p := by rw [ev_ok ht' hx, SV.den]
  have h2 : a.eval y = .int .i64 0 := by rw [ev_ok ht' hy, SV.den]
  have e : ByteArray.empty = (⟨#[]⟩ : ByteArray) := rfl
  simp [execOp, hop, h1, h2, resolve, invoke, builtin, Lib.run_unsafeString_none (P := P) (w := w) pt it o.type p, SV.den, e]
end
end Go.Sy
/-
  DERIVED: THE SHELF's CONTRACTS AT THIS DUMP, IN PLAIN WORDS (tools/lay-plain.mjs out of 'TrydShelf.lean', which tools/lay-shelf.mjs wrote): THE SAME DECLARATIONS UNDER THE SAME NAMES: 'import', 'namespace', 'open', 'def', 'theorem' AND NOTHING ELSE: no command of the shelf's: FOR A HAND-IN. Each laying: the table of numbers ('.._ren') and one theorem, a field a fact of the dump's own or the kernel's comparison; each contract: ONE APPLICATION.
-/
namespace Go.Proofs
open Go.Shelf
def Tryd.laysM246_ren : Go.Shelf.Ren := ⟨fun | 246 => 141 | 283 => 165 | 284 => 166 | 285 => 167 | 286 => 168 | 129 => 155 | 317 => 184 | 318 => 185 | 319 => 186 | 320 => 187 | 337 => 192 | 338 => 193 | n => n, fun | 2 => 2 | 3 => 3 | 9 => 9 | 4 => 4 | 171 => 200 | 0 => 0 | 53 => 120 | 37 => 22 | 5 => 5 | 173 => 202 | 212 => 217 | 51 => 190 | 20 => 20 | 213 => 218 | 46 => 162 | 232 => 226 | 233 => 227 | n => n, fun | 17 => 2 | 18 => 3 | 19 => 4 | n => n⟩
theorem Tryd.laysM246 : Go.Proofs.LaysM.n246 Tryd.prog Tryd.laysM246_ren := {
  mixed := by kernel_rfl
  f129 := Tryd.func155.trans (congrArg some (by kernel_rfl))
  f246 := Tryd.func141.trans (congrArg some (by kernel_rfl))
  f283 := Tryd.func165.trans (congrArg some (by kernel_rfl))
  f284 := Tryd.func166.trans (congrArg some (by kernel_rfl))
  f285 := Tryd.func167.trans (congrArg some (by kernel_rfl))
  f286 := Tryd.func168.trans (congrArg some (by kernel_rfl))
  f317 := Tryd.func184.trans (congrArg some (by kernel_rfl))
  f318 := Tryd.func185.trans (congrArg some (by kernel_rfl))
  f319 := Tryd.func186.trans (congrArg some (by kernel_rfl))
  f320 := Tryd.func187.trans (congrArg some (by kernel_rfl))
  f337 := Tryd.func192.trans (congrArg some (by kernel_rfl))
  f338 := Tryd.func193.trans (congrArg some (by kernel_rfl))
  t0 := Tryd.underlying0
  a0 := Tryd.isAgg0
  z0 := Tryd.sizeOf0
  v0 := Tryd.zeroValue0
  t2 := Tryd.underlying2
  a2 := Tryd.isAgg2
  z2 := Tryd.sizeOf2
  v2 := Tryd.zeroValue2
  t3 := Tryd.underlying3
  a3 := Tryd.isAgg3
  z3 := Tryd.sizeOf3
  v3 := Tryd.zeroValue3
  t4 := Tryd.underlying4
  a4 := Tryd.isAgg4
  z4 := Tryd.sizeOf4
  v4 := Tryd.zeroValue4
  t5 := Tryd.underlying5
  a5 := Tryd.isAgg5
  z5 := Tryd.sizeOf5
  v5 := Tryd.zeroValue5
  t9 := Tryd.underlying9
  a9 := Tryd.isAgg9
  z9 := Tryd.sizeOf9
  v9 := Tryd.zeroValue9
  t20 := Tryd.underlying20
  a20 := Tryd.isAgg20
  z20 := Tryd.sizeOf20
  v20 := Tryd.zeroValue20
  t37 := Tryd.underlying22
  a37 := Tryd.isAgg22
  z37 := Tryd.sizeOf22
  v37 := Tryd.zeroValue22
  t46 := Tryd.underlying162
  a46 := Tryd.isAgg162
  z46 := Tryd.sizeOf162
  v46 := Tryd.zeroValue162
  t51 := Tryd.underlying190
  a51 := Tryd.isAgg190
  z51 := Tryd.sizeOf190
  v51 := Tryd.zeroValue190
  t53 := Tryd.underlying120
  a53 := Tryd.isAgg120
  z53 := Tryd.sizeOf120
  v53 := Tryd.zeroValue120
  t171 := Tryd.underlying200
  a171 := Tryd.isAgg200
  z171 := Tryd.sizeOf200
  v171 := Tryd.zeroValue200
  t173 := Tryd.underlying202
  a173 := Tryd.isAgg202
  z173 := Tryd.sizeOf202
  v173 := Tryd.zeroValue202
  t212 := Tryd.underlying217
  a212 := Tryd.isAgg217
  z212 := Tryd.sizeOf217
  v212 := Tryd.zeroValue217
  t213 := Tryd.underlying218
  a213 := Tryd.isAgg218
  z213 := Tryd.sizeOf218
  t232 := Tryd.underlying226
  a232 := Tryd.isAgg226
  z232 := Tryd.sizeOf226
  v232 := Tryd.zeroValue226
  t233 := Tryd.underlying227
  a233 := Tryd.isAgg227
  z233 := Tryd.sizeOf227
  v233 := Tryd.zeroValue227
  g17 := by kernel_rfl
  g18 := by kernel_rfl
  g19 := by kernel_rfl
  i0 := by kernel_rfl
  i2 := by kernel_rfl
  i3 := by kernel_rfl
  i4 := by kernel_rfl
  i5 := by kernel_rfl
  i9 := by kernel_rfl
  i20 := by kernel_rfl
  i37 := by kernel_rfl
  i46 := by kernel_rfl
  i51 := by kernel_rfl
  i53 := by kernel_rfl
  i171 := by kernel_rfl
  i173 := by kernel_rfl
  i212 := by kernel_rfl
  i232 := by kernel_rfl
  i233 := by kernel_rfl
  m17 := by kernel_rfl
  m18 := by kernel_rfl
  m19 := by kernel_rfl }
open Go.RowKit Go.Sort Go.Lib in
/-- internal/strconv.FormatInt: "FormatInt returns the string representation of i in the given base": AT BASE 10: i's decimal numeral, for every int64. The world behind the call: the world before it, new blocks behind the heap, draws. (LAID: no walk: one application.) -/
theorem Tryd.internal_strconv_FormatInt_10 (n : Int) (h0 : -9223372036854775808 ≤ n) (h1 : n ≤ 9223372036854775807) (w : World) (htab : Lib.TabIs Tryd.prog w "internal/strconv.uint64pow10" .u64 Lib.pow10Tab) :
    Calls Tryd.prog 141 #[.int .i64 n, .int .i64 10] w fun e w' => e = .returned (.string ⟨(Lib.itoa n).toArray⟩) ∧ ∃ k os, w' = grow (w.drewN k) os := Any.internal_strconv_FormatInt_10 Tryd.laysM246 n h0 h1 w htab
end Go.Proofs
/- A contract of the library's own words, for the walk by a symbolic frame: it answers, and only new blocks come. -/
namespace Go.Sy
open Go.Sort
theorem pur_calls {P : Program} {f : FuncId} {args : List SV} {vs : List Value} {h : Hp} {Y : Type} {val : Y → SV} {v : Value} (r : Y) (hvs : valsE [] args = some vs) (hv : valE [] (val r) = some v)
    (hc : ∀ w : World, (∀ (b : Nat) (o : Obj), h b = some o → w.heap[b]? = some o) → Calls P f vs.toArray w fun (e : Ending) (w' : World) => e = .returned v ∧ (∀ (b : Nat) (o : Obj), w.heap[b]? = some o → w'.heap[b]? = some o) ∧ Ge w w') : Pur P f args h val r := by
  intro _ _ vs' h0 h1 h2
  rw [hvs] at h1
  obtain rfl := Option.some.inj h1
  have e : h = h0 := by simpa [addsE] using h2
  subst e
  intro k N w hd
  refine (hc w hd.ext).mono fun e w' ⟨he, hk, hg⟩ => ?_
  exact ⟨v, h, he, ⟨r, h, hv, rfl, fun b hb => (by cases hb), rfl, rfl⟩, ⟨fun b o hb => hk b o (hd.ext b o hb), fun b o hb => ⟨hk b o (hd.hid b o hb).1, (hd.hid b o hb).2⟩, hd.size.trans hg⟩⟩
theorem grow_keep {w : World} {k : Nat} {os : Array Obj} : (∀ (b : Nat) (o : Obj), w.heap[b]? = some o → (grow (w.drewN k) os).heap[b]? = some o) ∧ Ge w (grow (w.drewN k) os) := by
  refine ⟨fun b o hb => ?_, ⟨by simp [grow, World.drewN], rfl, rfl, rfl, Nat.le_add_right _ _⟩⟩
  have hlt := (Array.getElem?_eq_some_iff.1 hb).1
  show (w.heap ++ os)[b]? = some o
  rw [Array.getElem?_append_left hlt]; exact hb
end Go.Sy
