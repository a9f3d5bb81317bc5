/- The walk by a symbolic frame: regions that draw their order; what is read first is read from a part of the heap that stays. -/
import Derived.Test.YtkamfnmbidnhdaaDoorSyR
set_option linter.unusedVariables false
set_option linter.unusedSimpArgs false
set_option linter.unusedSectionVars false
namespace Go.Sy
set_option linter.unusedVariables false
section
variable {P : Program} {T : List (Nat × TI)} {F : Fr} {tm : Tm} {L : Lm} {u : Hp} {β : Nat → Nat} {a : Act} {w : World} {Q : Exit → Act → World → Prop}
theorem Run.fullStill {F : Fr} {Z : Act → World → Prop} {l lo : List Oper} {β0 : Nat → Nat} {a : Act} {w : World} {u0 : Hp} (h : Run P (nf Z) F tm L u0 .still l lo) (hf : Fence F L β0) (ht : RelT F.n L β0 tm a) (hd : Den β0 L u0 F.k F.N w) :
    wpStillC P l.toArray (fun w => Den β0 L u0 F.k F.N w) (fun a' => ∀ w', Den β0 L u0 F.k F.N w' → Z a' w') lo a := h β0 a w hf ht hd
theorem wpStillC_imp {ops : Array Oper} {C : World → Prop} {K K' : Act → Prop} (hK : ∀ a, K a → K' a) : ∀ {lo : List Oper} {a : Act}, wpStillC P ops C K lo a → wpStillC P ops C K' lo a
  | [], a, h => hK a h
  | o :: r, a, h => by
    have h' : (if _ then _ else _) := h
    show (if _ then _ else _)
    split
    · rename_i hw; rw [if_pos hw] at h'; obtain ⟨v, h1, h2⟩ := h'; exact ⟨v, h1, wpStillC_imp hK h2⟩
    · rename_i hw; rw [if_neg hw] at h'; exact wpStillC_imp hK h'
theorem wpAnyC_preW {md : Region.Mode} {C : World → Prop} {pres : Nat → Bool} {Z : Act → World → Prop} {l : List Oper} (hsel : Region.noSelect l.toArray = true) (π : List Nat) (lo : List Oper) (listed : Array Bool) (a : Act) (w : World) (fuel : Nat) (h : selE l π = some lo) (hB : preB md l.toArray pres π listed = true) (hC : C w)
    (H : wpStillC P l.toArray C (fun a' => wpAnyC P md l.toArray pres C (nf Z) fuel (lst π listed) a' w) lo a) : wpAnyC P md l.toArray pres C (nf Z) (fuel + π.length) listed a w := by
  induction π generalizing lo listed a with
  | nil => simp only [selE, Option.some.injEq] at h; subst h; exact H
  | cons i r ih =>
    simp only [selE] at h
    split at h
    · rename_i o ho
      split at h
      · rename_i x hx
        have e := Option.some.inj h; subst e
        rw [nth_eq] at ho
        have ho' : l.toArray[i]? = some o := by simpa using ho
        simp only [preB, Bool.and_eq_true] at hB
        obtain ⟨⟨⟨hr, hf⟩, hp⟩, hB'⟩ := hB
        have hpre : ∀ j oj, l.toArray[j]? = some oj → pres j = false → ∃ e ∈ oj.after, Region.binds md e = true ∧ e.on = i := fun j oj hj hpj => by
          have := List.all_eq_true.1 hp j (List.mem_range.2 (Array.getElem?_eq_some_iff.1 hj).1)
          simp only [hpj, hj, Bool.false_or] at this
          obtain ⟨e, he, hb⟩ := Array.any_eq_true'.1 this
          simp only [Bool.and_eq_true, beq_iff_eq] at hb
          exact ⟨e, he, hb.1, hb.2⟩
        have key : ∀ v, Still P l.toArray C o v a → wpStillC P l.toArray C (fun a' => wpAnyC P md l.toArray pres C (nf Z) fuel (lst r (listed.setIfInBounds i true)) a' w) x (a.put o.dst v) →
            wpAnyC P md l.toArray pres C (nf Z) (fuel + (r.length + 1)) listed a w := fun v hv hK => by
          refine wpAnyC_first ho' (Region.noSelect_spec hsel) hpre (fuel + r.length) listed a w (Region.free_spec ho' hf) (by simpa using hr) hC hv ?_
          exact ih x _ _ hx hB' hK
        have H' : (if Region.wanted o (yielded l.toArray a.tmps) then _ else _) := H
        split at H'
        · rename_i hw
          obtain ⟨v, h1, h2⟩ := H'
          exact key v (.inl ⟨hw, h1⟩) h2
        · rename_i hw
          exact key undef (.inr ⟨by simpa using hw, rfl⟩) H'
      · cases h
    · cases h
/-- A region that draws its order, and has effects: π, which only reads, and that from u0, is taken first. -/
theorem r_any2 {id : Nat} {l : List Oper} (π : List Nat) (late : List Nat) (u0 : Hp) (hu : Le u0 u) {lo : List Oper} {fuel : Nat} {listed : Array Bool} (hm : P.follows .mixedOrders = true) (hsel : Region.noSelect l.toArray = true) (hlo : selE l π = some lo)
    (hB : preB .any l.toArray (fun j => !late.contains j) π (Array.replicate l.length false) = true) (hf : l.length = fuel + π.length) (hl : lst π (Array.replicate l.length false) = listed) (hK : F.K = [])
    (h : ∀ β0, Run P (nf (fun a w => Cls F L u β0 w → Ex P l (fun j => !late.contains j) (Cls F L u0 β0) (Q .normal) fuel listed a w)) (fen F L β0) tm L u0 .still l lo) : St F tm L u (fun a w => (Code.region id l.toArray true).wp P Q a w) := by
  intro β a w hfe ht hd
  refine wp_mono (wp_region_any (Q := nf (Q .normal)) hm ?_) (fun e a w hq => by cases e <;> first | exact hq | exact hq.elim)
  have hd1 : Cls F L u β { w with drawn := w.drawn + 1 } := hd.drew
  have hd' : Cls F L u0 β { w with drawn := w.drawn + 1 } := hd1.weak hu
  have hfe' : Fence (fen F L β) L β := fun i hi => ⟨rfl, keysOf_get.1 hi⟩
  refine wpAny_of_C _ _ _ _ (pres := fun j => !late.contains j) (C := Cls F L u0 β) ?_
  have := h β β a _ hfe' ht hd'
  rw [show l.toArray.size = fuel + π.length by simpa using hf]
  subst hl
  have hrep : (Array.replicate (fuel + π.length) false) = Array.replicate l.length false := by rw [hf]
  rw [hrep]
  refine wpAnyC_preW hsel π lo _ a _ fuel hlo hB hd' (wpStillC_imp (fun a' h' => h' _ hd' hd1) this)
theorem Den.moved {β' : Nat → Nat} {k : Hp} {N : World} (hb : ∀ i, (kget L i).isSome = true → β' i = β i) (hd : Den β L u k N w) : Den β' L u k N w :=
  ⟨fun i B hB => by
      obtain ⟨h1, h2, h3⟩ := hd.loc i B hB
      have hi := hb i (by rw [hB]; rfl)
      exact ⟨by rw [hi, dens_same hb _ h3]; exact h1, by rw [hi]; exact h2, h3⟩,
    fun i j hi hj e => hd.inj i j hi hj (by rw [← hb i hi, ← hb j hj]; exact e), fun b o h => ⟨(hd.ext b o h).1, fun i hi e => (hd.ext b o h).2 i hi (by rw [← hb i hi]; exact e)⟩,
    fun b o h => ⟨(hd.hid b o h).1, (hd.hid b o h).2.1, fun i hi e => (hd.hid b o h).2.2 i hi (by rw [← hb i hi]; exact e)⟩, hd.size⟩
theorem a_full {u0 : Hp} {β0 : Nat → Nat} {K : Act → World → Prop} (h : St (fen F L β0) tm L u K) : St (fen F L β0) tm L u0 (nf (fun a w => Cls F L u β0 w → K a w) .normal) := by
  intro β a w hf ht hd hc
  refine h β a w hf ht (Den.moved (fun i hi => (hf i (keysOf_get.2 hi)).1) hc)
end
end Go.Sy
namespace Go.Sy
section
variable {P : Program} {F : Fr} {tm : Tm} {L : Lm} {u : Hp}
theorem allR_nil {pres : Nat → Bool} {C : World → Prop} {Z : Act → World → Prop} {l : List Oper} {fuel : Nat} {listed : Array Bool} : AllR P F tm L u l pres C Z fuel listed [] := trivial
theorem allR_cons {pres : Nat → Bool} {C : World → Prop} {Z : Act → World → Prop} {l : List Oper} {fuel : Nat} {listed : Array Bool} {i : Nat} {r : List Nat} {o : Oper} (ho : nth l i = some o)
    (h1 : Run P (nf (NextQ P l pres C Z fuel listed i)) F tm L u .seq l [o]) (h2 : AllR P F tm L u l pres C Z fuel listed r) : AllR P F tm L u l pres C Z fuel listed (i :: r) := ⟨⟨o, ho, h1⟩, h2⟩
theorem Le.off {h u u' : Hp} {g : Nat} (hl : Le h u) (hg : h g = none) (hu : ∀ x, x ≠ g → u' x = u x) : Le h u' := fun x o hx => by
  rw [hu x (fun e => by subst e; rw [hg] at hx; cases hx)]; exact hl x o hx
end
end Go.Sy
namespace Go.Sy
def bindE (e : Edge) : Bool := match e.ground with
  | .textOnly _ => false
  | .gcOnly _ => false
  | _ => true
def getE : List Bool → Nat → Bool → Bool
  | [], _, d => d
  | b :: _, 0, _ => b
  | _ :: r, n + 1, d => getE r n d
theorem getE_eq : ∀ (l : List Bool) (i : Nat) (d : Bool), getE l i d = l[i]?.getD d
  | [], i, d => by simp [getE]
  | b :: r, 0, d => by simp [getE]
  | b :: r, n + 1, d => by simp [getE, getE_eq r n d]
def setB : List Bool → Nat → List Bool
  | [], _ => []
  | _ :: r, 0 => true :: r
  | b :: r, n + 1 => b :: setB r n
theorem setB_eq : ∀ (l : List Bool) (i : Nat), setB l i = l.set i true
  | [], i => by simp [setB]
  | b :: r, 0 => by simp [setB]
  | b :: r, n + 1 => by simp [setB, setB_eq r n]
def allE (lb : List Bool) : List Edge → Bool
  | [] => true
  | e :: r => match bindE e with
    | false => allE lb r
    | true => match getE lb e.on false with
      | true => allE lb r
      | false => false
theorem allE_eq (lb : List Bool) : ∀ es : List Edge, allE lb es = es.all fun e => !Region.binds .any e || lb.toArray.getD e.on false
  | [] => rfl
  | e :: r => by
    have hb : Region.binds .any e = bindE e := by unfold Region.binds bindE; cases e.ground <;> rfl
    have hg : lb.toArray.getD e.on false = getE lb e.on false := by rw [getE_eq, Array.getD_eq_getD_getElem?]; simp
    simp only [allE, List.all_cons, hb, hg, ← allE_eq lb r]
    cases bindE e <;> cases getE lb e.on false <;> simp
def readyGo (l : List Oper) (lb : List Bool) : List Oper → List Bool → Nat → List Nat
  | [], _, _ => []
  | o :: r, [], i => []
  | o :: r, b :: bs, i => match b with
    | true => readyGo l lb r bs (i + 1)
    | false => match allE lb o.after.toList with
      | true => i :: readyGo l lb r bs (i + 1)
      | false => readyGo l lb r bs (i + 1)
theorem readyGo_eq (l : List Oper) (lb : List Bool) : ∀ (r : List Oper) (bs : List Bool) (i : Nat), r.length = bs.length → (∀ j, (l[i + j]?) = r[j]?) → (∀ j, lb[i + j]? = bs[j]?) →
    readyGo l lb r bs i = (List.range' i r.length).filter fun i => !lb.toArray.getD i true && ((l.toArray[i]?).map (·.after.all fun e => !Region.binds .any e || lb.toArray.getD e.on false)).getD false
  | [], bs, i, h, h1, h2 => by simp [readyGo]
  | o :: r, [], i, h, h1, h2 => by simp at h
  | o :: r, b :: bs, i, h, h1, h2 => by
    have ih := readyGo_eq l lb r bs (i + 1) (by simpa using h) (fun j => by have := h1 (j + 1); simpa [Nat.add_assoc, Nat.add_comm 1] using this) (fun j => by have := h2 (j + 1); simpa [Nat.add_assoc, Nat.add_comm 1] using this)
    have e1 : l[i]? = some o := by have := h1 0; simpa using this
    have e2 : lb[i]? = some b := by have := h2 0; simpa using this
    have e3 : lb.toArray.getD i true = b := by rw [Array.getD_eq_getD_getElem?]; simp [e2]
    have e4 : (o.after.all fun e => !Region.binds .any e || lb.toArray.getD e.on false) = allE lb o.after.toList := by rw [allE_eq, ← Array.all_toList]
    simp only [readyGo, List.length_cons, List.range'_succ, List.filter_cons, e3, List.getElem?_toArray, e1, Option.map_some, Option.getD_some, e4]
    cases b <;> cases allE lb o.after.toList <;> simp [ih]
theorem ready_eq {l : List Oper} {lb : List Bool} (h : l.length = lb.length) : Region.ready .any l.toArray lb.toArray = readyGo l lb l lb 0 := by
  rw [readyGo_eq l lb l lb 0 h (fun j => by simp) (fun j => by simp)]
  unfold Region.ready
  simp [List.range_eq_range']
def falses : Nat → List Bool
  | 0 => []
  | n + 1 => false :: falses n
theorem falses_eq : ∀ n, falses n = List.replicate n false
  | 0 => rfl
  | n + 1 => by simp [falses, falses_eq n, List.replicate_succ]
def lsB : List Nat → List Bool → List Bool
  | [], l => l
  | i :: r, l => lsB r (setB l i)
theorem lsB_eq : ∀ (π : List Nat) (l : List Bool), lst π l.toArray = (lsB π l).toArray
  | [], l => rfl
  | i :: r, l => by simp only [lst, lsB]; rw [← lsB_eq r]; simp [setB_eq]
section
variable {P : Program} {T : List (Nat × TI)} {F : Fr} {tm : Tm} {L : Lm} {u : Hp} {β : Nat → Nat} {a : Act} {w : World} {Q : Exit → Act → World → Prop}
abbrev ExL (P : Program) (l : List Oper) (pres : Nat → Bool) (C : World → Prop) (Z : Act → World → Prop) (fuel : Nat) (lb : List Bool) : Act → World → Prop := Ex P l pres C Z fuel lb.toArray
theorem r_many {id : Nat} {l : List Oper} (π : List Nat) (late : List Nat) (u0 : Hp) (hu : Le u0 u) {lo : List Oper} {fuel : Nat} {lb : List Bool} (hm : P.follows .mixedOrders = true) (hsel : Region.noSelect l.toArray = true) (hlo : selE l π = some lo)
    (hB : preB .any l.toArray (fun j => !late.contains j) π (Array.replicate l.length false) = true) (hf : l.length = fuel + π.length) (hl : lsB π (falses l.length) = lb) (hK : F.K = [])
    (h : ∀ β0, Run P (nf (fun a w => Cls F L u β0 w → ExL P l (fun j => !late.contains j) (Cls F L u0 β0) (Q .normal) fuel lb a w)) (fen F L β0) tm L u0 .still l lo) : St F tm L u (fun a w => (Code.region id l.toArray true).wp P Q a w) :=
  r_any2 π late u0 hu hm hsel hlo hB hf (by rw [← hl, ← lsB_eq, falses_eq]; simp) hK h
theorem m_step {pres : Nat → Bool} {C : World → Prop} {Z : Act → World → Prop} {l : List Oper} {fuel : Nat} {lb : List Bool} {rs : List Nat} (hlen : lenIs lb l.length = true) (hr : readyGo l lb l lb 0 = rs) (hne : rs ≠ []) (h : AllR P F tm L u l pres C Z fuel lb.toArray rs) :
    St F tm L u (ExL P l pres C Z (fuel + 1) lb) := a_step (by rw [ready_eq (lenIs_eq hlen).symm, hr]) hne h
theorem m_keep {L0 : Lm} {u0 : Hp} {F0 : Fr} {β0 : Nat → Nat} {pres : Nat → Bool} {Z : Act → World → Prop} {l : List Oper} {fuel : Nat} {lb lb' : List Bool} {i : Nat} (hu : Le u0 u) (hL : kall L L0) (hc : Lm.cl L0 = true) (hl : setB lb i = lb')
    (h : St (fen F0 L0 β0) tm L u (ExL P l pres (Cls F0 L0 u0 β0) Z fuel lb')) : St (fen F0 L0 β0) tm L u (nf (NextQ P l pres (Cls F0 L0 u0 β0) Z fuel lb.toArray i) .normal) :=
  a_keep hL hc hu (by rw [← hl, setB_eq]; simp) h
theorem m_late {C : World → Prop} {pres : Nat → Bool} {Z : Act → World → Prop} {l : List Oper} {fuel : Nat} {lb lb' : List Bool} {i : Nat} (hp : pres i = false) (hl : setB lb i = lb')
    (h : St F tm L u (ExL P l pres C Z fuel lb')) : St F tm L u (nf (NextQ P l pres C Z fuel lb.toArray i) .normal) := a_late hp (by rw [← hl, setB_eq]; simp) h
theorem m_end {L0 : Lm} {β0 : Nat → Nat} {C : World → Prop} {pres : Nat → Bool} {Z : Act → World → Prop} {l : List Oper} {lb : List Bool} (hlen : lenIs lb l.length = true) (hr : readyGo l lb l lb 0 = []) (hK : F.K = []) (h : St F tm L u Z) :
    St (fen F L0 β0) tm L u (ExL P l pres C Z 0 lb) := a_end (by rw [ready_eq (lenIs_eq hlen).symm, hr]) hK h
end
end Go.Sy
