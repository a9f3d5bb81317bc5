/- The walk by a symbolic frame: operations that compute, and leave the world as it is. -/
import Derived.Test.YtkamfnmbidnhdaaDoorSyB
set_option linter.unusedVariables false
set_option linter.unusedSimpArgs false
set_option linter.unusedSectionVars false
namespace Go.Sy
def nth {α : Type} : List α → Nat → Option α
  | [], _ => none
  | x :: _, 0 => some x
  | _ :: r, n + 1 => nth r n
theorem nth_eq {α : Type} : ∀ (l : List α) (n : Nat), nth l n = l[n]?
  | [], _ => by simp [nth]
  | x :: r, 0 => by simp [nth]
  | x :: r, n + 1 => by simp [nth, nth_eq r n]
def dropE {α : Type} : Nat → List α → Option (List α)
  | 0, l => some l
  | n + 1, _ :: r => dropE n r
  | _ + 1, [] => none
def takeE {α : Type} : Nat → List α → Option (List α)
  | 0, _ => some []
  | n + 1, x :: r => match takeE n r with
    | some l => some (x :: l)
    | none => none
  | _ + 1, [] => none
theorem dropE_eq {α : Type} : ∀ (n : Nat) (l r : List α), dropE n l = some r → n ≤ l.length ∧ r = l.drop n
  | 0, l, r, h => by simp [dropE] at h; subst h; simp
  | n + 1, x :: l, r, h => by simp only [dropE] at h; obtain ⟨h1, h2⟩ := dropE_eq n l r h; exact ⟨by simp; exact h1, by simpa using h2⟩
  | n + 1, [], r, h => by simp [dropE] at h
theorem takeE_eq {α : Type} : ∀ (n : Nat) (l r : List α), takeE n l = some r → n ≤ l.length ∧ r = l.take n
  | 0, l, r, h => by simp [takeE] at h; subst h; simp
  | n + 1, x :: l, r, h => by
    simp only [takeE] at h
    split at h
    · rename_i l' hl
      obtain ⟨h1, h2⟩ := takeE_eq n l l' hl
      have := Option.some.inj h
      subst this; subst h2
      exact ⟨by simp; exact h1, by simp⟩
    · cases h
  | n + 1, [], r, h => by simp [takeE] at h
/-- Cells cs, from off on: the value of a variable of such a type. -/
def partE (ti : TI) (off : Nat) (cs : List SV) : Option SV :=
  match dropE off cs with
  | none => none
  | some r => match ti.kind.agg with
    | true => match takeE ti.size r with
      | some l => some (.ag l)
      | none => none
    | false => match r with
      | [] => none
      | s :: _ => some s
/-- The cells of a value. -/
def cellsE (agg : Bool) : SV → Option (List SV)
  | .ag cs => some cs
  | .tu _ => none
  | s => match agg with
    | true => none
    | false => match s with
      | .v (.agg _) => none
      | .v (.tuple _) => none
      | s' => some [s']
def ikn : IntKind → Nat
  | .i8 => 0 | .i16 => 1 | .i32 => 2 | .i64 => 3 | .u8 => 4 | .u16 => 5 | .u32 => 6 | .u64 => 7
theorem ikn_inj {k k' : IntKind} (h : Nat.beq (ikn k) (ikn k') = true) : k = k' := by
  have := Nat.eq_of_beq_eq_true h
  cases k <;> cases k' <;> first | rfl | (simp [ikn] at this)
def cmpE (op : BinOp) (a b : Int) : Option SV :=
  match op with
  | .eql => some (.v (.bool (decide (a = b))))
  | .neq => some (.v (.bool (decide (a ≠ b))))
  | .lss => some (.v (.bool (decide (a < b))))
  | .leq => some (.v (.bool (decide (a ≤ b))))
  | .gtr => some (.v (.bool (decide (b < a))))
  | .geq => some (.v (.bool (decide (b ≤ a))))
  | _ => none
def binE (op : BinOp) : SV → SV → Option SV
  | .v (.int k a), .v (.int k' b) => match Nat.beq (ikn k) (ikn k') with
    | true => cmpE op a b
    | false => none
  | .v (.string a), .v (.string b) => match op with
    | .eql => some (.v (.bool (decide (a.toList = b.toList))))
    | .neq => some (.v (.bool (decide (a.toList ≠ b.toList))))
    | _ => none
  | _, _ => none
def fieldE (T : List (Nat × TI)) (s f : Nat) : Option (Nat × Nat × Bool) :=
  match kget T s with
  | some ti => match ti.kind with
    | .struct fs => nth fs f
    | _ => none
  | none => none
def evs (tm : Tm) : List Operand → Option (List SV)
  | [] => some []
  | x :: r => match ev tm x with
    | none => none
    | some s => match evs tm r with
      | none => none
      | some l => some (s :: l)
/-- What an operation that leaves the world as it is yields. -/
def pev (T : List (Nat × TI)) (tm : Tm) (L : Lm) (op : Op) : Option SV :=
  match op with
  | .move x => ev tm x
  | .assign x => ev tm x
  | .pick c a b => match ev tm c with
    | some (.v (.bool true)) => ev tm a
    | some (.v (.bool false)) => ev tm b
    | _ => none
  | .nilCheck x => match ev tm x with
    | some (.p i off) => some (.p i off)
    | some (.v (.pointer (some a))) => some (.v (.pointer (some a)))
    | some (.fn (.func f) a b) => some (.fn (.func f) a b)
    | some (.v (.func (.func f) a b)) => some (.v (.func (.func f) a b))
    | _ => none
  | .unOp .not _ x => match ev tm x with
    | some (.v (.bool b)) => some (.v (.bool (!b)))
    | _ => none
  | .binOp op _ x y _ => match ev tm x with
    | none => none
    | some sx => match ev tm y with
      | none => none
      | some sy => binE op sx sy
  | .fieldAddr s x f => match fieldE T s f with
    | none => none
    | some (_, 0, _) => none
    | some (o, _ + 1, _) => match ev tm x with
      | some (.p i off) => some (.p i (off + o))
      | some (.v (.pointer (some ⟨b, off, none⟩))) => some (.v (.pointer (some ⟨b, off + o, none⟩)))
      | _ => none
  | .load t x => match kget T t with
    | none => none
    | some ti => match ev tm x with
      | some (.p i off) => match kget L i with
        | none => none
        | some B => partE ti off B.cells
      | _ => none
  | .extract x i => match ev tm x with
    | some (.tu l) => nth l i
    | _ => none
  | .makeFunc fn a b => match evs tm a.toList with
    | none => none
    | some l => match evs tm b.toList with
      | none => none
      | some r => some (.fn fn l r)
  | .call { callee := .builtin .len, args := ⟨[x]⟩, argTypes := ⟨[t]⟩ } => match kget T t with
    | none => none
    | some ti => match ti.kind with
      | .slice _ => match ev tm x with
        | some (.v (.slice _ n _)) => some (.v (.int .i64 n))
        | _ => none
      | .str => match ev tm x with
        | some (.v (.string s)) => some (.v (.int .i64 s.size))
        | _ => none
      | _ => none
  | _ => none
section
variable {P : Program} {T : List (Nat × TI)} {tm : Tm} {L : Lm} {n : FN} {N : World} {β : Nat → Nat} {u k : Hp} {a : Act} {w : World}
theorem evs_ok (ht : RelT n L β tm a) : ∀ {l : List Operand} {r : List SV}, evs tm l = some r → l.map a.eval = SV.dens β r ∧ SV.oks L r = true
  | [], r, h => by simp only [evs, Option.some.injEq] at h; subst h; exact ⟨rfl, rfl⟩
  | x :: l, r, h => by
    simp only [evs] at h
    split at h
    · cases h
    · rename_i s hs
      split at h
      · cases h
      · rename_i l' hl
        have h' := Option.some.inj h
        subst h'
        obtain ⟨h1, h2⟩ := evs_ok ht hl
        exact ⟨by simp only [List.map_cons, SV.dens, h1, Sy.ev_ok ht hs], by simp only [SV.oks, h2, ev_oks ht hs, Bool.and_true]⟩
theorem cell_of {b off : Nat} {cs : Array Value} {t : TypeId} {fr : Nat × Nat} (h : w.heap[b]? = some (.cells cs t fr)) : w.cell? ⟨b, off, none⟩ = cs[off]? := by
  simp [World.cell?, h]
theorem run_loadCells_at {b off : Nat} {cs : Array Value} {t : TypeId} {fr : Nat × Nat} (h : w.heap[b]? = some (.cells cs t fr)) (l : List Value) (hl : ∀ j v, l[j]? = some v → cs[off + j]? = some v) :
    (loadCells ⟨b, off, none⟩ l.length).run P w = .ok l.toArray w := by
  refine run_loadCells_list w ⟨b, off, none⟩ l fun j v hj => ?_
  have : (⟨b, off, none⟩ : Addr).add j = ⟨b, off + j, none⟩ := by simp only [Addr.add]; split <;> simp_all
  rw [this, cell_of h]; exact hl j v hj
theorem partE_ok {ti : TI} {off : Nat} {cs : List SV} {s : SV} {b : Nat} {t : TypeId} {bt : TypeId} {fr : Nat × Nat} (hc : chk P t ti = true) (h : partE ti off cs = some s)
    (hb : w.heap[b]? = some (.cells (SV.dens β cs).toArray bt fr)) : (loadVar t ⟨b, off, none⟩).run P w = .ok (s.den β) w := by
  unfold partE at h
  split at h
  · cases h
  · rename_i r hr
    obtain ⟨h1, rfl⟩ := dropE_eq _ _ _ hr
    unfold loadVar
    rw [Sem.run_bind, run_agg hc]
    simp only [Result.andThen_ok]
    split at h
    · rename_i hagg
      split at h
      · rename_i l hl
        obtain ⟨h2, rfl⟩ := takeE_eq _ _ _ hl
        have h' := Option.some.inj h
        subst h'
        simp only [hagg, if_true, Sem.run_bind, run_size hc, Result.andThen_ok]
        have hlen : ti.size = (SV.dens β ((cs.drop off).take ti.size)).length := by rw [dens_map]; simp at h2 ⊢; omega
        have := run_loadCells_at (P := P) (off := off) hb (SV.dens β ((cs.drop off).take ti.size)) (fun j v hj => by
          rw [dens_map] at hj ⊢
          simp only [List.map_take, List.map_drop, List.getElem?_take, List.getElem?_drop] at hj
          split at hj
          · simpa using hj
          · cases hj)
        rw [← hlen] at this
        rw [this]
        simp [SV.den]
      · cases h
    · rename_i hagg
      split at h
      · cases h
      · rename_i s' r' hs
        have h' := Option.some.inj h
        subst h'
        simp only [hagg, Bool.false_eq_true, if_false, run_load, cell_of hb]
        have : (SV.dens β cs).toArray[off]? = some (s'.den β) := by
          have : cs[off]? = some s' := by
            have := congrArg (fun l => l[0]?) hs
            simpa using this
          rw [dens_map]; simp [this]
        rw [this]
theorem partE_oks {ti : TI} {off : Nat} {cs : List SV} {s : SV} (h : partE ti off cs = some s) (hc : SV.oks L cs = true) : s.ok L = true := by
  rw [oks_all] at hc
  unfold partE at h
  split at h
  · cases h
  · rename_i r hr
    obtain ⟨h1, rfl⟩ := dropE_eq _ _ _ hr
    split at h
    · split at h
      · rename_i l hl
        obtain ⟨h2, rfl⟩ := takeE_eq _ _ _ hl
        have h' := Option.some.inj h
        subst h'
        simp only [SV.ok, oks_all]
        exact List.all_eq_true.2 fun x hx => List.all_eq_true.1 hc x (List.mem_of_mem_drop (List.mem_of_mem_take hx))
      · cases h
    · split at h
      · cases h
      · rename_i s' r' hs
        have h' := Option.some.inj h
        subst h'
        exact List.all_eq_true.1 hc _ (List.mem_of_mem_drop (i := off) (by rw [hs]; exact List.mem_cons_self))
theorem fieldE_ok (hT : TOK P T) {s f o z : Nat} {g : Bool} (h : fieldE T s f = some (o, z, g)) :
    ∃ fields fd, P.underlying s = some (.struct fields) ∧ fields[f]? = some fd ∧ fd.offset = o ∧ cells1 P fd.type = z ∧ isAggB P fd.type = g := by
  unfold fieldE at h
  split at h
  · rename_i ti hti
    split at h
    · rename_i fs hfs
      obtain ⟨d, hd, hk⟩ := chk_desc (hT s ti hti)
      rw [hfs] at hk
      cases d with
      | struct fields =>
        simp only [kfits, decide_eq_true_eq] at hk
        rw [nth_eq, hk] at h
        simp only [List.getElem?_map, Array.getElem?_toList] at h
        obtain ⟨fd, hfd, he⟩ := Option.map_eq_some_iff.1 h
        simp only [Prod.mk.injEq] at he
        exact ⟨fields, fd, hd, hfd, he.1, he.2.1, he.2.2⟩
      | _ => simp [kfits] at hk
    · cases h
  · cases h
theorem cmpE_ok {op : BinOp} {x y : Int} {s : SV} (h : cmpE op x y = some s) : (Op.intCmp op x y).run P w = .ok (s.den β) w ∧ s.ok L = true := by
  unfold cmpE at h
  split at h <;> first | (cases h; done) | (have h' := Option.some.inj h; subst h'; refine ⟨?_, rfl⟩; simp [Op.intCmp, SV.den, bne, BEq.beq])
theorem binE_ok {op : BinOp} {t : TypeId} {x y s : SV} (h : binE op x y = some s) : (binOp op t (x.den β) (y.den β)).run P w = .ok (s.den β) w ∧ s.ok L = true ∧ ∀ X Y, eqGuard op t X Y (x.den β) (y.den β) = pure () := by
  unfold binE at h
  split at h
  · rename_i k p k' q
    split at h
    · rename_i hk
      have := ikn_inj hk
      subst this
      have hc := cmpE_ok (P := P) (w := w) (β := β) (L := L) h
      refine ⟨?_, hc.2, fun X Y => by simp only [SV.den]; exact eqGuard_at_int ..⟩
      simp only [SV.den]
      rw [← hc.1]
      cases op <;> first | (simp [cmpE] at h; done) | simp [binOp]
    · cases h
  · rename_i p q
    refine ⟨?_, ?_, fun X Y => by simp only [SV.den]; exact eqGuard_at_string ..⟩
    · simp only [SV.den]
      split at h <;> first | (cases h; done) | (have h' := Option.some.inj h; subst h'; simp [binOp, Op.stringOp, SV.den]; rw [Bool.eq_iff_iff]; simp)
    · split at h <;> first | (cases h; done) | (have h' := Option.some.inj h; subst h'; rfl)
  · cases h
set_option maxHeartbeats 1000000 in
theorem pev_ok (hT : TOK P T) {o : Oper} {op : Op} {s : SV} (ho : o.op = op) (h : pev T tm L op = some s) (ht : RelT n L β tm a) (hd : Den β L u k N w) :
    (execOp a.eval o).run P w = .ok (.value (s.den β)) w ∧ s.ok L = true := by
  unfold pev at h
  split at h
  · -- move
    refine ⟨?_, ev_oks ht h⟩
    simp [execOp, ho, ev_ok ht h]
  · refine ⟨?_, ev_oks ht h⟩
    simp [execOp, ho, ev_ok ht h]
  · -- pick
    rename_i c x y
    split at h
    · rename_i hc
      have := ev_ok ht hc
      exact ⟨by simp [execOp, ho, ev_ok ht hc, ev_ok ht h, SV.den, asBool], ev_oks ht h⟩
    · rename_i hc
      exact ⟨by simp [execOp, ho, ev_ok ht hc, ev_ok ht h, SV.den, asBool], ev_oks ht h⟩
    · cases h
  · -- nilCheck
    rename_i x
    split at h
    · rename_i hx; have h' := Option.some.inj h; subst h'
      exact ⟨by simp [execOp, ho, ev_ok ht hx, SV.den], ev_oks ht hx⟩
    · rename_i hx; have h' := Option.some.inj h; subst h'
      exact ⟨by simp [execOp, ho, ev_ok ht hx, SV.den], ev_oks ht hx⟩
    · rename_i hx; have h' := Option.some.inj h; subst h'
      exact ⟨by simp [execOp, ho, ev_ok ht hx, SV.den], ev_oks ht hx⟩
    · rename_i hx; have h' := Option.some.inj h; subst h'
      exact ⟨by simp [execOp, ho, ev_ok ht hx, SV.den], ev_oks ht hx⟩
    · cases h
  · -- not
    rename_i x
    split at h
    · rename_i hx; have h' := Option.some.inj h; subst h'
      exact ⟨by simp [execOp, ho, ev_ok ht hx, SV.den, Op.unary], rfl⟩
    · cases h
  · -- binOp
    rename_i op t x y t'
    split at h
    · cases h
    · rename_i sx hx
      split at h
      · cases h
      · rename_i sy hy
        obtain ⟨h1, h2, h3⟩ := binE_ok (P := P) (w := w) (β := β) (L := L) (t := t) h
        exact ⟨by simp [execOp, ho, ev_ok ht hx, ev_ok ht hy, h3, h1], h2⟩
  · -- fieldAddr
    rename_i s' x f
    split at h
    · cases h
    · cases h
    · rename_i off0 z g hf
      obtain ⟨fields, fd, h1, h2, h3, h4, h5⟩ := fieldE_ok hT hf
      have hz : (sizeOf fd.type).run P w = .ok (z + 1) w := by
        unfold cells1 at h4
        cases hi : P.info? fd.type with
        | none => simp [hi] at h4
        | some i => simp [hi] at h4; simp [sizeOf, typeInfo, program, Sem.run, hi, h4]
      split at h
      · rename_i i off hx
        have h' := Option.some.inj h; subst h'
        refine ⟨?_, show (SV.p i off).ok L = true from ev_oks ht hx⟩
        simp [execOp, ho, ev_ok ht hx, SV.den, Instr.fieldAt, run_und h1, h2, Instr.sureAddr, fieldPlace, hz, h3]
        simp only [Addr.add]; split <;> simp_all
      · rename_i b off hx
        have h' := Option.some.inj h; subst h'
        refine ⟨?_, rfl⟩
        simp [execOp, ho, ev_ok ht hx, SV.den, Instr.fieldAt, run_und h1, h2, Instr.sureAddr, fieldPlace, hz, h3]
        simp only [Addr.add]; split <;> simp_all
      · cases h
  · -- load
    rename_i t x
    split at h
    · cases h
    · rename_i ti hti
      split at h
      · rename_i i off hx
        split at h
        · cases h
        · rename_i B hB
          obtain ⟨g1, _, g3⟩ := hd.loc i B hB
          refine ⟨?_, partE_oks h g3⟩
          simp [execOp, ho, ev_ok ht hx, SV.den, Instr.loadAt, Instr.sureAddr, partE_ok (hT t ti hti) h g1]
      · cases h
  · -- extract
    rename_i x i
    split at h
    · rename_i l hx
      rw [nth_eq] at h
      have hk := ev_oks ht hx
      simp only [SV.ok, oks_all] at hk
      refine ⟨?_, List.all_eq_true.1 hk _ (List.mem_of_getElem? h)⟩
      simp [execOp, ho, ev_ok ht hx, SV.den, Instr.extract, dens_map, h]
    · cases h
  · -- makeFunc
    rename_i fn p q
    split at h
    · cases h
    · rename_i l hl
      split at h
      · cases h
      · rename_i r hr
        have h' := Option.some.inj h; subst h'
        obtain ⟨g1, g2⟩ := evs_ok ht hl
        obtain ⟨g3, g4⟩ := evs_ok ht hr
        refine ⟨?_, by simp [SV.ok, g2, g4]⟩
        have e1 : p.map a.eval = (SV.dens β l).toArray := by rw [← g1]; exact Array.toList_inj.1 (by simp)
        have e2 : q.map a.eval = (SV.dens β r).toArray := by rw [← g3]; exact Array.toList_inj.1 (by simp)
        simp [execOp, ho, Instr.makeFunc, SV.den, e1, e2]
  · -- len
    rename_i x t
    split at h
    · cases h
    · rename_i ti hti
      obtain ⟨d, hd', hk⟩ := chk_desc (hT t ti hti)
      split at h
      · rename_i e he
        rw [he] at hk
        cases d <;> simp [kfits] at hk
        split at h
        · rename_i p m c hx
          have h' := Option.some.inj h; subst h'
          refine ⟨?_, rfl⟩
          simp [execOp, ho, ev_ok ht hx, SV.den, resolve, invoke, builtin, Builtin.len_, run_und hd', goInt]
        · cases h
      · rename_i he
        rw [he] at hk
        cases d <;> simp [kfits] at hk
        split at h
        · rename_i p hx
          have h' := Option.some.inj h; subst h'
          refine ⟨?_, rfl⟩
          simp [execOp, ho, ev_ok ht hx, SV.den, resolve, invoke, builtin, Builtin.len_, run_und hd', goInt]
        · cases h
      · cases h
  · cases h
end
end Go.Sy
