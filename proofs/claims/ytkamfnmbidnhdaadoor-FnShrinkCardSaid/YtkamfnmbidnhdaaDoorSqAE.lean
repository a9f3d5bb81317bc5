/- The walk by a symbolic frame: a block of the frame handed to the heap at large; calls of functions with captures. -/
import Derived.Test.YtkamfnmbidnhdaaDoorSqAD
import Derived.Test.YtkamfnmbidnhdaaDoorProg
import Derived.KernelRfl
import Derived.Defers
import Derived.Recover
import Derived.Test.YtkamfnmbidnhdaaDoorSqAC
set_option linter.unusedVariables false
set_option linter.unusedSimpArgs false
set_option linter.unusedSectionVars false
namespace Go.Sy
set_option linter.unusedVariables false
set_option linter.unusedSectionVars false
mutual
/-- Block i by its number. -/
def SV.pub (i b : Nat) : SV → SV
  | .v x => .v x
  | .p j off => match Nat.beq i j with
    | true => .v (.pointer (some ⟨b, off, none⟩))
    | false => .p j off
  | .ag cs => .ag (SV.pubs i b cs)
  | .tu cs => .tu (SV.pubs i b cs)
  | .fn f x y => .fn f (SV.pubs i b x) (SV.pubs i b y)
def SV.pubs (i b : Nat) : List SV → List SV
  | [] => []
  | s :: r => s.pub i b :: SV.pubs i b r
end
def pubT (i b : Nat) : Tm → Tm
  | [] => []
  | (t, s) :: r => (t, s.pub i b) :: pubT i b r
def pubL (i b : Nat) : Lm → Lm
  | [] => []
  | (j, B) :: r => match Nat.beq i j with
    | true => pubL i b r
    | false => (j, ⟨B.name, SV.pubs i b B.cells, B.ty⟩) :: pubL i b r
theorem pubT_get {i b : Nat} : ∀ {tm : Tm} {t : Nat} {s : SV}, kget (pubT i b tm) t = some s → ∃ s0, kget tm t = some s0 ∧ s = s0.pub i b
  | [], t, s, h => by simp [pubT, kget] at h
  | (j, s') :: r, t, s, h => by
    simp only [pubT, kget_cons] at h ⊢
    split at h
    · rename_i e; rw [if_pos e]; exact ⟨s', rfl, (Option.some.inj h).symm⟩
    · rename_i e; rw [if_neg e]; exact pubT_get h
theorem pubL_get {i b : Nat} : ∀ {L : Lm} {j : Nat} {B : Blk}, kget (pubL i b L) j = some B → j ≠ i ∧ ∃ B0, kget L j = some B0 ∧ B = ⟨B0.name, SV.pubs i b B0.cells, B0.ty⟩
  | [], j, B, h => by simp [pubL, kget] at h
  | (x, B') :: r, j, B, h => by
    simp only [pubL] at h
    split at h
    · rename_i e
      have e := Nat.eq_of_beq_eq_true e
      obtain ⟨h1, B0, h2, h3⟩ := pubL_get h
      refine ⟨h1, B0, ?_, h3⟩
      rw [kget_cons, if_neg (by omega)]; exact h2
    · rename_i e
      have e := Nat.ne_of_beq_eq_false e
      rw [kget_cons] at h
      split at h
      · rename_i e'
        refine ⟨by omega, B', ?_, (Option.some.inj h).symm⟩
        rw [kget_cons, if_pos e']
      · rename_i e'
        obtain ⟨h1, B0, h2, h3⟩ := pubL_get h
        exact ⟨h1, B0, by rw [kget_cons, if_neg e']; exact h2, h3⟩
theorem pubL_has {i b : Nat} : ∀ {L : Lm} {j : Nat}, j ≠ i → (kget L j).isSome = true → (kget (pubL i b L) j).isSome = true
  | [], j, _, h => by simp [kget] at h
  | (x, B') :: r, j, hj, h => by
    rw [kget_cons] at h
    simp only [pubL]
    split
    · rename_i e
      have e := Nat.eq_of_beq_eq_true e
      rw [if_neg (by omega)] at h
      exact pubL_has hj h
    · rw [kget_cons]
      split
      · rfl
      · rename_i e'; rw [if_neg e'] at h; exact pubL_has hj h
mutual
theorem pub_den {β : Nat → Nat} {i b : Nat} (h : β i = b) : ∀ s : SV, (s.pub i b).den β = s.den β
  | .v x => rfl
  | .p j off => by
    simp only [SV.pub]
    split
    · rename_i e; have e := Nat.eq_of_beq_eq_true e; subst e; simp only [SV.den, h]
    · rfl
  | .ag cs => by simp only [SV.pub, SV.den, pubs_den h cs]
  | .tu cs => by simp only [SV.pub, SV.den, pubs_den h cs]
  | .fn f x y => by simp only [SV.pub, SV.den, pubs_den h x, pubs_den h y]
theorem pubs_den {β : Nat → Nat} {i b : Nat} (h : β i = b) : ∀ l : List SV, SV.dens β (SV.pubs i b l) = SV.dens β l
  | [] => rfl
  | s :: r => by simp only [SV.pubs, SV.dens, pub_den h s, pubs_den h r]
end
mutual
theorem pub_ok {L : Lm} {i b : Nat} : ∀ s : SV, s.ok L = true → (s.pub i b).ok (pubL i b L) = true
  | .v x, _ => rfl
  | .p j off, h => by
    simp only [SV.pub]
    split
    · rfl
    · rename_i e; exact pubL_has (fun e' => Nat.ne_of_beq_eq_false e e'.symm) h
  | .ag cs, h => by simp only [SV.pub, SV.ok] at *; exact pubs_ok cs h
  | .tu cs, h => by simp only [SV.pub, SV.ok] at *; exact pubs_ok cs h
  | .fn f x y, h => by simp only [SV.pub, SV.ok, Bool.and_eq_true] at *; exact ⟨pubs_ok x h.1, pubs_ok y h.2⟩
theorem pubs_ok {L : Lm} {i b : Nat} : ∀ l : List SV, SV.oks L l = true → SV.oks (pubL i b L) (SV.pubs i b l) = true
  | [], _ => rfl
  | s :: r, h => by simp only [SV.pubs, SV.oks, Bool.and_eq_true] at *; exact ⟨pub_ok s h.1, pubs_ok r h.2⟩
end
section
variable {P : Program} {T : List (Nat × TI)} {F : Fr} {tm : Tm} {L : Lm} {u : Hp} {n : FN} {N : World} {β : Nat → Nat} {k : Hp} {a : Act} {w : World} {Q : Exit → Act → World → Prop}
theorem St.pub {Φ : Act → World → Prop} (i : Nat) {B : Blk} {vs : List Value} (hK : F.K = []) (hB : kget L i = some B) (hv : valsE [] B.cells = some vs)
    (next : ∀ b, u b = none → St F (pubT i b tm) (pubL i b L) (upd u b (.cells vs.toArray B.ty (0, 0))) Φ) (hD : F.n.D = [] := by rfl) : St F tm L u Φ := by
  intro β a w hf ht hd
  obtain ⟨h1, h2, h3⟩ := hd.loc i B hB
  have hi : (kget L i).isSome = true := by rw [hB]; rfl
  have hu : u (β i) = none := by
    cases h : u (β i) with
    | none => rfl
    | some o => exact absurd rfl ((hd.ext _ o h).2 i hi)
  rw [valsE_den (L := []) (fun j B b h => by simp [kget] at h) hv] at h1
  refine next (β i) hu β a w (fun j hj => by rw [hK] at hj; cases hj) ⟨ht.size, ht.defers, by rw [hD]; rfl, fun t s hs => ?_⟩ ⟨fun j B' hB' => ?_, fun x y hx hy => ?_, fun x o hx => ?_, fun x o hx => ⟨(hd.hid x o hx).1, ?_, fun j hj => ?_⟩, hd.size⟩
  · obtain ⟨s0, g1, rfl⟩ := pubT_get hs
    rw [pub_den rfl]
    exact ⟨(ht.get t s0 g1).1, pub_ok s0 (ht.get t s0 g1).2⟩
  · obtain ⟨_, B0, g1, rfl⟩ := pubL_get hB'
    obtain ⟨x1, x2, x3⟩ := hd.loc j B0 g1
    exact ⟨by rw [pubs_den rfl]; exact x1, x2, pubs_ok _ x3⟩
  · obtain ⟨Bx, hBx⟩ := Option.isSome_iff_exists.1 hx
    obtain ⟨By, hBy⟩ := Option.isSome_iff_exists.1 hy
    obtain ⟨_, _, g1, _⟩ := pubL_get hBx
    obtain ⟨_, _, g2, _⟩ := pubL_get hBy
    exact hd.inj x y (by rw [g1]; rfl) (by rw [g2]; rfl)
  · have hne : ∀ j, (kget (pubL i (β i) L) j).isSome = true → j ≠ i ∧ (kget L j).isSome = true := fun j hj => by
      obtain ⟨Bj, hBj⟩ := Option.isSome_iff_exists.1 hj
      obtain ⟨g0, _, g1, _⟩ := pubL_get hBj
      exact ⟨g0, by rw [g1]; rfl⟩
    by_cases hxb : x = β i
    · subst hxb
      rw [upd_here] at hx; have e := Option.some.inj hx; subst e
      exact ⟨h1, fun j hj e => (hne j hj).1 (hd.inj j i (hne j hj).2 hi e)⟩
    · rw [upd_ne hxb] at hx
      exact ⟨(hd.ext x o hx).1, fun j hj => (hd.ext x o hx).2 j (hne j hj).2⟩
  · rw [upd_ne (fun e => (hd.hid x o hx).2.2 i hi e.symm)]; exact (hd.hid x o hx).2.1
  · obtain ⟨Bj, hBj⟩ := Option.isSome_iff_exists.1 hj
    obtain ⟨_, _, g1, _⟩ := pubL_get hBj
    exact (hd.hid x o hx).2.2 j (by rw [g1]; rfl)
def vsv : List Value → List SV
  | [] => []
  | v :: r => .v v :: vsv r
theorem vsv_den (β : Nat → Nat) : ∀ l : List Value, SV.dens β (vsv l) = l
  | [] => rfl
  | v :: r => by simp only [vsv, SV.dens, SV.den, vsv_den β r]
/-- A function value with captures, read from the heap. -/
def calleeV (tm : Tm) (c : Call) : Option (FuncId × List SV) :=
  match c.callee with
  | .value x => match ev tm x with
    | some (.v (.func (.func f) ⟨[]⟩ ⟨b⟩)) => match evs tm c.args.toList with
      | some l => some (f, l ++ vsv b)
      | none => none
    | _ => none
  | _ => none
theorem calleeV_ok {o : Oper} {c : Call} {f : FuncId} {svs : List SV} (hop : o.op = .call c) (h : calleeV tm c = some (f, svs)) (hc : callable P f = true) (ht : RelT n L β tm a) :
    (execOp a.eval o).run P w = .ok (.enter f (SV.dens β svs).toArray) w := by
  unfold callable at hc
  split at hc
  · rename_i fn hfn
    simp only [Bool.and_eq_true, Bool.not_eq_true', beq_eq_false_iff_ne, ne_eq] at hc
    have hcall : ∀ args, (callFunc f args).run P w = .ok (.enter f args) w := fun args => by
      obtain ⟨cd, h2⟩ := Option.isSome_iff_exists.1 hc.2
      simp [callFunc, program, Sem.run, hfn, hc.1, h2]
    unfold calleeV at h
    split at h
    · rename_i x hx
      have hargs : ∀ l, evs tm c.args.toList = some l → c.args.map a.eval = (SV.dens β l).toArray := fun l hl => by
        rw [← (evs_ok ht hl).1]; exact Array.toList_inj.1 (by simp)
      split at h
      · rename_i f' b hv
        split at h
        · rename_i l hl
          have e := Option.some.inj h
          simp only [Prod.mk.injEq] at e
          obtain ⟨rfl, rfl⟩ := e
          have hb : SV.dens β (l ++ vsv b) = SV.dens β l ++ b := by rw [dens_map, List.map_append, ← dens_map, ← dens_map, vsv_den]
          simp [execOp, hop, resolve, hx, ev_ok ht hv, SV.den, Deferred.ofValue, hargs l hl, invoke, hcall, hb]
        · cases h
      · cases h
    · cases h
  · cases hc
theorem r_callV {l : List Oper} {o : Oper} {r : List Oper} {d : Nat} {c : Call} {f : FuncId} {svs args : List SV} {vs : List Value} {Y : Type} {val : Y → SV} {ψ : Y → Hp → Prop}
    (htri : TriS P f args [] u val (fun _ => []) ψ) (hw : wantE l tm o = some true) (ho : o.dst = some d) (hn : Nat.blt d F.n.z = true) (hop : o.op = .call c) (hcal : calleeV tm c = some (f, svs)) (hc : callable P f = true) (hvs' : valsE [] args = some vs) (hvs : valsE L svs = some vs)
    (next : ∀ y u', ψ y u' → Run P Q F ((d, val y) :: tm) L u' .seq l r) : Run P Q F tm L u .seq l (o :: r) := by
  intro β a w hf ht hd
  show (if _ then _ else _)
  rw [if_pos (wantE_ok hw ht)]
  refine .inl ?_
  unfold Oper.wp
  rw [calleeV_ok hop hcal hc ht, Oper.upon_enter, valsE_den hd.bn hvs]
  refine (htri List.nodup_nil (fun b hb => by simp [names] at hb) vs u hvs' rfl _ _ w (den0_of hd)).mono ?_
  rintro e w' ⟨v, h'', rfl, ⟨y, h', h1, h2, h3, h4⟩, h5⟩
  simp only [addsE, Option.some.injEq] at h2; subst h2
  have hk : (val y).ok [] = true := valE_ok h1
  have hk' : (val y).ok L = true := ok_more (fun i hi => by simp [kget] at hi) _ hk
  have hv : (val y).den β = v := valE_den (L := []) (fun i B b hB => by simp [kget] at hB) h1
  simp only [ho, ← hv]
  exact next y h' h4 β _ w' hf (put_rel hn ht hk') (den_back hd h5)
/-- What is not S's stays, and becomes not S''s. -/
def Keep (u : Hp) (S : Nat → Prop) (u' : Hp) (S' : Nat → Prop) : Prop := ∀ x o, u x = some o → ¬ S x → u' x = some o ∧ ¬ S' x
theorem Keep.refl (u : Hp) (S : Nat → Prop) : Keep u S u S := fun x o h hs => ⟨h, hs⟩
theorem Keep.trans {u v z : Hp} {S S' S'' : Nat → Prop} (h : Keep u S v S') (g : Keep v S' z S'') : Keep u S z S'' := fun x o hx hs => let ⟨a, b⟩ := h x o hx hs; g x o a b
theorem Keep.le {u v h : Hp} {S S' : Nat → Prop} (k : Keep u S v S') (hl : Le h u) (hs : ∀ b, S b → h b = none) : Le h v ∧ ∀ b, S' b → h b = none := by
  have key : ∀ b o, h b = some o → v b = some o ∧ ¬ S' b := fun b o hb => k b o (hl b o hb) (fun hS => by rw [hs b hS] at hb; cases hb)
  refine ⟨fun b o hb => (key b o hb).1, fun b hb => ?_⟩
  cases hh : h b with
  | none => rfl
  | some o => exact absurd hb (key b o hh).2
theorem Grown.keep {u u' : Hp} {A A' : Option Addr} (h : Grown u u' A A') : Keep u (fun b => blk A = some b) u' (fun b => blk A' = some b) := fun x o hx hs => by
  obtain ⟨h1, h2⟩ := h (fun y => if y = x then some o else none) (fun b o' hb => by
    simp only at hb; split at hb
    · rename_i e; subst e; rw [← Option.some.inj hb]; exact hx
    · cases hb) (fun b hb => by
    simp only; split
    · rename_i e; subst e; exact absurd hb hs
    · rfl)
  refine ⟨h1 x o (by simp), fun hb => ?_⟩
  have := h2 x hb
  simp at this
end
end Go.Sy
/- The walk by a symbolic frame: guards. -/
namespace Go.Sy
set_option linter.unusedVariables false
def guardE (l : List Oper) (o : Oper) : Option Nat :=
  match o.guard with
  | some (j, _) => match nth l j with
    | some oj => oj.dst
    | none => none
  | none => none
section
variable {P : Program} {F : Fr} {tm : Tm} {L : Lm} {u : Hp} {Q : Exit → Act → World → Prop}
theorem q_guard {q : Md} {l r : List Oper} {o : Oper} {d : Nat} {p : Prop} [Decidable p] (hg : guardE l o = some d) (hd : kget tm d = some (.v (.bool (decide p)))) (h1 : p → Run P Q F ((d, .v (.bool true)) :: tm) L u q l (o :: r)) (h2 : ¬ p → Run P Q F ((d, .v (.bool false)) :: tm) L u q l (o :: r)) :
    Run P Q F tm L u q l (o :: r) := q_case d hd (fun h => h1 (of_decide_eq_true h)) (fun h => h2 (of_decide_eq_false h))
theorem q_guardn {q : Md} {l r : List Oper} {o : Oper} {d : Nat} {p : Prop} [Decidable p] (hg : guardE l o = some d) (hd : kget tm d = some (.v (.bool (!decide p)))) (h1 : ¬ p → Run P Q F ((d, .v (.bool true)) :: tm) L u q l (o :: r)) (h2 : p → Run P Q F ((d, .v (.bool false)) :: tm) L u q l (o :: r)) :
    Run P Q F tm L u q l (o :: r) := q_case d hd (fun h => h1 (by simpa using h)) (fun h => h2 (by simpa using h))
end
end Go.Sy
/- The walk by a symbolic frame: regions that draw their order; what is read first is read from a part of the heap that stays. -/
namespace Go.Sy
set_option linter.unusedVariables false
section
variable {P : Program} {T : List (Nat × TI)} {F : Fr} {tm : Tm} {L : Lm} {u : Hp} {β : Nat → Nat} {a : Act} {w : World} {Q : Exit → Act → World → Prop}
theorem wpStillC_imp {ops : Array Oper} {C : World → Prop} {K K' : Act → Prop} (hK : ∀ a, K a → K' a) : ∀ {lo : List Oper} {a : Act}, wpStillC P ops C K lo a → wpStillC P ops C K' lo a
  | [], a, h => hK a h
  | o :: r, a, h => by
    have h' : (if _ then _ else _) := h
    show (if _ then _ else _)
    split
    · rename_i hw; rw [if_pos hw] at h'; obtain ⟨v, h1, h2⟩ := h'; exact ⟨v, h1, wpStillC_imp hK h2⟩
    · rename_i hw; rw [if_neg hw] at h'; exact wpStillC_imp hK h'
theorem wpAnyC_preW {md : Region.Mode} {C : World → Prop} {pres : Nat → Bool} {Z : Act → World → Prop} {l : List Oper} (hsel : Region.noSelect l.toArray = true) (π : List Nat) (lo : List Oper) (listed : Array Bool) (a : Act) (w : World) (fuel : Nat) (h : selE l π = some lo) (hB : preB md l.toArray pres π listed = true) (hC : C w)
    (H : wpStillC P l.toArray C (fun a' => wpAnyC P md l.toArray pres C (nf Z) fuel (lst π listed) a' w) lo a) : wpAnyC P md l.toArray pres C (nf Z) (fuel + π.length) listed a w := by
  induction π generalizing lo listed a with
  | nil => simp only [selE, Option.some.injEq] at h; subst h; exact H
  | cons i r ih =>
    simp only [selE] at h
    split at h
    · rename_i o ho
      split at h
      · rename_i x hx
        have e := Option.some.inj h; subst e
        rw [nth_eq] at ho
        have ho' : l.toArray[i]? = some o := by simpa using ho
        simp only [preB, Bool.and_eq_true] at hB
        obtain ⟨⟨⟨hr, hf⟩, hp⟩, hB'⟩ := hB
        have hpre : ∀ j oj, l.toArray[j]? = some oj → pres j = false → ∃ e ∈ oj.after, Region.binds md e = true ∧ e.on = i := fun j oj hj hpj => by
          have := List.all_eq_true.1 hp j (List.mem_range.2 (Array.getElem?_eq_some_iff.1 hj).1)
          simp only [hpj, hj, Bool.false_or] at this
          obtain ⟨e, he, hb⟩ := Array.any_eq_true'.1 this
          simp only [Bool.and_eq_true, beq_iff_eq] at hb
          exact ⟨e, he, hb.1, hb.2⟩
        have key : ∀ v, Still P l.toArray C o v a → wpStillC P l.toArray C (fun a' => wpAnyC P md l.toArray pres C (nf Z) fuel (lst r (listed.setIfInBounds i true)) a' w) x (a.put o.dst v) →
            wpAnyC P md l.toArray pres C (nf Z) (fuel + (r.length + 1)) listed a w := fun v hv hK => by
          refine wpAnyC_first ho' (Region.noSelect_spec hsel) hpre (fuel + r.length) listed a w (Region.free_spec ho' hf) (by simpa using hr) hC hv ?_
          exact ih x _ _ hx hB' hK
        have H' : (if Region.wanted o (yielded l.toArray a.tmps) then _ else _) := H
        split at H'
        · rename_i hw
          obtain ⟨v, h1, h2⟩ := H'
          exact key v (.inl ⟨hw, h1⟩) h2
        · rename_i hw
          exact key undef (.inr ⟨by simpa using hw, rfl⟩) H'
      · cases h
    · cases h
/-- A region that draws its order, and has effects: π, which only reads, and that from u0, is taken first. -/
theorem r_any2 {id : Nat} {l : List Oper} (π : List Nat) (late : List Nat) (u0 : Hp) (hu : Le u0 u) {lo : List Oper} {fuel : Nat} {listed : Array Bool} (hm : P.follows .mixedOrders = true) (hsel : Region.noSelect l.toArray = true) (hlo : selE l π = some lo)
    (hB : preB .any l.toArray (fun j => !late.contains j) π (Array.replicate l.length false) = true) (hf : l.length = fuel + π.length) (hl : lst π (Array.replicate l.length false) = listed) (hK : F.K = [])
    (h : ∀ β0, Run P (nf (fun a w => Cls F L u β0 w → Ex P l (fun j => !late.contains j) (Cls F L u0 β0) (Q .normal) fuel listed a w)) (fen F L β0) tm L u0 .still l lo) : St F tm L u (fun a w => (Code.region id l.toArray true).wp P Q a w) := by
  intro β a w hfe ht hd
  refine wp_mono (wp_region_any (Q := nf (Q .normal)) hm ?_) (fun e a w hq => by cases e <;> first | exact hq | exact hq.elim)
  have hd1 : Cls F L u β { w with drawn := w.drawn + 1 } := hd.drew
  have hd' : Cls F L u0 β { w with drawn := w.drawn + 1 } := hd1.weak hu
  have hfe' : Fence (fen F L β) L β := fun i hi => ⟨rfl, keysOf_get.1 hi⟩
  refine wpAny_of_C _ _ _ _ (pres := fun j => !late.contains j) (C := Cls F L u0 β) ?_
  have := h β β a _ hfe' ht hd'
  rw [show l.toArray.size = fuel + π.length by simpa using hf]
  subst hl
  have hrep : (Array.replicate (fuel + π.length) false) = Array.replicate l.length false := by rw [hf]
  rw [hrep]
  refine wpAnyC_preW hsel π lo _ a _ fuel hlo hB hd' (wpStillC_imp (fun a' h' => h' _ hd' hd1) this)
theorem Den.moved {β' : Nat → Nat} {k : Hp} {N : World} (hb : ∀ i, (kget L i).isSome = true → β' i = β i) (hd : Den β L u k N w) : Den β' L u k N w :=
  ⟨fun i B hB => by
      obtain ⟨h1, h2, h3⟩ := hd.loc i B hB
      have hi := hb i (by rw [hB]; rfl)
      exact ⟨by rw [hi, dens_same hb _ h3]; exact h1, by rw [hi]; exact h2, h3⟩,
    fun i j hi hj e => hd.inj i j hi hj (by rw [← hb i hi, ← hb j hj]; exact e), fun b o h => ⟨(hd.ext b o h).1, fun i hi e => (hd.ext b o h).2 i hi (by rw [← hb i hi]; exact e)⟩,
    fun b o h => ⟨(hd.hid b o h).1, (hd.hid b o h).2.1, fun i hi e => (hd.hid b o h).2.2 i hi (by rw [← hb i hi]; exact e)⟩, hd.size⟩
theorem a_full {u0 : Hp} {β0 : Nat → Nat} {K : Act → World → Prop} (h : St (fen F L β0) tm L u K) : St (fen F L β0) tm L u0 (nf (fun a w => Cls F L u β0 w → K a w) .normal) := by
  intro β a w hf ht hd hc
  refine h β a w hf ht (Den.moved (fun i hi => (hf i (keysOf_get.2 hi)).1) hc)
end
end Go.Sy
namespace Go.Sy
section
variable {P : Program} {F : Fr} {tm : Tm} {L : Lm} {u : Hp}
theorem allR_nil {pres : Nat → Bool} {C : World → Prop} {Z : Act → World → Prop} {l : List Oper} {fuel : Nat} {listed : Array Bool} : AllR P F tm L u l pres C Z fuel listed [] := trivial
theorem allR_cons {pres : Nat → Bool} {C : World → Prop} {Z : Act → World → Prop} {l : List Oper} {fuel : Nat} {listed : Array Bool} {i : Nat} {r : List Nat} {o : Oper} (ho : nth l i = some o)
    (h1 : Run P (nf (NextQ P l pres C Z fuel listed i)) F tm L u .seq l [o]) (h2 : AllR P F tm L u l pres C Z fuel listed r) : AllR P F tm L u l pres C Z fuel listed (i :: r) := ⟨⟨o, ho, h1⟩, h2⟩
theorem Le.off {h u u' : Hp} {g : Nat} (hl : Le h u) (hg : h g = none) (hu : ∀ x, x ≠ g → u' x = u x) : Le h u' := fun x o hx => by
  rw [hu x (fun e => by subst e; rw [hg] at hx; cases hx)]; exact hl x o hx
end
end Go.Sy
namespace Go.Sy
def bindE (e : Edge) : Bool := match e.ground with
  | .textOnly _ => false
  | .gcOnly _ => false
  | _ => true
def getE : List Bool → Nat → Bool → Bool
  | [], _, d => d
  | b :: _, 0, _ => b
  | _ :: r, n + 1, d => getE r n d
theorem getE_eq : ∀ (l : List Bool) (i : Nat) (d : Bool), getE l i d = l[i]?.getD d
  | [], i, d => by simp [getE]
  | b :: r, 0, d => by simp [getE]
  | b :: r, n + 1, d => by simp [getE, getE_eq r n d]
def setB : List Bool → Nat → List Bool
  | [], _ => []
  | _ :: r, 0 => true :: r
  | b :: r, n + 1 => b :: setB r n
theorem setB_eq : ∀ (l : List Bool) (i : Nat), setB l i = l.set i true
  | [], i => by simp [setB]
  | b :: r, 0 => by simp [setB]
  | b :: r, n + 1 => by simp [setB, setB_eq r n]
def allE (lb : List Bool) : List Edge → Bool
  | [] => true
  | e :: r => match bindE e with
    | false => allE lb r
    | true => match getE lb e.on false with
      | true => allE lb r
      | false => false
theorem allE_eq (lb : List Bool) : ∀ es : List Edge, allE lb es = es.all fun e => !Region.binds .any e || lb.toArray.getD e.on false
  | [] => rfl
  | e :: r => by
    have hb : Region.binds .any e = bindE e := by unfold Region.binds bindE; cases e.ground <;> rfl
    have hg : lb.toArray.getD e.on false = getE lb e.on false := by rw [getE_eq, Array.getD_eq_getD_getElem?]; simp
    simp only [allE, List.all_cons, hb, hg, ← allE_eq lb r]
    cases bindE e <;> cases getE lb e.on false <;> simp
def readyGo (l : List Oper) (lb : List Bool) : List Oper → List Bool → Nat → List Nat
  | [], _, _ => []
  | o :: r, [], i => []
  | o :: r, b :: bs, i => match b with
    | true => readyGo l lb r bs (i + 1)
    | false => match allE lb o.after.toList with
      | true => i :: readyGo l lb r bs (i + 1)
      | false => readyGo l lb r bs (i + 1)
theorem readyGo_eq (l : List Oper) (lb : List Bool) : ∀ (r : List Oper) (bs : List Bool) (i : Nat), r.length = bs.length → (∀ j, (l[i + j]?) = r[j]?) → (∀ j, lb[i + j]? = bs[j]?) →
    readyGo l lb r bs i = (List.range' i r.length).filter fun i => !lb.toArray.getD i true && ((l.toArray[i]?).map (·.after.all fun e => !Region.binds .any e || lb.toArray.getD e.on false)).getD false
  | [], bs, i, h, h1, h2 => by simp [readyGo]
  | o :: r, [], i, h, h1, h2 => by simp at h
  | o :: r, b :: bs, i, h, h1, h2 => by
    have ih := readyGo_eq l lb r bs (i + 1) (by simpa using h) (fun j => by have := h1 (j + 1); simpa [Nat.add_assoc, Nat.add_comm 1] using this) (fun j => by have := h2 (j + 1); simpa [Nat.add_assoc, Nat.add_comm 1] using this)
    have e1 : l[i]? = some o := by have := h1 0; simpa using this
    have e2 : lb[i]? = some b := by have := h2 0; simpa using this
    have e3 : lb.toArray.getD i true = b := by rw [Array.getD_eq_getD_getElem?]; simp [e2]
    have e4 : (o.after.all fun e => !Region.binds .any e || lb.toArray.getD e.on false) = allE lb o.after.toList := by rw [allE_eq, ← Array.all_toList]
    simp only [readyGo, List.length_cons, List.range'_succ, List.filter_cons, e3, List.getElem?_toArray, e1, Option.map_some, Option.getD_some, e4]
    cases b <;> cases allE lb o.after.toList <;> simp [ih]
theorem ready_eq {l : List Oper} {lb : List Bool} (h : l.length = lb.length) : Region.ready .any l.toArray lb.toArray = readyGo l lb l lb 0 := by
  rw [readyGo_eq l lb l lb 0 h (fun j => by simp) (fun j => by simp)]
  unfold Region.ready
  simp [List.range_eq_range']
def falses : Nat → List Bool
  | 0 => []
  | n + 1 => false :: falses n
theorem falses_eq : ∀ n, falses n = List.replicate n false
  | 0 => rfl
  | n + 1 => by simp [falses, falses_eq n, List.replicate_succ]
def lsB : List Nat → List Bool → List Bool
  | [], l => l
  | i :: r, l => lsB r (setB l i)
theorem lsB_eq : ∀ (π : List Nat) (l : List Bool), lst π l.toArray = (lsB π l).toArray
  | [], l => rfl
  | i :: r, l => by simp only [lst, lsB]; rw [← lsB_eq r]; simp [setB_eq]
section
variable {P : Program} {T : List (Nat × TI)} {F : Fr} {tm : Tm} {L : Lm} {u : Hp} {β : Nat → Nat} {a : Act} {w : World} {Q : Exit → Act → World → Prop}
abbrev ExL (P : Program) (l : List Oper) (pres : Nat → Bool) (C : World → Prop) (Z : Act → World → Prop) (fuel : Nat) (lb : List Bool) : Act → World → Prop := Ex P l pres C Z fuel lb.toArray
theorem r_many {id : Nat} {l : List Oper} (π : List Nat) (late : List Nat) (u0 : Hp) (hu : Le u0 u) {lo : List Oper} {fuel : Nat} {lb : List Bool} (hm : P.follows .mixedOrders = true) (hsel : Region.noSelect l.toArray = true) (hlo : selE l π = some lo)
    (hB : preB .any l.toArray (fun j => !late.contains j) π (Array.replicate l.length false) = true) (hf : l.length = fuel + π.length) (hl : lsB π (falses l.length) = lb) (hK : F.K = [])
    (h : ∀ β0, Run P (nf (fun a w => Cls F L u β0 w → ExL P l (fun j => !late.contains j) (Cls F L u0 β0) (Q .normal) fuel lb a w)) (fen F L β0) tm L u0 .still l lo) : St F tm L u (fun a w => (Code.region id l.toArray true).wp P Q a w) :=
  r_any2 π late u0 hu hm hsel hlo hB hf (by rw [← hl, ← lsB_eq, falses_eq]; simp) hK h
theorem m_step {pres : Nat → Bool} {C : World → Prop} {Z : Act → World → Prop} {l : List Oper} {fuel : Nat} {lb : List Bool} {rs : List Nat} (hlen : lenIs lb l.length = true) (hr : readyGo l lb l lb 0 = rs) (hne : rs ≠ []) (h : AllR P F tm L u l pres C Z fuel lb.toArray rs) :
    St F tm L u (ExL P l pres C Z (fuel + 1) lb) := a_step (by rw [ready_eq (lenIs_eq hlen).symm, hr]) hne h
theorem m_keep {L0 : Lm} {u0 : Hp} {F0 : Fr} {β0 : Nat → Nat} {pres : Nat → Bool} {Z : Act → World → Prop} {l : List Oper} {fuel : Nat} {lb lb' : List Bool} {i : Nat} (hu : Le u0 u) (hL : kall L L0) (hc : Lm.cl L0 = true) (hl : setB lb i = lb')
    (h : St (fen F0 L0 β0) tm L u (ExL P l pres (Cls F0 L0 u0 β0) Z fuel lb')) : St (fen F0 L0 β0) tm L u (nf (NextQ P l pres (Cls F0 L0 u0 β0) Z fuel lb.toArray i) .normal) :=
  a_keep hL hc hu (by rw [← hl, setB_eq]; simp) h
theorem m_late {C : World → Prop} {pres : Nat → Bool} {Z : Act → World → Prop} {l : List Oper} {fuel : Nat} {lb lb' : List Bool} {i : Nat} (hp : pres i = false) (hl : setB lb i = lb')
    (h : St F tm L u (ExL P l pres C Z fuel lb')) : St F tm L u (nf (NextQ P l pres C Z fuel lb.toArray i) .normal) := a_late hp (by rw [← hl, setB_eq]; simp) h
theorem m_end {L0 : Lm} {β0 : Nat → Nat} {C : World → Prop} {pres : Nat → Bool} {Z : Act → World → Prop} {l : List Oper} {lb : List Bool} (hlen : lenIs lb l.length = true) (hr : readyGo l lb l lb 0 = []) (hK : F.K = []) (h : St F tm L u Z) :
    St (fen F L0 β0) tm L u (ExL P l pres C Z 0 lb) := a_end (by rw [ready_eq (lenIs_eq hlen).symm, hr]) hK h
end
end Go.Sy
/- The types and the functions of the translation, for the walk by a symbolic frame (written by wip/tools/sytypes.py). -/
namespace Go.Proofs.YtkamfnmbidnhdaaDoor
open Go.Sy
def TT : List (Nat × TI) := [
  (2, ⟨.int .i64, 1, 8, [.int .i64]⟩),
  (3, ⟨.int .i64, 1, 8, [.int .i64]⟩),
  (4, ⟨.bool, 1, 1, [.bool]⟩),
  (5, ⟨.int .u8, 1, 1, [.int .u8]⟩),
  (9, ⟨.str, 1, 16, [.str]⟩),
  (20, ⟨.ifc, 1, 16, [.ifc]⟩),
  (22, ⟨.slice 5, 1, 24, [.sl]⟩),
  (24, ⟨.slice 25, 1, 24, [.sl]⟩),
  (25, ⟨.slice 3, 1, 24, [.sl]⟩),
  (26, ⟨.slice 76, 1, 24, [.sl]⟩),
  (28, ⟨.struct [(0, 1, false), (1, 1, false), (2, 1, false)], 3, 56, [.int .i64, .sl, .sl]⟩),
  (42, ⟨.struct [(0, 1, false), (1, 1, false), (2, 1, false), (3, 1, false)], 4, 40, [.int .i64, .int .i64, .str, .int .i64]⟩),
  (43, ⟨.slice 135, 1, 24, [.sl]⟩),
  (45, ⟨.struct [(0, 4, true), (4, 1, false)], 5, 64, [.int .i64, .int .i64, .str, .int .i64, .sl]⟩),
  (48, ⟨.struct [(0, 1, false), (1, 1, false), (2, 1, false), (3, 1, false)], 4, 40, [.int .i64, .int .i64, .str, .int .i64]⟩),
  (49, ⟨.slice 59, 1, 24, [.sl]⟩),
  (51, ⟨.struct [(0, 4, true), (4, 1, false)], 5, 64, [.int .i64, .int .i64, .str, .int .i64, .sl]⟩),
  (57, ⟨.slice 61, 1, 24, [.sl]⟩),
  (59, ⟨.struct [(0, 1, false)], 1, 24, [.sl]⟩),
  (61, ⟨.struct [(0, 4, true), (4, 4, true)], 8, 80, [.int .i64, .int .i64, .str, .int .i64, .int .i64, .int .i64, .str, .int .i64]⟩),
  (62, ⟨.slice 48, 1, 24, [.sl]⟩),
  (72, ⟨.ifc, 1, 16, [.ifc]⟩),
  (76, ⟨.struct [(0, 1, false), (1, 1, false)], 2, 16, [.int .i64, .int .i64]⟩),
  (77, ⟨.fn, 1, 8, [.fn]⟩),
  (78, ⟨.ptr, 1, 8, [.ptr]⟩),
  (80, ⟨.struct [(0, 1, false), (1, 1, false), (2, 1, false)], 3, 56, [.sl, .sl, .bool]⟩),
  (89, ⟨.ptr, 1, 8, [.ptr]⟩),
  (90, ⟨.map 3 3, 1, 8, [.mp]⟩),
  (91, ⟨.ptr, 1, 8, [.ptr]⟩),
  (93, ⟨.struct [(0, 1, false), (1, 1, false)], 2, 32, [.ptr, .sl]⟩),
  (95, ⟨.struct [(0, 5, true), (5, 1, false), (6, 1, false), (7, 2, true)], 9, 128, [.int .i64, .int .i64, .str, .int .i64, .sl, .sl, .mp, .ptr, .sl]⟩),
  (103, ⟨.fn, 1, 8, [.fn]⟩),
  (106, ⟨.struct [(0, 1, false), (1, 1, false)], 2, 16, [.int .i64, .int .i64]⟩),
  (108, ⟨.struct [(0, 2, true), (2, 1, false)], 3, 40, [.int .i64, .int .i64, .sl]⟩),
  (109, ⟨.slice 108, 1, 24, [.sl]⟩),
  (110, ⟨.map 106 3, 1, 8, [.mp]⟩),
  (113, ⟨.fn, 1, 8, [.fn]⟩),
  (119, ⟨.ptr, 1, 8, [.ptr]⟩),
  (120, ⟨.int .u64, 1, 8, [.int .u64]⟩),
  (122, ⟨.struct [(0, 1, false), (1, 1, false), (2, 1, false)], 3, 40, [.sl, .int .i64, .int .u64]⟩),
  (126, ⟨.struct [(0, 1, false)], 1, 16, [.ifc]⟩),
  (133, ⟨.slice 196, 1, 24, [.sl]⟩),
  (135, ⟨.struct [(0, 1, false)], 1, 24, [.sl]⟩),
  (138, ⟨.ptr, 1, 8, [.ptr]⟩),
  (140, ⟨.struct [(0, 5, true), (5, 1, false), (6, 1, false), (7, 1, false), (8, 1, false)], 9, 144, [.int .i64, .int .i64, .str, .int .i64, .sl, .sl, .sl, .int .i64, .sl]⟩),
  (143, ⟨.map 48 3, 1, 8, [.mp]⟩),
  (151, ⟨.ptr, 1, 8, [.ptr]⟩),
  (153, ⟨.slice 57, 1, 24, [.sl]⟩),
  (154, ⟨.map 9 3, 1, 8, [.mp]⟩),
  (158, ⟨.fn, 1, 8, [.fn]⟩),
  (162, ⟨.int .u64, 1, 8, [.int .u64]⟩),
  (170, ⟨.ptr, 1, 8, [.ptr]⟩),
  (172, ⟨.struct [(0, 5, true), (5, 1, false), (6, 1, false)], 7, 112, [.int .i64, .int .i64, .str, .int .i64, .sl, .sl, .sl]⟩),
  (183, ⟨.int .i64, 1, 8, [.int .i64]⟩),
  (190, ⟨.int .u32, 1, 4, [.int .u32]⟩),
  (196, ⟨.struct [(0, 4, true), (4, 4, true)], 8, 80, [.int .i64, .int .i64, .str, .int .i64, .int .i64, .int .i64, .str, .int .i64]⟩),
  (200, ⟨.arr 24 5, 24, 24, [.int .u8, .int .u8, .int .u8, .int .u8, .int .u8, .int .u8, .int .u8, .int .u8, .int .u8, .int .u8, .int .u8, .int .u8, .int .u8, .int .u8, .int .u8, .int .u8, .int .u8, .int .u8, .int .u8, .int .u8, .int .u8, .int .u8, .int .u8, .int .u8]⟩),
  (210, ⟨.int .u64, 1, 8, [.int .u64]⟩),
  (214, ⟨.ptr, 1, 8, [.ptr]⟩),
  (217, ⟨.arr 20 120, 20, 160, [.int .u64, .int .u64, .int .u64, .int .u64, .int .u64, .int .u64, .int .u64, .int .u64, .int .u64, .int .u64, .int .u64, .int .u64, .int .u64, .int .u64, .int .u64, .int .u64, .int .u64, .int .u64, .int .u64, .int .u64]⟩),
  (226, ⟨.arr 32 5, 32, 32, [.int .u8, .int .u8, .int .u8, .int .u8, .int .u8, .int .u8, .int .u8, .int .u8, .int .u8, .int .u8, .int .u8, .int .u8, .int .u8, .int .u8, .int .u8, .int .u8, .int .u8, .int .u8, .int .u8, .int .u8, .int .u8, .int .u8, .int .u8, .int .u8, .int .u8, .int .u8, .int .u8, .int .u8, .int .u8, .int .u8, .int .u8, .int .u8]⟩),
  (228, ⟨.ptr, 1, 8, [.ptr]⟩),
  (242, ⟨.struct [(0, 1, false)], 1, 16, [.str]⟩)]
set_option maxRecDepth 100000 in
theorem hT : TOK Tryd.prog TT := TOK.of (by kernel_rfl)
set_option maxRecDepth 100000 in
theorem hC (f : Nat) (h : ([2, 3, 4, 5, 6, 7, 8, 9, 10, 11, 12, 13, 14, 15, 16, 17, 18, 19, 20, 21, 22, 23, 24, 25, 26, 27, 28, 29, 30, 31, 32, 33, 34, 35, 36, 37, 38, 39, 40, 41, 42, 43, 44, 45, 46, 47, 48, 49, 50, 51, 52, 53, 54, 55, 56, 57, 58, 59, 60, 61, 62, 63, 64, 65, 66, 67, 68, 69, 70, 71, 72, 73, 74, 75, 76, 77, 78, 79, 80, 81, 82, 83, 84, 85, 86, 87, 88, 89, 90, 91, 92, 93, 94, 95, 96, 97, 98, 99, 100, 101, 102, 103, 104, 105, 106, 107, 108, 109, 110, 111, 112, 113, 114, 115, 116, 117, 118, 119, 120, 121, 122, 123, 124, 125, 126, 127, 128, 129, 130, 131, 132, 133, 134, 135, 136, 137, 138, 139, 140, 141, 142, 143, 144, 145, 146, 147, 148, 149, 150, 151, 152, 153, 154, 155, 156, 157, 158, 159, 160, 161, 162, 163, 165, 166, 167, 168, 169, 170, 171, 172, 173, 174, 175, 176, 177, 178, 179, 180, 181, 182, 184, 185, 186, 187, 188, 189, 190, 191, 192, 193, 194, 214, 221].contains f) = true) : callable Tryd.prog f = true := by
  have h2 : ([2, 3, 4, 5, 6, 7, 8, 9, 10, 11, 12, 13, 14, 15, 16, 17, 18, 19, 20, 21, 22, 23, 24, 25, 26, 27, 28, 29, 30, 31, 32, 33, 34, 35, 36, 37, 38, 39, 40, 41, 42, 43, 44, 45, 46, 47, 48, 49, 50, 51, 52, 53, 54, 55, 56, 57, 58, 59, 60, 61, 62, 63, 64, 65, 66, 67, 68, 69, 70, 71, 72, 73, 74, 75, 76, 77, 78, 79, 80, 81, 82, 83, 84, 85, 86, 87, 88, 89, 90, 91, 92, 93, 94, 95, 96, 97, 98, 99, 100, 101, 102, 103, 104, 105, 106, 107, 108, 109, 110, 111, 112, 113, 114, 115, 116, 117, 118, 119, 120, 121, 122, 123, 124, 125, 126, 127, 128, 129, 130, 131, 132, 133, 134, 135, 136, 137, 138, 139, 140, 141, 142, 143, 144, 145, 146, 147, 148, 149, 150, 151, 152, 153, 154, 155, 156, 157, 158, 159, 160, 161, 162, 163, 165, 166, 167, 168, 169, 170, 171, 172, 173, 174, 175, 176, 177, 178, 179, 180, 181, 182, 184, 185, 186, 187, 188, 189, 190, 191, 192, 193, 194, 214, 221].all fun f => callable Tryd.prog f) = true := by kernel_rfl
  exact List.all_eq_true.1 h2 f (by simpa using h)
theorem hM : Tryd.prog.follows .mixedOrders = true := by kernel_rfl
end Go.Proofs.YtkamfnmbidnhdaaDoor
/- The walk by a symbolic frame: slices cut, nil compared, min, interfaces, deferred calls, panics. -/
namespace Go.Sy
set_option linter.unusedVariables false
set_option linter.unusedSimpArgs false
def subA (A : Option Addr) (c l sz : Nat) : Option Addr := if c = l then A else A.map (·.add (l * sz))
section
variable {P : Program} {T : List (Nat × TI)} {F : Fr} {tm : Tm} {L : Lm} {u : Hp} {n : FN} {N : World} {β : Nat → Nat} {k : Hp} {a : Act} {w : World} {Q : Exit → Act → World → Prop}
theorem Sl.sub {A : Option Addr} {m c sz l h : Nat} {cs : List Value} (hS : Sl u A m sz cs) (hl : l ≤ h) (hh : h ≤ m) (hc : m ≤ c) : Sl u (subA A c l sz) (h - l) sz ((cs.drop (l * sz)).take ((h - l) * sz)) := by
  have hlen := hS.len
  have hmul : h * sz ≤ m * sz := Nat.mul_le_mul_right _ hh
  have hsub : (h - l) * sz = h * sz - l * sz := Nat.sub_mul _ _ _
  have hml : l * sz ≤ h * sz := Nat.mul_le_mul_right _ hl
  refine ⟨by rw [List.length_take, List.length_drop, hlen]; omega, fun ha => ?_, fun a ha hne => ?_⟩
  · have : A = none := by
      unfold subA at ha
      split at ha
      · exact ha
      · simpa using ha
    have := hS.nil this
    omega
  · unfold subA at ha
    rw [if_neg (by omega)] at ha
    cases A with
    | none => simp at ha
    | some a0 =>
      simp only [Option.map_some, Option.some.injEq] at ha
      obtain ⟨h1, arr, t, fr, h2, h3⟩ := hS.at_ a0 rfl (by omega)
      obtain ⟨b, o, sp⟩ := a0
      simp only at h1; subst h1
      have hadd : (⟨b, o, none⟩ : Addr).add (l * sz) = ⟨b, o + l * sz, none⟩ := by simp only [Addr.add]; split <;> simp_all
      rw [hadd] at ha; subst ha
      refine ⟨rfl, arr, t, fr, h2, fun j v hj => ?_⟩
      rw [List.getElem?_take] at hj
      split at hj
      · rw [List.getElem?_drop] at hj
        have := h3 _ v hj
        rw [← Nat.add_assoc] at this; exact this
      · cases hj
theorem flat_drop {α : Type} {c : α → List Value} {sz : Nat} (hc : ∀ x, (c x).length = sz) : ∀ (i : Nat) (xs : List α), (xs.flatMap c).drop (i * sz) = (xs.drop i).flatMap c
  | 0, xs => by simp
  | i + 1, [] => by simp
  | i + 1, x :: xs => by
    rw [List.flatMap_cons, List.drop_succ_cons, ← flat_drop hc i xs, List.drop_append, List.drop_eq_nil_of_le (by rw [hc, Nat.add_mul]; omega), List.nil_append, hc]
    congr 1; rw [Nat.add_mul]; omega
theorem flat_take {α : Type} {c : α → List Value} {sz : Nat} (hc : ∀ x, (c x).length = sz) : ∀ (i : Nat) (xs : List α), (xs.flatMap c).take (i * sz) = (xs.take i).flatMap c
  | 0, xs => by simp
  | i + 1, [] => by simp
  | i + 1, x :: xs => by
    rw [List.flatMap_cons, List.take_succ_cons, List.flatMap_cons, ← flat_take hc i xs, List.take_append, List.take_of_length_le (by rw [hc, Nat.add_mul]; omega), hc]
    congr 2; rw [Nat.add_mul]; omega
theorem Rd.sub {α : Type} {c : α → List Value} {sz : Nat} (hc : ∀ x, (c x).length = sz) {A : Option Addr} {m cap l h : Nat} {xs : List α} (hS : Rd c sz u A m xs) (hl : l ≤ h) (hh : h ≤ m) (hcap : m ≤ cap) :
    Rd c sz u (subA A cap l sz) (h - l) ((xs.drop l).take (h - l)) := by
  obtain ⟨h1, h2⟩ := hS
  refine ⟨by rw [List.length_take, List.length_drop]; omega, ?_⟩
  have := h2.sub hl hh hcap
  rwa [flat_drop hc, flat_take hc] at this
theorem eqs_n {t e : TypeId} {A : Option Addr} {m c : Nat} (h : P.underlying t = some (.slice e)) (d : Nat) : (Op.equalIn (d + 1) t (.slice A m c) (.slice none 0 0)).run P w = .ok A.isNone w := by
  cases A <;> simp [Op.equalIn, run_und h]
theorem eq_sn {t e : TypeId} {A : Option Addr} {m c : Nat} (h : P.underlying t = some (.slice e)) : (Op.equal t (.slice A m c) (.slice none 0 0)).run P w = .ok A.isNone w := eqs_n h 9999
theorem exec_bin {ρ : Operand → Value} {o : Oper} {op : BinOp} {t t' : TypeId} {x y : Operand} (h : o.op = .binOp op t x y t') : execOp ρ o = (do let v ← (do eqGuard op t x y (ρ x) (ρ y); binOp op t (ρ x) (ρ y) : Sem Value); pure (Next.value v) : Sem Next) := by
  cases o
  simp only at h
  subst h
  rfl
theorem slnil_run {t e : TypeId} {A : Option Addr} {m c : Nat} (h : P.underlying t = some (.slice e)) (x : Operand) :
    (do eqGuard .eql t x (.const (.slice none 0 0)) (.slice A m c) (.slice none 0 0); binOp .eql t (.slice A m c) (.slice none 0 0) : Sem Value).run P w = .ok (.bool A.isNone) w := by
  have hg : eqGuard .eql t x (.const (.slice none 0 0)) (.slice A m c) (.slice none 0 0) = pure () := rfl
  have he : (Op.equal t (.slice A m c) (.slice none 0 0)).run P w = .ok A.isNone w := eq_sn h
  rw [hg, Sem.run_bind, Sem.run_pure, Result.andThen_ok]
  simp only [binOp, Sem.run_bind, he, Result.andThen_ok, Sem.run_pure]
theorem r_slnil (hT : TOK P T) {q : Md} {l : List Oper} {o : Oper} {r : List Oper} {d : Nat} {t t' e : TypeId} {ti : TI} {x : Operand} {A : Option Addr} {m c : Nat} (hw : wantE l tm o = some true) (ho : o.dst = some d) (hn : Nat.blt d F.n.z = true)
    (hop : o.op = .binOp .eql t x (.const (.slice none 0 0)) t') (ht : kget T t = some ti) (hk : ti.kind = .slice e) (hx : ev tm x = some (.v (.slice A m c)))
    (next : Run P Q F ((d, .v (.bool A.isNone)) :: tm) L u q l r) : Run P Q F tm L u q l (o :: r) := by
  refine op_pure hw ho hn (fun β a w ht' hd => ⟨?_, rfl⟩) next
  have hrun := slnil_run (P := P) (w := w) (A := A) (m := m) (c := c) (elem_of hT ht hk) x
  rw [exec_bin hop, ev_ok ht' hx]
  have hc : ∀ v, a.eval (.const v) = v := fun _ => rfl
  rw [hc, Sem.run_bind]
  erw [hrun]
  rfl
end
end Go.Sy
/- The walk by a symbolic frame: a function that defers one closure, which may recover. -/
namespace Go.Sy
set_option linter.unusedVariables false
set_option linter.unusedSimpArgs false
section
variable {P : Program} {T : List (Nat × TI)} {F : Fr} {tm : Tm} {L : Lm} {u : Hp} {N : World} {β : Nat → Nat} {k : Hp} {a : Act} {w : World} {Q : Exit → Act → World → Prop}
end
end Go.Sy
/- Rows of rows, of whatever elements. -/
namespace Go.Sy
/-- A slice of slices of pairs. -/
def TabG {α : Type} (c : α → List Value) (sz : Nat) (u : Hp) (A : Option Addr) (n : Nat) (ts : List (List α)) : Prop :=
  ∃ hs : List Hd, hs.length = ts.length ∧ Rd Hd.v 1 u A n hs ∧ ∀ (i : Nat) (h : Hd) (t : List α), hs[i]? = some h → ts[i]? = some t → h.n ≤ h.c ∧ Rd c sz u h.A h.n t
theorem TabG.le {α : Type} {c : α → List Value} {sz : Nat} {u u' : Hp} {A : Option Addr} {n : Nat} {ts : List (List α)} (h : TabG c sz u A n ts) (hl : Le u u') : TabG c sz u' A n ts :=
  let ⟨hs, h1, h2, h3⟩ := h; ⟨hs, h1, h2.le hl, fun i x t hx ht => ⟨(h3 i x t hx ht).1, (h3 i x t hx ht).2.le hl⟩⟩
theorem TabG.len {α : Type} {c : α → List Value} {sz : Nat} {u : Hp} {A : Option Addr} {n : Nat} {ts : List (List α)} (h : TabG c sz u A n ts) : n = ts.length := let ⟨_, h1, h2, _⟩ := h; h2.1.trans h1
theorem TabG.elem {α : Type} {c : α → List Value} {sz : Nat} {u : Hp} {A : Option Addr} {n : Nat} {ts : List (List α)} (h : TabG c sz u A n ts) {i : Nat} (hi : i < ts.length) :
    ∃ b off A' n' c' t, A = some ⟨b, off, none⟩ ∧ ts.drop i = t :: ts.drop (i + 1) ∧ ts[i]? = some t ∧ t ∈ ts ∧ At u b (off + i * 1) [.slice A' n' c'] ∧ n' ≤ c' ∧ Rd c sz u A' n' t := by
  obtain ⟨hs, h1, h2, h3⟩ := h
  obtain ⟨b, off, x, e1, e2, e3, e4, e5⟩ := h2.elem Hd.v_len (i := i) (by omega)
  have ht := List.getElem?_eq_getElem hi
  obtain ⟨g1, g2⟩ := h3 i x ts[i] e3 ht
  exact ⟨b, off, x.A, x.n, x.c, ts[i], e1, List.drop_eq_getElem_cons hi, ht, List.getElem_mem hi, e5, g1, g2⟩
/-- Rows of their own, all apart, none the block X. -/
structure ORowG {α : Type} (cc : α → List Value) (sz : Nat) (u : Hp) (eP : TypeId) (X : Option Nat) (hs : List Hd) (ts : List (List α)) : Prop where
  len : hs.length = ts.length
  rows : ∀ (i : Nat) (x : Hd) (t : List α), hs[i]? = some x → ts[i]? = some t → x.n = t.length ∧ Own u x.A x.n x.c eP sz (t.flatMap cc)
  apart : ∀ (i : Nat) (x : Hd) (b : Nat), hs[i]? = some x → blk x.A = some b → X ≠ some b ∧ ∀ (j : Nat) (y : Hd), hs[j]? = some y → blk y.A = some b → i = j
theorem ORowG.nil {α : Type} {cc : α → List Value} {sz : Nat} {u : Hp} {eP : TypeId} {X : Option Nat} : ORowG cc sz u eP X [] [] := ⟨rfl, fun i x t h => by simp at h, fun i x b h => by simp at h⟩
theorem ORowG.live {α : Type} {cc : α → List Value} {sz : Nat} {u : Hp} {eP : TypeId} {X : Option Nat} {hs : List Hd} {ts : List (List α)} (h : ORowG cc sz u eP X hs ts) {x : Hd} (hx : x ∈ hs) {b : Nat} (hb : blk x.A = some b) : u b ≠ none := by
  obtain ⟨i, hi, e⟩ := List.getElem_of_mem hx
  have h1 : hs[i]? = some x := by rw [List.getElem?_eq_getElem hi, e]
  have h2 : i < ts.length := by have := h.len; omega
  exact (h.rows i x ts[i] h1 (List.getElem?_eq_getElem h2)).2.live hb
theorem ORowG.keep {α : Type} {cc : α → List Value} {sz : Nat} {u u' : Hp} {eP : TypeId} {X : Option Nat} {hs : List Hd} {ts : List (List α)} (h : ORowG cc sz u eP X hs ts) (hl : ∀ b o, (∃ x ∈ hs, blk x.A = some b) → u b = some o → u' b = some o) : ORowG cc sz u' eP X hs ts :=
  ⟨h.len, fun i x t hx ht => ⟨(h.rows i x t hx ht).1, (h.rows i x t hx ht).2.le fun b o hb => hl b o ⟨x, List.mem_of_getElem? hx, hb⟩⟩, h.apart⟩
theorem ORowG.snoc {α : Type} {cc : α → List Value} {sz : Nat} {u u' : Hp} {eP : TypeId} {X : Option Nat} {hs : List Hd} {ts : List (List α)} (h : ORowG cc sz u eP X hs ts) (hl : ∀ b o, (∃ x ∈ hs, blk x.A = some b) → u b = some o → u' b = some o) {y : Hd} {t : List α} (hn : y.n = t.length)
    (hy : Own u' y.A y.n y.c eP sz (t.flatMap cc)) (hX : ∀ b, blk y.A = some b → X ≠ some b ∧ u b = none) : ORowG cc sz u' eP X (hs ++ [y]) (ts ++ [t]) := by
  have hk := h.keep hl
  have hlen := h.len
  have hcase : ∀ {i : Nat} {x : Hd}, (hs ++ [y])[i]? = some x → (i < hs.length ∧ hs[i]? = some x) ∨ (i = hs.length ∧ x = y) := fun {i x} hx => by
    by_cases hi : i < hs.length
    · rw [List.getElem?_append_left hi] at hx; exact .inl ⟨hi, hx⟩
    · have h1 : i < (hs ++ [y]).length := (List.getElem?_eq_some_iff.1 hx).1
      simp at h1
      have : i = hs.length := by omega
      subst this
      simp at hx
      exact .inr ⟨rfl, hx.symm⟩
  refine ⟨by simp [hlen], fun i x t' hx ht => ?_, fun i x b hx hb => ?_⟩
  · rcases hcase hx with ⟨hi, hx⟩ | ⟨hi, rfl⟩
    · rw [List.getElem?_append_left (by omega)] at ht; exact hk.rows i x t' hx ht
    · rw [hi, hlen] at ht; simp at ht; subst ht; exact ⟨hn, hy⟩
  · rcases hcase hx with ⟨hi, hx1⟩ | ⟨hi, rfl⟩
    · refine ⟨(h.apart i x b hx1 hb).1, fun j z hz hzb => ?_⟩
      rcases hcase hz with ⟨hj, hz1⟩ | ⟨hj, rfl⟩
      · exact (h.apart i x b hx1 hb).2 j z hz1 hzb
      · exact absurd (hX b hzb).2 (h.live (List.mem_of_getElem? hx1) hb)
    · refine ⟨(hX b hb).1, fun j z hz hzb => ?_⟩
      rcases hcase hz with ⟨hj, hz1⟩ | ⟨hj, rfl⟩
      · exact absurd (hX b hb).2 (h.live (List.mem_of_getElem? hz1) hzb)
      · rw [hi, hj]
/-- Owned tables: the row of headers, and each table's own row, all apart. -/
structure OTG {α : Type} (cc : α → List Value) (sz : Nat) (u : Hp) (eT eP : TypeId) (A : Option Addr) (n c : Nat) (hs : List Hd) (ts : List (List α)) : Prop where
  num : n = ts.length
  own : Own u A n c eT 1 (hs.flatMap Hd.v)
  rows : ORowG cc sz u eP (blk A) hs ts
theorem OTG.tabs {α : Type} {cc : α → List Value} {sz : Nat} {u : Hp} {eT eP : TypeId} {A : Option Addr} {n c : Nat} {hs : List Hd} {ts : List (List α)} (h : OTG cc sz u eT eP A n c hs ts) : TabG cc sz u A n ts :=
  ⟨hs, h.rows.len, ⟨by rw [h.num, h.rows.len], h.own.sl⟩, fun i x t hx ht => ⟨(h.rows.rows i x t hx ht).2.cap, (h.rows.rows i x t hx ht).1, (h.rows.rows i x t hx ht).2.sl⟩⟩
theorem OTG.keep {α : Type} {cc : α → List Value} {sz : Nat} {u u' : Hp} {eT eP : TypeId} {A : Option Addr} {n c : Nat} {hs : List Hd} {ts : List (List α)} (h : OTG cc sz u eT eP A n c hs ts) (hl : ∀ b o, (blk A = some b ∨ ∃ x ∈ hs, blk x.A = some b) → u b = some o → u' b = some o) : OTG cc sz u' eT eP A n c hs ts :=
  ⟨h.num, h.own.le fun b o hb => hl b o (.inl hb), h.rows.keep fun b o hb => hl b o (.inr hb)⟩
theorem OTG.le {α : Type} {cc : α → List Value} {sz : Nat} {u u' : Hp} {eT eP : TypeId} {A : Option Addr} {n c : Nat} {hs : List Hd} {ts : List (List α)} (h : OTG cc sz u eT eP A n c hs ts) (hl : Le u u') : OTG cc sz u' eT eP A n c hs ts := h.keep fun b o _ => hl b o
theorem OTG.elem {α : Type} {cc : α → List Value} {sz : Nat} {u : Hp} {eT eP : TypeId} {A : Option Addr} {n c : Nat} {hs : List Hd} {ts : List (List α)} (h : OTG cc sz u eT eP A n c hs ts) {i : Nat} (hi : i < ts.length) :
    ∃ b off y t, A = some ⟨b, off, none⟩ ∧ ts.drop i = t :: ts.drop (i + 1) ∧ hs[i]? = some y ∧ ts[i]? = some t ∧ t ∈ ts ∧ At u b (off + i * 1) [.slice y.A y.n y.c] ∧ y.n = t.length ∧ Own u y.A y.n y.c eP sz (t.flatMap cc) := by
  have hR : Rd Hd.v 1 u A n hs := ⟨by rw [h.num, h.rows.len], h.own.sl⟩
  obtain ⟨b, off, y, e1, e2, e3, e4, e5⟩ := hR.elem Hd.v_len (i := i) (by rw [h.rows.len]; exact hi)
  have ht := List.getElem?_eq_getElem hi
  obtain ⟨g1, g2⟩ := h.rows.rows i y ts[i] e3 ht
  exact ⟨b, off, y, ts[i], e1, List.drop_eq_getElem_cons hi, e3, ht, List.getElem_mem hi, e5, g1, g2⟩
/-- One row is another now. -/
theorem OTG.set {α : Type} {cc : α → List Value} {sz : Nat} {u u' : Hp} {eT eP : TypeId} {A : Option Addr} {n c : Nat} {hs : List Hd} {pre post : List (List α)} {t t' : List α} {y : Hd} (h : OTG cc sz u eT eP A n c hs (pre ++ t :: post)) (hy : hs[pre.length]? = some y) (hl : t'.length = t.length)
    (hO : Own u' y.A y.n y.c eP sz (t'.flatMap cc)) (hu : ∀ b, blk y.A ≠ some b → u' b = u b) : OTG cc sz u' eT eP A n c hs (pre ++ t' :: post) := by
  refine ⟨by have := h.num; simp at this ⊢; omega, h.own.le fun b o hb ho => ?_, ⟨by have := h.rows.len; simp at this ⊢; omega, fun i x s hx hs' => ?_, h.rows.apart⟩⟩
  · rw [hu b (fun e => (h.rows.apart _ y b hy e).1 hb)]; exact ho
  · by_cases hi : i = pre.length
    · subst hi
      rw [hy] at hx
      have e := Option.some.inj hx; subst e
      simp at hs'
      subst hs'
      have := (h.rows.rows pre.length y t hy (by simp)).1
      exact ⟨by rw [this, hl], hO⟩
    · have hs2 : (pre ++ t :: post)[i]? = some s := by
        rw [List.getElem?_append] at hs' ⊢
        split
        · rename_i hlt; rw [if_pos hlt] at hs'; exact hs'
        · rename_i hlt; rw [if_neg hlt] at hs'
          rw [List.getElem?_cons] at hs' ⊢
          have : i - pre.length ≠ 0 := by omega
          rw [if_neg this] at hs' ⊢; exact hs'
      obtain ⟨g1, g2⟩ := h.rows.rows i x s hx hs2
      refine ⟨g1, g2.le fun b o hb ho => ?_⟩
      rw [hu b (fun e => hi ((h.rows.apart i x b hx hb).2 pre.length y hy e))]; exact ho
end Go.Sy
/- The walk by a symbolic frame: stores into a row of its own, at an element and at a field of one; rows of whole numbers. -/
namespace Go.Sy
set_option linter.unusedVariables false
section
variable {P : Program} {T : List (Nat × TI)} {F : Fr} {tm : Tm} {L : Lm} {u : Hp} {Q : Exit → Act → World → Prop}
theorem r_store_row1 (hT : TOK P T) {l : List Oper} {op : Oper} {r : List Oper} {t e : TypeId} {ti : TI} {x y : Operand} {b off q f1 n c sz : Nat} {s : SV} {cs : List SV} {vs pre l1 l2 : List Value} {w0 : Hp}
    (hO : Own u (some ⟨b, off, none⟩) n c e sz (pre ++ l1)) (hK : ∀ x, x ≠ b → u x = w0 x) (hw : wantE l tm op = some true) (hdst : op.dst = none) (hop : op.op = .store t x y) (hx : ev tm x = some (.v (.pointer (some ⟨b, q + f1, none⟩)))) (hq : q = off + pre.length)
    (hy : ev tm y = some s) (ht : kget T t = some ti) (hc : cellsE ti.kind.agg s = some cs) (hl : lenIs cs ti.size = true) (ho1 : onesE cs = true) (hv : valsE L cs = some vs) (hset : setV f1 l1 vs = some l2)
    (next : ∀ u', Own u' (some ⟨b, off, none⟩) n c e sz (pre ++ l2) → (∀ x, x ≠ b → u' x = w0 x) → Run P Q F tm L u' .seq l r) : Run P Q F tm L u .seq l (op :: r) :=
  r_store_row2 (f1 := f1) (f2 := 0) hT hO hK hw hdst hop hx hq hy ht hc hl ho1 hv hset next
theorem r_store_row0 (hT : TOK P T) {l : List Oper} {op : Oper} {r : List Oper} {t e : TypeId} {ti : TI} {x y : Operand} {b off q n c sz : Nat} {s : SV} {cs : List SV} {vs pre l1 l2 : List Value} {w0 : Hp}
    (hO : Own u (some ⟨b, off, none⟩) n c e sz (pre ++ l1)) (hK : ∀ x, x ≠ b → u x = w0 x) (hw : wantE l tm op = some true) (hdst : op.dst = none) (hop : op.op = .store t x y) (hx : ev tm x = some (.v (.pointer (some ⟨b, q, none⟩)))) (hq : q = off + pre.length)
    (hy : ev tm y = some s) (ht : kget T t = some ti) (hc : cellsE ti.kind.agg s = some cs) (hl : lenIs cs ti.size = true) (ho1 : onesE cs = true) (hv : valsE L cs = some vs) (hset : setV 0 l1 vs = some l2)
    (next : ∀ u', Own u' (some ⟨b, off, none⟩) n c e sz (pre ++ l2) → (∀ x, x ≠ b → u' x = w0 x) → Run P Q F tm L u' .seq l r) : Run P Q F tm L u .seq l (op :: r) :=
  r_store_row2 (f1 := 0) (f2 := 0) hT hO hK hw hdst hop hx hq hy ht hc hl ho1 hv hset next
end
/-- A whole number's cell; two. -/
def Ic (x : Int) : List Value := [.int .i64 x]
def Ac (p : Int × Int) : List Value := [.int .i64 p.1, .int .i64 p.2]
theorem Ic_len (x : Int) : (Ic x).length = 1 := rfl
abbrev Ints (u : Hp) (A : Option Addr) (n : Nat) (xs : List Int) : Prop := Rd Ic 1 u A n xs
end Go.Sy
/- An operation whose guard did not come up does not come up. -/
namespace Go.Sy
section
variable {P : Program} {F : Fr} {tm : Tm} {L : Lm} {u : Hp} {Q : Exit → Act → World → Prop}
theorem r_offu {q : Md} {l : List Oper} {o oj : Oper} {r : List Oper} {d j e : Nat} {want : Bool} (hg : o.guard = some (j, want)) (hj : nth l j = some oj) (he : oj.dst = some e) (hv : kget tm e = some (.v undef)) (ho : o.dst = some d) (hn : Nat.blt d F.n.z = true)
    (next : Run P Q F ((d, .v undef) :: tm) L u q l r) : Run P Q F tm L u q l (o :: r) := by
  cases q <;>
  · intro β a w hf ht hd
    show (if _ then _ else _)
    have hw : Region.wanted o (yielded l.toArray a.tmps) = false := by
      unfold Region.wanted
      rw [hg]
      rw [nth_eq] at hj
      have := (ht.get e _ hv).1
      simp [yielded, hj, he, this, SV.den, undef]
    rw [if_neg (by rw [hw]; simp), ho]
    exact next β _ w hf (put_rel (s := .v undef) hn ht rfl) hd
end
end Go.Sy
