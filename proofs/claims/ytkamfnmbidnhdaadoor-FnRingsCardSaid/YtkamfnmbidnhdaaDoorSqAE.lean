/- The walk by a symbolic frame: a block of the frame handed to the heap at large; calls of functions with captures. -/
import Derived.Test.YtkamfnmbidnhdaaDoorSqAD
import Derived.Test.YtkamfnmbidnhdaaDoorSqAC
import Derived.Lib.ItoaNum
import Derived.Lib.Builder
import Derived.Lib.UnsafeStr
import Derived.Laws.Externs
import Derived.BigFrame
set_option linter.unusedVariables false
set_option linter.unusedSimpArgs false
set_option linter.unusedSectionVars false
namespace Go.Sy
set_option linter.unusedVariables false
set_option linter.unusedSectionVars false
mutual
/-- Block i by its number. -/
def SV.pub (i b : Nat) : SV → SV
  | .v x => .v x
  | .p j off => match Nat.beq i j with
    | true => .v (.pointer (some ⟨b, off, none⟩))
    | false => .p j off
  | .ag cs => .ag (SV.pubs i b cs)
  | .tu cs => .tu (SV.pubs i b cs)
  | .fn f x y => .fn f (SV.pubs i b x) (SV.pubs i b y)
def SV.pubs (i b : Nat) : List SV → List SV
  | [] => []
  | s :: r => s.pub i b :: SV.pubs i b r
end
def pubT (i b : Nat) : Tm → Tm
  | [] => []
  | (t, s) :: r => (t, s.pub i b) :: pubT i b r
def pubL (i b : Nat) : Lm → Lm
  | [] => []
  | (j, B) :: r => match Nat.beq i j with
    | true => pubL i b r
    | false => (j, ⟨B.name, SV.pubs i b B.cells, B.ty⟩) :: pubL i b r
theorem pubT_get {i b : Nat} : ∀ {tm : Tm} {t : Nat} {s : SV}, kget (pubT i b tm) t = some s → ∃ s0, kget tm t = some s0 ∧ s = s0.pub i b
  | [], t, s, h => by simp [pubT, kget] at h
  | (j, s') :: r, t, s, h => by
    simp only [pubT, kget_cons] at h ⊢
    split at h
    · rename_i e; rw [if_pos e]; exact ⟨s', rfl, (Option.some.inj h).symm⟩
    · rename_i e; rw [if_neg e]; exact pubT_get h
theorem pubL_get {i b : Nat} : ∀ {L : Lm} {j : Nat} {B : Blk}, kget (pubL i b L) j = some B → j ≠ i ∧ ∃ B0, kget L j = some B0 ∧ B = ⟨B0.name, SV.pubs i b B0.cells, B0.ty⟩
  | [], j, B, h => by simp [pubL, kget] at h
  | (x, B') :: r, j, B, h => by
    simp only [pubL] at h
    split at h
    · rename_i e
      have e := Nat.eq_of_beq_eq_true e
      obtain ⟨h1, B0, h2, h3⟩ := pubL_get h
      refine ⟨h1, B0, ?_, h3⟩
      rw [kget_cons, if_neg (by omega)]; exact h2
    · rename_i e
      have e := Nat.ne_of_beq_eq_false e
      rw [kget_cons] at h
      split at h
      · rename_i e'
        refine ⟨by omega, B', ?_, (Option.some.inj h).symm⟩
        rw [kget_cons, if_pos e']
      · rename_i e'
        obtain ⟨h1, B0, h2, h3⟩ := pubL_get h
        exact ⟨h1, B0, by rw [kget_cons, if_neg e']; exact h2, h3⟩
theorem pubL_has {i b : Nat} : ∀ {L : Lm} {j : Nat}, j ≠ i → (kget L j).isSome = true → (kget (pubL i b L) j).isSome = true
  | [], j, _, h => by simp [kget] at h
  | (x, B') :: r, j, hj, h => by
    rw [kget_cons] at h
    simp only [pubL]
    split
    · rename_i e
      have e := Nat.eq_of_beq_eq_true e
      rw [if_neg (by omega)] at h
      exact pubL_has hj h
    · rw [kget_cons]
      split
      · rfl
      · rename_i e'; rw [if_neg e'] at h; exact pubL_has hj h
mutual
theorem pub_den {β : Nat → Nat} {i b : Nat} (h : β i = b) : ∀ s : SV, (s.pub i b).den β = s.den β
  | .v x => rfl
  | .p j off => by
    simp only [SV.pub]
    split
    · rename_i e; have e := Nat.eq_of_beq_eq_true e; subst e; simp only [SV.den, h]
    · rfl
  | .ag cs => by simp only [SV.pub, SV.den, pubs_den h cs]
  | .tu cs => by simp only [SV.pub, SV.den, pubs_den h cs]
  | .fn f x y => by simp only [SV.pub, SV.den, pubs_den h x, pubs_den h y]
theorem pubs_den {β : Nat → Nat} {i b : Nat} (h : β i = b) : ∀ l : List SV, SV.dens β (SV.pubs i b l) = SV.dens β l
  | [] => rfl
  | s :: r => by simp only [SV.pubs, SV.dens, pub_den h s, pubs_den h r]
end
mutual
theorem pub_ok {L : Lm} {i b : Nat} : ∀ s : SV, s.ok L = true → (s.pub i b).ok (pubL i b L) = true
  | .v x, _ => rfl
  | .p j off, h => by
    simp only [SV.pub]
    split
    · rfl
    · rename_i e; exact pubL_has (fun e' => Nat.ne_of_beq_eq_false e e'.symm) h
  | .ag cs, h => by simp only [SV.pub, SV.ok] at *; exact pubs_ok cs h
  | .tu cs, h => by simp only [SV.pub, SV.ok] at *; exact pubs_ok cs h
  | .fn f x y, h => by simp only [SV.pub, SV.ok, Bool.and_eq_true] at *; exact ⟨pubs_ok x h.1, pubs_ok y h.2⟩
theorem pubs_ok {L : Lm} {i b : Nat} : ∀ l : List SV, SV.oks L l = true → SV.oks (pubL i b L) (SV.pubs i b l) = true
  | [], _ => rfl
  | s :: r, h => by simp only [SV.pubs, SV.oks, Bool.and_eq_true] at *; exact ⟨pub_ok s h.1, pubs_ok r h.2⟩
end
section
variable {P : Program} {T : List (Nat × TI)} {F : Fr} {tm : Tm} {L : Lm} {u : Hp} {n : FN} {N : World} {β : Nat → Nat} {k : Hp} {a : Act} {w : World} {Q : Exit → Act → World → Prop}
theorem St.pub {Φ : Act → World → Prop} (i : Nat) {B : Blk} {vs : List Value} (hK : F.K = []) (hB : kget L i = some B) (hv : valsE [] B.cells = some vs)
    (next : ∀ b, u b = none → St F (pubT i b tm) (pubL i b L) (upd u b (.cells vs.toArray B.ty (0, 0))) Φ) (hD : F.n.D = [] := by rfl) : St F tm L u Φ := by
  intro β a w hf ht hd
  obtain ⟨h1, h2, h3⟩ := hd.loc i B hB
  have hi : (kget L i).isSome = true := by rw [hB]; rfl
  have hu : u (β i) = none := by
    cases h : u (β i) with
    | none => rfl
    | some o => exact absurd rfl ((hd.ext _ o h).2 i hi)
  rw [valsE_den (L := []) (fun j B b h => by simp [kget] at h) hv] at h1
  refine next (β i) hu β a w (fun j hj => by rw [hK] at hj; cases hj) ⟨ht.size, ht.defers, by rw [hD]; rfl, fun t s hs => ?_⟩ ⟨fun j B' hB' => ?_, fun x y hx hy => ?_, fun x o hx => ?_, fun x o hx => ⟨(hd.hid x o hx).1, ?_, fun j hj => ?_⟩, hd.size⟩
  · obtain ⟨s0, g1, rfl⟩ := pubT_get hs
    rw [pub_den rfl]
    exact ⟨(ht.get t s0 g1).1, pub_ok s0 (ht.get t s0 g1).2⟩
  · obtain ⟨_, B0, g1, rfl⟩ := pubL_get hB'
    obtain ⟨x1, x2, x3⟩ := hd.loc j B0 g1
    exact ⟨by rw [pubs_den rfl]; exact x1, x2, pubs_ok _ x3⟩
  · obtain ⟨Bx, hBx⟩ := Option.isSome_iff_exists.1 hx
    obtain ⟨By, hBy⟩ := Option.isSome_iff_exists.1 hy
    obtain ⟨_, _, g1, _⟩ := pubL_get hBx
    obtain ⟨_, _, g2, _⟩ := pubL_get hBy
    exact hd.inj x y (by rw [g1]; rfl) (by rw [g2]; rfl)
  · have hne : ∀ j, (kget (pubL i (β i) L) j).isSome = true → j ≠ i ∧ (kget L j).isSome = true := fun j hj => by
      obtain ⟨Bj, hBj⟩ := Option.isSome_iff_exists.1 hj
      obtain ⟨g0, _, g1, _⟩ := pubL_get hBj
      exact ⟨g0, by rw [g1]; rfl⟩
    by_cases hxb : x = β i
    · subst hxb
      rw [upd_here] at hx; have e := Option.some.inj hx; subst e
      exact ⟨h1, fun j hj e => (hne j hj).1 (hd.inj j i (hne j hj).2 hi e)⟩
    · rw [upd_ne hxb] at hx
      exact ⟨(hd.ext x o hx).1, fun j hj => (hd.ext x o hx).2 j (hne j hj).2⟩
  · rw [upd_ne (fun e => (hd.hid x o hx).2.2 i hi e.symm)]; exact (hd.hid x o hx).2.1
  · obtain ⟨Bj, hBj⟩ := Option.isSome_iff_exists.1 hj
    obtain ⟨_, _, g1, _⟩ := pubL_get hBj
    exact (hd.hid x o hx).2.2 j (by rw [g1]; rfl)
def vsv : List Value → List SV
  | [] => []
  | v :: r => .v v :: vsv r
theorem vsv_den (β : Nat → Nat) : ∀ l : List Value, SV.dens β (vsv l) = l
  | [] => rfl
  | v :: r => by simp only [vsv, SV.dens, SV.den, vsv_den β r]
/-- A function value with captures, read from the heap. -/
def calleeV (tm : Tm) (c : Call) : Option (FuncId × List SV) :=
  match c.callee with
  | .value x => match ev tm x with
    | some (.v (.func (.func f) ⟨[]⟩ ⟨b⟩)) => match evs tm c.args.toList with
      | some l => some (f, l ++ vsv b)
      | none => none
    | _ => none
  | _ => none
theorem calleeV_ok {o : Oper} {c : Call} {f : FuncId} {svs : List SV} (hop : o.op = .call c) (h : calleeV tm c = some (f, svs)) (hc : callable P f = true) (ht : RelT n L β tm a) :
    (execOp a.eval o).run P w = .ok (.enter f (SV.dens β svs).toArray) w := by
  unfold callable at hc
  split at hc
  · rename_i fn hfn
    simp only [Bool.and_eq_true, Bool.not_eq_true', beq_eq_false_iff_ne, ne_eq] at hc
    have hcall : ∀ args, (callFunc f args).run P w = .ok (.enter f args) w := fun args => by
      obtain ⟨cd, h2⟩ := Option.isSome_iff_exists.1 hc.2
      simp [callFunc, program, Sem.run, hfn, hc.1, h2]
    unfold calleeV at h
    split at h
    · rename_i x hx
      have hargs : ∀ l, evs tm c.args.toList = some l → c.args.map a.eval = (SV.dens β l).toArray := fun l hl => by
        rw [← (evs_ok ht hl).1]; exact Array.toList_inj.1 (by simp)
      split at h
      · rename_i f' b hv
        split at h
        · rename_i l hl
          have e := Option.some.inj h
          simp only [Prod.mk.injEq] at e
          obtain ⟨rfl, rfl⟩ := e
          have hb : SV.dens β (l ++ vsv b) = SV.dens β l ++ b := by rw [dens_map, List.map_append, ← dens_map, ← dens_map, vsv_den]
          simp [execOp, hop, resolve, hx, ev_ok ht hv, SV.den, Deferred.ofValue, hargs l hl, invoke, hcall, hb]
        · cases h
      · cases h
    · cases h
  · cases hc
theorem r_callV {l : List Oper} {o : Oper} {r : List Oper} {d : Nat} {c : Call} {f : FuncId} {svs args : List SV} {vs : List Value} {Y : Type} {val : Y → SV} {ψ : Y → Hp → Prop}
    (htri : TriS P f args [] u val (fun _ => []) ψ) (hw : wantE l tm o = some true) (ho : o.dst = some d) (hn : Nat.blt d F.n.z = true) (hop : o.op = .call c) (hcal : calleeV tm c = some (f, svs)) (hc : callable P f = true) (hvs' : valsE [] args = some vs) (hvs : valsE L svs = some vs)
    (next : ∀ y u', ψ y u' → Run P Q F ((d, val y) :: tm) L u' .seq l r) : Run P Q F tm L u .seq l (o :: r) := by
  intro β a w hf ht hd
  show (if _ then _ else _)
  rw [if_pos (wantE_ok hw ht)]
  refine .inl ?_
  unfold Oper.wp
  rw [calleeV_ok hop hcal hc ht, Oper.upon_enter, valsE_den hd.bn hvs]
  refine (htri List.nodup_nil (fun b hb => by simp [names] at hb) vs u hvs' rfl _ _ w (den0_of hd)).mono ?_
  rintro e w' ⟨v, h'', rfl, ⟨y, h', h1, h2, h3, h4⟩, h5⟩
  simp only [addsE, Option.some.injEq] at h2; subst h2
  have hk : (val y).ok [] = true := valE_ok h1
  have hk' : (val y).ok L = true := ok_more (fun i hi => by simp [kget] at hi) _ hk
  have hv : (val y).den β = v := valE_den (L := []) (fun i B b hB => by simp [kget] at hB) h1
  simp only [ho, ← hv]
  exact next y h' h4 β _ w' hf (put_rel hn ht hk') (den_back hd h5)
/-- What is not S's stays, and becomes not S''s. -/
def Keep (u : Hp) (S : Nat → Prop) (u' : Hp) (S' : Nat → Prop) : Prop := ∀ x o, u x = some o → ¬ S x → u' x = some o ∧ ¬ S' x
theorem Keep.refl (u : Hp) (S : Nat → Prop) : Keep u S u S := fun x o h hs => ⟨h, hs⟩
theorem Keep.trans {u v z : Hp} {S S' S'' : Nat → Prop} (h : Keep u S v S') (g : Keep v S' z S'') : Keep u S z S'' := fun x o hx hs => let ⟨a, b⟩ := h x o hx hs; g x o a b
theorem Keep.le {u v h : Hp} {S S' : Nat → Prop} (k : Keep u S v S') (hl : Le h u) (hs : ∀ b, S b → h b = none) : Le h v ∧ ∀ b, S' b → h b = none := by
  have key : ∀ b o, h b = some o → v b = some o ∧ ¬ S' b := fun b o hb => k b o (hl b o hb) (fun hS => by rw [hs b hS] at hb; cases hb)
  refine ⟨fun b o hb => (key b o hb).1, fun b hb => ?_⟩
  cases hh : h b with
  | none => rfl
  | some o => exact absurd hb (key b o hh).2
theorem Grown.keep {u u' : Hp} {A A' : Option Addr} (h : Grown u u' A A') : Keep u (fun b => blk A = some b) u' (fun b => blk A' = some b) := fun x o hx hs => by
  obtain ⟨h1, h2⟩ := h (fun y => if y = x then some o else none) (fun b o' hb => by
    simp only at hb; split at hb
    · rename_i e; subst e; rw [← Option.some.inj hb]; exact hx
    · cases hb) (fun b hb => by
    simp only; split
    · rename_i e; subst e; exact absurd hb hs
    · rfl)
  refine ⟨h1 x o (by simp), fun hb => ?_⟩
  have := h2 x hb
  simp at this
end
end Go.Sy
/- The walk by a symbolic frame: guards. -/
namespace Go.Sy
set_option linter.unusedVariables false
def guardE (l : List Oper) (o : Oper) : Option Nat :=
  match o.guard with
  | some (j, _) => match nth l j with
    | some oj => oj.dst
    | none => none
  | none => none
section
variable {P : Program} {F : Fr} {tm : Tm} {L : Lm} {u : Hp} {Q : Exit → Act → World → Prop}
theorem q_guard {q : Md} {l r : List Oper} {o : Oper} {d : Nat} {p : Prop} [Decidable p] (hg : guardE l o = some d) (hd : kget tm d = some (.v (.bool (decide p)))) (h1 : p → Run P Q F ((d, .v (.bool true)) :: tm) L u q l (o :: r)) (h2 : ¬ p → Run P Q F ((d, .v (.bool false)) :: tm) L u q l (o :: r)) :
    Run P Q F tm L u q l (o :: r) := q_case d hd (fun h => h1 (of_decide_eq_true h)) (fun h => h2 (of_decide_eq_false h))
theorem q_guardn {q : Md} {l r : List Oper} {o : Oper} {d : Nat} {p : Prop} [Decidable p] (hg : guardE l o = some d) (hd : kget tm d = some (.v (.bool (!decide p)))) (h1 : ¬ p → Run P Q F ((d, .v (.bool true)) :: tm) L u q l (o :: r)) (h2 : p → Run P Q F ((d, .v (.bool false)) :: tm) L u q l (o :: r)) :
    Run P Q F tm L u q l (o :: r) := q_case d hd (fun h => h1 (by simpa using h)) (fun h => h2 (by simpa using h))
end
end Go.Sy
/- The walk by a symbolic frame: regions that draw their order; what is read first is read from a part of the heap that stays. -/
namespace Go.Sy
set_option linter.unusedVariables false
section
variable {P : Program} {T : List (Nat × TI)} {F : Fr} {tm : Tm} {L : Lm} {u : Hp} {β : Nat → Nat} {a : Act} {w : World} {Q : Exit → Act → World → Prop}
theorem wpStillC_imp {ops : Array Oper} {C : World → Prop} {K K' : Act → Prop} (hK : ∀ a, K a → K' a) : ∀ {lo : List Oper} {a : Act}, wpStillC P ops C K lo a → wpStillC P ops C K' lo a
  | [], a, h => hK a h
  | o :: r, a, h => by
    have h' : (if _ then _ else _) := h
    show (if _ then _ else _)
    split
    · rename_i hw; rw [if_pos hw] at h'; obtain ⟨v, h1, h2⟩ := h'; exact ⟨v, h1, wpStillC_imp hK h2⟩
    · rename_i hw; rw [if_neg hw] at h'; exact wpStillC_imp hK h'
theorem wpAnyC_preW {md : Region.Mode} {C : World → Prop} {pres : Nat → Bool} {Z : Act → World → Prop} {l : List Oper} (hsel : Region.noSelect l.toArray = true) (π : List Nat) (lo : List Oper) (listed : Array Bool) (a : Act) (w : World) (fuel : Nat) (h : selE l π = some lo) (hB : preB md l.toArray pres π listed = true) (hC : C w)
    (H : wpStillC P l.toArray C (fun a' => wpAnyC P md l.toArray pres C (nf Z) fuel (lst π listed) a' w) lo a) : wpAnyC P md l.toArray pres C (nf Z) (fuel + π.length) listed a w := by
  induction π generalizing lo listed a with
  | nil => simp only [selE, Option.some.injEq] at h; subst h; exact H
  | cons i r ih =>
    simp only [selE] at h
    split at h
    · rename_i o ho
      split at h
      · rename_i x hx
        have e := Option.some.inj h; subst e
        rw [nth_eq] at ho
        have ho' : l.toArray[i]? = some o := by simpa using ho
        simp only [preB, Bool.and_eq_true] at hB
        obtain ⟨⟨⟨hr, hf⟩, hp⟩, hB'⟩ := hB
        have hpre : ∀ j oj, l.toArray[j]? = some oj → pres j = false → ∃ e ∈ oj.after, Region.binds md e = true ∧ e.on = i := fun j oj hj hpj => by
          have := List.all_eq_true.1 hp j (List.mem_range.2 (Array.getElem?_eq_some_iff.1 hj).1)
          simp only [hpj, hj, Bool.false_or] at this
          obtain ⟨e, he, hb⟩ := Array.any_eq_true'.1 this
          simp only [Bool.and_eq_true, beq_iff_eq] at hb
          exact ⟨e, he, hb.1, hb.2⟩
        have key : ∀ v, Still P l.toArray C o v a → wpStillC P l.toArray C (fun a' => wpAnyC P md l.toArray pres C (nf Z) fuel (lst r (listed.setIfInBounds i true)) a' w) x (a.put o.dst v) →
            wpAnyC P md l.toArray pres C (nf Z) (fuel + (r.length + 1)) listed a w := fun v hv hK => by
          refine wpAnyC_first ho' (Region.noSelect_spec hsel) hpre (fuel + r.length) listed a w (Region.free_spec ho' hf) (by simpa using hr) hC hv ?_
          exact ih x _ _ hx hB' hK
        have H' : (if Region.wanted o (yielded l.toArray a.tmps) then _ else _) := H
        split at H'
        · rename_i hw
          obtain ⟨v, h1, h2⟩ := H'
          exact key v (.inl ⟨hw, h1⟩) h2
        · rename_i hw
          exact key undef (.inr ⟨by simpa using hw, rfl⟩) H'
      · cases h
    · cases h
/-- A region that draws its order, and has effects: π, which only reads, and that from u0, is taken first. -/
theorem r_any2 {id : Nat} {l : List Oper} (π : List Nat) (late : List Nat) (u0 : Hp) (hu : Le u0 u) {lo : List Oper} {fuel : Nat} {listed : Array Bool} (hm : P.follows .mixedOrders = true) (hsel : Region.noSelect l.toArray = true) (hlo : selE l π = some lo)
    (hB : preB .any l.toArray (fun j => !late.contains j) π (Array.replicate l.length false) = true) (hf : l.length = fuel + π.length) (hl : lst π (Array.replicate l.length false) = listed) (hK : F.K = [])
    (h : ∀ β0, Run P (nf (fun a w => Cls F L u β0 w → Ex P l (fun j => !late.contains j) (Cls F L u0 β0) (Q .normal) fuel listed a w)) (fen F L β0) tm L u0 .still l lo) : St F tm L u (fun a w => (Code.region id l.toArray true).wp P Q a w) := by
  intro β a w hfe ht hd
  refine wp_mono (wp_region_any (Q := nf (Q .normal)) hm ?_) (fun e a w hq => by cases e <;> first | exact hq | exact hq.elim)
  have hd1 : Cls F L u β { w with drawn := w.drawn + 1 } := hd.drew
  have hd' : Cls F L u0 β { w with drawn := w.drawn + 1 } := hd1.weak hu
  have hfe' : Fence (fen F L β) L β := fun i hi => ⟨rfl, keysOf_get.1 hi⟩
  refine wpAny_of_C _ _ _ _ (pres := fun j => !late.contains j) (C := Cls F L u0 β) ?_
  have := h β β a _ hfe' ht hd'
  rw [show l.toArray.size = fuel + π.length by simpa using hf]
  subst hl
  have hrep : (Array.replicate (fuel + π.length) false) = Array.replicate l.length false := by rw [hf]
  rw [hrep]
  refine wpAnyC_preW hsel π lo _ a _ fuel hlo hB hd' (wpStillC_imp (fun a' h' => h' _ hd' hd1) this)
theorem Den.moved {β' : Nat → Nat} {k : Hp} {N : World} (hb : ∀ i, (kget L i).isSome = true → β' i = β i) (hd : Den β L u k N w) : Den β' L u k N w :=
  ⟨fun i B hB => by
      obtain ⟨h1, h2, h3⟩ := hd.loc i B hB
      have hi := hb i (by rw [hB]; rfl)
      exact ⟨by rw [hi, dens_same hb _ h3]; exact h1, by rw [hi]; exact h2, h3⟩,
    fun i j hi hj e => hd.inj i j hi hj (by rw [← hb i hi, ← hb j hj]; exact e), fun b o h => ⟨(hd.ext b o h).1, fun i hi e => (hd.ext b o h).2 i hi (by rw [← hb i hi]; exact e)⟩,
    fun b o h => ⟨(hd.hid b o h).1, (hd.hid b o h).2.1, fun i hi e => (hd.hid b o h).2.2 i hi (by rw [← hb i hi]; exact e)⟩, hd.size⟩
theorem a_full {u0 : Hp} {β0 : Nat → Nat} {K : Act → World → Prop} (h : St (fen F L β0) tm L u K) : St (fen F L β0) tm L u0 (nf (fun a w => Cls F L u β0 w → K a w) .normal) := by
  intro β a w hf ht hd hc
  refine h β a w hf ht (Den.moved (fun i hi => (hf i (keysOf_get.2 hi)).1) hc)
end
end Go.Sy
namespace Go.Sy
section
variable {P : Program} {F : Fr} {tm : Tm} {L : Lm} {u : Hp}
theorem allR_nil {pres : Nat → Bool} {C : World → Prop} {Z : Act → World → Prop} {l : List Oper} {fuel : Nat} {listed : Array Bool} : AllR P F tm L u l pres C Z fuel listed [] := trivial
theorem allR_cons {pres : Nat → Bool} {C : World → Prop} {Z : Act → World → Prop} {l : List Oper} {fuel : Nat} {listed : Array Bool} {i : Nat} {r : List Nat} {o : Oper} (ho : nth l i = some o)
    (h1 : Run P (nf (NextQ P l pres C Z fuel listed i)) F tm L u .seq l [o]) (h2 : AllR P F tm L u l pres C Z fuel listed r) : AllR P F tm L u l pres C Z fuel listed (i :: r) := ⟨⟨o, ho, h1⟩, h2⟩
theorem Le.off {h u u' : Hp} {g : Nat} (hl : Le h u) (hg : h g = none) (hu : ∀ x, x ≠ g → u' x = u x) : Le h u' := fun x o hx => by
  rw [hu x (fun e => by subst e; rw [hg] at hx; cases hx)]; exact hl x o hx
end
end Go.Sy
namespace Go.Sy
def bindE (e : Edge) : Bool := match e.ground with
  | .textOnly _ => false
  | .gcOnly _ => false
  | _ => true
def getE : List Bool → Nat → Bool → Bool
  | [], _, d => d
  | b :: _, 0, _ => b
  | _ :: r, n + 1, d => getE r n d
theorem getE_eq : ∀ (l : List Bool) (i : Nat) (d : Bool), getE l i d = l[i]?.getD d
  | [], i, d => by simp [getE]
  | b :: r, 0, d => by simp [getE]
  | b :: r, n + 1, d => by simp [getE, getE_eq r n d]
def setB : List Bool → Nat → List Bool
  | [], _ => []
  | _ :: r, 0 => true :: r
  | b :: r, n + 1 => b :: setB r n
theorem setB_eq : ∀ (l : List Bool) (i : Nat), setB l i = l.set i true
  | [], i => by simp [setB]
  | b :: r, 0 => by simp [setB]
  | b :: r, n + 1 => by simp [setB, setB_eq r n]
def allE (lb : List Bool) : List Edge → Bool
  | [] => true
  | e :: r => match bindE e with
    | false => allE lb r
    | true => match getE lb e.on false with
      | true => allE lb r
      | false => false
theorem allE_eq (lb : List Bool) : ∀ es : List Edge, allE lb es = es.all fun e => !Region.binds .any e || lb.toArray.getD e.on false
  | [] => rfl
  | e :: r => by
    have hb : Region.binds .any e = bindE e := by unfold Region.binds bindE; cases e.ground <;> rfl
    have hg : lb.toArray.getD e.on false = getE lb e.on false := by rw [getE_eq, Array.getD_eq_getD_getElem?]; simp
    simp only [allE, List.all_cons, hb, hg, ← allE_eq lb r]
    cases bindE e <;> cases getE lb e.on false <;> simp
def readyGo (l : List Oper) (lb : List Bool) : List Oper → List Bool → Nat → List Nat
  | [], _, _ => []
  | o :: r, [], i => []
  | o :: r, b :: bs, i => match b with
    | true => readyGo l lb r bs (i + 1)
    | false => match allE lb o.after.toList with
      | true => i :: readyGo l lb r bs (i + 1)
      | false => readyGo l lb r bs (i + 1)
theorem readyGo_eq (l : List Oper) (lb : List Bool) : ∀ (r : List Oper) (bs : List Bool) (i : Nat), r.length = bs.length → (∀ j, (l[i + j]?) = r[j]?) → (∀ j, lb[i + j]? = bs[j]?) →
    readyGo l lb r bs i = (List.range' i r.length).filter fun i => !lb.toArray.getD i true && ((l.toArray[i]?).map (·.after.all fun e => !Region.binds .any e || lb.toArray.getD e.on false)).getD false
  | [], bs, i, h, h1, h2 => by simp [readyGo]
  | o :: r, [], i, h, h1, h2 => by simp at h
  | o :: r, b :: bs, i, h, h1, h2 => by
    have ih := readyGo_eq l lb r bs (i + 1) (by simpa using h) (fun j => by have := h1 (j + 1); simpa [Nat.add_assoc, Nat.add_comm 1] using this) (fun j => by have := h2 (j + 1); simpa [Nat.add_assoc, Nat.add_comm 1] using this)
    have e1 : l[i]? = some o := by have := h1 0; simpa using this
    have e2 : lb[i]? = some b := by have := h2 0; simpa using this
    have e3 : lb.toArray.getD i true = b := by rw [Array.getD_eq_getD_getElem?]; simp [e2]
    have e4 : (o.after.all fun e => !Region.binds .any e || lb.toArray.getD e.on false) = allE lb o.after.toList := by rw [allE_eq, ← Array.all_toList]
    simp only [readyGo, List.length_cons, List.range'_succ, List.filter_cons, e3, List.getElem?_toArray, e1, Option.map_some, Option.getD_some, e4]
    cases b <;> cases allE lb o.after.toList <;> simp [ih]
theorem ready_eq {l : List Oper} {lb : List Bool} (h : l.length = lb.length) : Region.ready .any l.toArray lb.toArray = readyGo l lb l lb 0 := by
  rw [readyGo_eq l lb l lb 0 h (fun j => by simp) (fun j => by simp)]
  unfold Region.ready
  simp [List.range_eq_range']
def falses : Nat → List Bool
  | 0 => []
  | n + 1 => false :: falses n
theorem falses_eq : ∀ n, falses n = List.replicate n false
  | 0 => rfl
  | n + 1 => by simp [falses, falses_eq n, List.replicate_succ]
def lsB : List Nat → List Bool → List Bool
  | [], l => l
  | i :: r, l => lsB r (setB l i)
theorem lsB_eq : ∀ (π : List Nat) (l : List Bool), lst π l.toArray = (lsB π l).toArray
  | [], l => rfl
  | i :: r, l => by simp only [lst, lsB]; rw [← lsB_eq r]; simp [setB_eq]
section
variable {P : Program} {T : List (Nat × TI)} {F : Fr} {tm : Tm} {L : Lm} {u : Hp} {β : Nat → Nat} {a : Act} {w : World} {Q : Exit → Act → World → Prop}
abbrev ExL (P : Program) (l : List Oper) (pres : Nat → Bool) (C : World → Prop) (Z : Act → World → Prop) (fuel : Nat) (lb : List Bool) : Act → World → Prop := Ex P l pres C Z fuel lb.toArray
theorem r_many {id : Nat} {l : List Oper} (π : List Nat) (late : List Nat) (u0 : Hp) (hu : Le u0 u) {lo : List Oper} {fuel : Nat} {lb : List Bool} (hm : P.follows .mixedOrders = true) (hsel : Region.noSelect l.toArray = true) (hlo : selE l π = some lo)
    (hB : preB .any l.toArray (fun j => !late.contains j) π (Array.replicate l.length false) = true) (hf : l.length = fuel + π.length) (hl : lsB π (falses l.length) = lb) (hK : F.K = [])
    (h : ∀ β0, Run P (nf (fun a w => Cls F L u β0 w → ExL P l (fun j => !late.contains j) (Cls F L u0 β0) (Q .normal) fuel lb a w)) (fen F L β0) tm L u0 .still l lo) : St F tm L u (fun a w => (Code.region id l.toArray true).wp P Q a w) :=
  r_any2 π late u0 hu hm hsel hlo hB hf (by rw [← hl, ← lsB_eq, falses_eq]; simp) hK h
theorem m_step {pres : Nat → Bool} {C : World → Prop} {Z : Act → World → Prop} {l : List Oper} {fuel : Nat} {lb : List Bool} {rs : List Nat} (hlen : lenIs lb l.length = true) (hr : readyGo l lb l lb 0 = rs) (hne : rs ≠ []) (h : AllR P F tm L u l pres C Z fuel lb.toArray rs) :
    St F tm L u (ExL P l pres C Z (fuel + 1) lb) := a_step (by rw [ready_eq (lenIs_eq hlen).symm, hr]) hne h
theorem m_keep {L0 : Lm} {u0 : Hp} {F0 : Fr} {β0 : Nat → Nat} {pres : Nat → Bool} {Z : Act → World → Prop} {l : List Oper} {fuel : Nat} {lb lb' : List Bool} {i : Nat} (hu : Le u0 u) (hL : kall L L0) (hc : Lm.cl L0 = true) (hl : setB lb i = lb')
    (h : St (fen F0 L0 β0) tm L u (ExL P l pres (Cls F0 L0 u0 β0) Z fuel lb')) : St (fen F0 L0 β0) tm L u (nf (NextQ P l pres (Cls F0 L0 u0 β0) Z fuel lb.toArray i) .normal) :=
  a_keep hL hc hu (by rw [← hl, setB_eq]; simp) h
theorem m_late {C : World → Prop} {pres : Nat → Bool} {Z : Act → World → Prop} {l : List Oper} {fuel : Nat} {lb lb' : List Bool} {i : Nat} (hp : pres i = false) (hl : setB lb i = lb')
    (h : St F tm L u (ExL P l pres C Z fuel lb')) : St F tm L u (nf (NextQ P l pres C Z fuel lb.toArray i) .normal) := a_late hp (by rw [← hl, setB_eq]; simp) h
theorem m_end {L0 : Lm} {β0 : Nat → Nat} {C : World → Prop} {pres : Nat → Bool} {Z : Act → World → Prop} {l : List Oper} {lb : List Bool} (hlen : lenIs lb l.length = true) (hr : readyGo l lb l lb 0 = []) (hK : F.K = []) (h : St F tm L u Z) :
    St (fen F L0 β0) tm L u (ExL P l pres C Z 0 lb) := a_end (by rw [ready_eq (lenIs_eq hlen).symm, hr]) hK h
end
end Go.Sy
/- The walk by a symbolic frame: regions that draw their order; a late operation may hang on what is read first through others. -/
namespace Go.Sy
set_option linter.unusedVariables false
section
variable {P : Program} {md : Region.Mode} {ops : Array Oper} {pres : Nat → Bool} {C : World → Prop} {Q : Exit → Act → World → Prop}
theorem wpAnyC_firstD {Z : Act → World → Prop} {i : Nat} {oi : Oper} {v : Value} (D : List Nat) (hi : ops[i]? = some oi) (hsel : ∀ (j : Nat) (o : Oper) cs b, ops[j]? = some o → o.op ≠ .select cs b)
    (hpre : ∀ j, pres j = false → j < ops.size → j ∈ D) (hD : ∀ j ∈ D, ∃ oj, ops[j]? = some oj ∧ ∃ e ∈ oj.after, Region.binds md e = true ∧ (e.on = i ∨ e.on ∈ D)) : ∀ (fuel : Nat) (listed : Array Bool) (a : Act) (w : World),
    (∀ j ∈ D, listed.getD j true = false) →
    (∀ j oj, ops[j]? = some oj → j ≠ i → listed.getD j true = false → (∀ e ∈ oj.after, Region.binds md e = true → e.on ≠ i) → oi.apart ops oj = true) →
    i ∈ Region.ready md ops listed → C w → Still P ops C oi v a → wpAnyC P md ops pres C (nf Z) fuel (listed.setIfInBounds i true) (a.put oi.dst v) w → wpAnyC P md ops pres C (nf Z) (fuel + 1) listed a w := by
  intro fuel
  induction fuel with
  | zero =>
    intro listed a w hU hfree hr hC hy H
    refine ⟨fun h => (by rw [h] at hr; cases hr), fun j hj => ?_⟩
    by_cases hji : j = i
    · subst hji; exact hy.op hi hC ⟨fun _ => hC, H⟩
    · have := ready_mono hj hji
      rw [H.1] at this; cases this
  | succ fuel ih =>
    intro listed a w hU hfree hr hC hy H
    refine ⟨fun h => (by rw [h] at hr; cases hr), fun j hj => ?_⟩
    by_cases hji : j = i
    · subst hji; exact hy.op hi hC ⟨fun _ => hC, H⟩
    · have h1 := H.2 j (ready_mono hj hji)
      obtain ⟨hjun, oj, hoj, hall⟩ := mem_ready.1 hj
      have hunl : ∀ k, listed.getD k true = false → ∀ e ∈ oj.after, Region.binds md e = true → e.on ≠ k := fun k hk e he hb heq => by
        have h1 := hall e he hb
        rw [heq] at h1
        rcases Nat.lt_or_ge k listed.size with h' | h'
        · simp [h'] at hk h1; rw [hk] at h1; cases h1
        · simp [Array.getElem?_eq_none h'] at h1
      have hnot : ∀ e ∈ oj.after, Region.binds md e = true → e.on ≠ i := hunl i (mem_ready.1 hr).1
      have hjD : j ∉ D := fun hm => by
        obtain ⟨oj', hoj', e, he, hb, h⟩ := hD j hm
        rw [hoj] at hoj'
        obtain rfl := Option.some.inj hoj'
        rcases h with h | h
        · exact hnot e he hb h
        · exact hunl _ (hU _ h) e he hb rfl
      have hpj : pres j = true := by
        cases hp : pres j with
        | true => rfl
        | false => exact absurd (hpre j hp (Array.getElem?_eq_some_iff.1 hoj).1) hjD
      have hap := hfree j oj hoj hji hjun hnot
      have h2 := wpOp_keep hoj hap (fun cs b => hsel i oi cs b hi) hy (wpOp_put hoj hap (fun cs b => hsel j oj cs b hoj) h1)
      have hfree' : ∀ k ok, ops[k]? = some ok → k ≠ i → (listed.setIfInBounds j true).getD k true = false → (∀ e ∈ ok.after, Region.binds md e = true → e.on ≠ i) → oi.apart ops ok = true := fun k ok hk hki hun hno => by
        refine hfree k ok hk hki ?_ hno
        by_cases hjk : j = k
        · subst hjk; exact hjun
        · rw [getD_set_ne true hjk] at hun; exact hun
      have hU' : ∀ k ∈ D, (listed.setIfInBounds j true).getD k true = false := fun k hk => by
        rw [getD_set_ne true (fun e => hjD (by rw [e]; exact hk))]; exact hU k hk
      refine wpOp_mono (fun a' w' h3 => ?_) h2
      obtain ⟨h4, h5, h6⟩ := h3
      refine ⟨h5, ih (listed.setIfInBounds j true) a' w' hU' hfree' (ready_mono hr (Ne.symm hji)) (h5 hpj) h4 ?_⟩
      rw [Array.setIfInBounds_comm _ _ hji]
      exact h6
def downB (md : Region.Mode) (ops : Array Oper) (i : Nat) : List Nat :=
  (List.range ops.size).foldl (fun acc j => match ops[j]? with
    | some oj => if oj.after.any fun e => Region.binds md e && (e.on == i || acc.contains e.on) then j :: acc else acc
    | none => acc) []
def preD (md : Region.Mode) (ops : Array Oper) (pres : Nat → Bool) : List Nat → Array Bool → Bool
  | [], _ => true
  | i :: r, listed => (Region.ready md ops listed).contains i && Region.free md ops listed i &&
    ((List.range ops.size).all fun j => pres j || (downB md ops i).contains j) &&
    ((downB md ops i).all fun j => !listed.getD j true && match ops[j]? with
      | some oj => oj.after.any fun e => Region.binds md e && (e.on == i || (downB md ops i).contains e.on)
      | none => false) && preD md ops pres r (listed.setIfInBounds i true)
theorem wpAnyC_preDW {Z : Act → World → Prop} {l : List Oper} (hsel : Region.noSelect l.toArray = true) (π : List Nat) (lo : List Oper) (listed : Array Bool) (a : Act) (w : World) (fuel : Nat) (h : selE l π = some lo) (hB : preD md l.toArray pres π listed = true) (hC : C w)
    (H : wpStillC P l.toArray C (fun a' => wpAnyC P md l.toArray pres C (nf Z) fuel (lst π listed) a' w) lo a) : wpAnyC P md l.toArray pres C (nf Z) (fuel + π.length) listed a w := by
  induction π generalizing lo listed a with
  | nil => simp only [selE, Option.some.injEq] at h; subst h; exact H
  | cons i r ih =>
    simp only [selE] at h
    split at h
    · rename_i o ho
      split at h
      · rename_i x hx
        have e := Option.some.inj h; subst e
        rw [nth_eq] at ho
        have ho' : l.toArray[i]? = some o := by simpa using ho
        simp only [preD, Bool.and_eq_true] at hB
        obtain ⟨⟨⟨⟨hr, hf⟩, hp⟩, hdn⟩, hB'⟩ := hB
        have hpre : ∀ j, pres j = false → j < l.toArray.size → j ∈ downB md l.toArray i := fun j hpj hj => by
          have := List.all_eq_true.1 hp j (List.mem_range.2 hj)
          simp only [hpj, Bool.false_or] at this
          simpa using this
        have hdn' := List.all_eq_true.1 hdn
        have hD : ∀ j ∈ downB md l.toArray i, ∃ oj, l.toArray[j]? = some oj ∧ ∃ e ∈ oj.after, Region.binds md e = true ∧ (e.on = i ∨ e.on ∈ downB md l.toArray i) := fun j hj => by
          have := hdn' j hj
          simp only [Bool.and_eq_true] at this
          obtain ⟨_, h2⟩ := this
          cases hq : l.toArray[j]? with
          | none => rw [hq] at h2; cases h2
          | some oj =>
            rw [hq] at h2
            obtain ⟨e, he, hb⟩ := Array.any_eq_true'.1 h2
            simp only [Bool.and_eq_true, Bool.or_eq_true, beq_iff_eq] at hb
            exact ⟨oj, rfl, e, he, hb.1, hb.2.imp id fun h => by simpa using h⟩
        have hU : ∀ j ∈ downB md l.toArray i, listed.getD j true = false := fun j hj => by
          have := hdn' j hj
          simp only [Bool.and_eq_true] at this
          simpa using this.1
        have key : ∀ v, Still P l.toArray C o v a → wpStillC P l.toArray C (fun a' => wpAnyC P md l.toArray pres C (nf Z) fuel (lst r (listed.setIfInBounds i true)) a' w) x (a.put o.dst v) →
            wpAnyC P md l.toArray pres C (nf Z) (fuel + (r.length + 1)) listed a w := fun v hv hK => by
          refine wpAnyC_firstD (downB md l.toArray i) ho' (Region.noSelect_spec hsel) hpre hD (fuel + r.length) listed a w hU (Region.free_spec ho' hf) (by simpa using hr) hC hv ?_
          exact ih x _ _ hx hB' hK
        have H' : (if Region.wanted o (yielded l.toArray a.tmps) then _ else _) := H
        split at H'
        · rename_i hw
          obtain ⟨v, h1, h2⟩ := H'
          exact key v (.inl ⟨hw, h1⟩) h2
        · rename_i hw
          exact key undef (.inr ⟨by simpa using hw, rfl⟩) H'
      · cases h
    · cases h
end
section
variable {P : Program} {T : List (Nat × TI)} {F : Fr} {tm : Tm} {L : Lm} {u : Hp} {β : Nat → Nat} {a : Act} {w : World} {Q : Exit → Act → World → Prop}
theorem r_anyD {id : Nat} {l : List Oper} (π : List Nat) (late : List Nat) (u0 : Hp) (hu : Le u0 u) {lo : List Oper} {fuel : Nat} {listed : Array Bool} (hm : P.follows .mixedOrders = true) (hsel : Region.noSelect l.toArray = true) (hlo : selE l π = some lo)
    (hB : preD .any l.toArray (fun j => !late.contains j) π (Array.replicate l.length false) = true) (hf : l.length = fuel + π.length) (hl : lst π (Array.replicate l.length false) = listed) (hK : F.K = [])
    (h : ∀ β0, Run P (nf (fun a w => Cls F L u β0 w → Ex P l (fun j => !late.contains j) (Cls F L u0 β0) (Q .normal) fuel listed a w)) (fen F L β0) tm L u0 .still l lo) : St F tm L u (fun a w => (Code.region id l.toArray true).wp P Q a w) := by
  intro β a w hfe ht hd
  refine wp_mono (wp_region_any (Q := nf (Q .normal)) hm ?_) (fun e a w hq => by cases e <;> first | exact hq | exact hq.elim)
  have hd1 : Cls F L u β { w with drawn := w.drawn + 1 } := hd.drew
  have hd' : Cls F L u0 β { w with drawn := w.drawn + 1 } := hd1.weak hu
  have hfe' : Fence (fen F L β) L β := fun i hi => ⟨rfl, keysOf_get.1 hi⟩
  refine wpAny_of_C _ _ _ _ (pres := fun j => !late.contains j) (C := Cls F L u0 β) ?_
  have := h β β a _ hfe' ht hd'
  rw [show l.toArray.size = fuel + π.length by simpa using hf]
  subst hl
  have hrep : (Array.replicate (fuel + π.length) false) = Array.replicate l.length false := by rw [hf]
  rw [hrep]
  refine wpAnyC_preDW hsel π lo _ a _ fuel hlo hB hd' (wpStillC_imp (fun a' h' => h' _ hd' hd1) this)
theorem r_manyD {id : Nat} {l : List Oper} (π : List Nat) (late : List Nat) (u0 : Hp) (hu : Le u0 u) {lo : List Oper} {fuel : Nat} {lb : List Bool} (hm : P.follows .mixedOrders = true) (hsel : Region.noSelect l.toArray = true) (hlo : selE l π = some lo)
    (hB : preD .any l.toArray (fun j => !late.contains j) π (Array.replicate l.length false) = true) (hf : l.length = fuel + π.length) (hl : lsB π (falses l.length) = lb) (hK : F.K = [])
    (h : ∀ β0, Run P (nf (fun a w => Cls F L u β0 w → ExL P l (fun j => !late.contains j) (Cls F L u0 β0) (Q .normal) fuel lb a w)) (fen F L β0) tm L u0 .still l lo) : St F tm L u (fun a w => (Code.region id l.toArray true).wp P Q a w) :=
  r_anyD π late u0 hu hm hsel hlo hB hf (by rw [← hl, ← lsB_eq, falses_eq]; simp) hK h
end
end Go.Sy
/- Bytes as cells; decimal digits from behind. Plain. -/
namespace Go.Sy
def bc1 (b : UInt8) : List Value := [.int .u8 (b.toNat : Int)]
theorem bc1_one {l : List UInt8} : ∀ v ∈ l.flatMap bc1, one v = true := fun v hv => by
  obtain ⟨x, _, hx⟩ := List.mem_flatMap.1 hv
  simp only [bc1, List.mem_singleton] at hx
  rw [hx]; rfl
theorem bc1_map (l : List UInt8) : l.flatMap bc1 = l.map fun b : UInt8 => Value.int .u8 (b.toNat : Int) := by
  induction l with
  | nil => rfl
  | cons b r ih => rw [List.flatMap_cons, ih]; rfl
theorem bc1_bytes (s : ByteArray) : s.data.toList.flatMap bc1 = byteCells s := bc1_map _
theorem bc1_of (l : List UInt8) : byteCells ⟨l.toArray⟩ = l.flatMap bc1 := by rw [← bc1_bytes]
theorem bytes_app (a b : List UInt8) : (⟨a.toArray⟩ : ByteArray) ++ ⟨b.toArray⟩ = ⟨(a ++ b).toArray⟩ := by
  apply ByteArray.ext
  simp
theorem bytes_size (l : List UInt8) : (⟨l.toArray⟩ : ByteArray).size = l.length := rfl
def rdg (k : Nat) : List UInt8 := if h : k = 0 then [] else UInt8.ofNat (48 + k % 10) :: rdg (k / 10)
  termination_by k
  decreasing_by omega
theorem rdg_zero : rdg 0 = [] := by rw [rdg, dif_pos rfl]
theorem rdg_step {k : Nat} (h : k ≠ 0) : rdg k = UInt8.ofNat (48 + k % 10) :: rdg (k / 10) := by rw [rdg, dif_neg h]
theorem rdg_dec : ∀ k, k ≠ 0 → (rdg k).reverse = Lib.decDigits k := fun k => by
  induction k using Nat.strongRecOn with
  | _ k ih =>
    intro h
    rw [rdg_step h, Lib.decDigits]
    by_cases h10 : k < 10
    · rw [dif_pos h10, Nat.div_eq_of_lt h10, rdg_zero, Nat.mod_eq_of_lt h10]; rfl
    · rw [dif_neg h10, List.reverse_cons, ih (k / 10) (by omega) (by omega)]
theorem rdg_len : ∀ (m k : Nat), k < 10 ^ m → (rdg k).length ≤ m
  | 0, k, h => by
    have : k = 0 := by simpa using h
    rw [this, rdg_zero]; simp
  | m + 1, k, h => by
    by_cases h0 : k = 0
    · rw [h0, rdg_zero]; simp
    · rw [rdg_step h0, List.length_cons]
      have := rdg_len m (k / 10) (by rw [Nat.pow_succ] at h; omega)
      omega
theorem u8_to (k : Nat) (h : k < 256) : ((UInt8.ofNat k).toNat : Int) = (k : Int) := by
  rw [UInt8.toNat_ofNat', Nat.mod_eq_of_lt h]
theorem itoa_rdg (n : Int) (h : n ≠ 0) : Lib.itoa n = (if n < 0 then [45] else []) ++ (rdg n.natAbs).reverse := by
  rw [rdg_dec _ (by omega)]
  unfold Lib.itoa
  by_cases hn : n < 0
  · rw [if_pos hn, if_pos hn]; rfl
  · rw [if_neg hn, if_neg hn, show n.toNat = n.natAbs by omega]; rfl
theorem itoa_zero : Lib.itoa 0 = [48] := by
  unfold Lib.itoa
  rw [if_neg (by omega), Lib.decDigits]; rfl
theorem sl_blk {u : Hp} {b m sz : Nat} {vs : List Value} {t : TypeId} (h : u b = some (.cells vs.toArray t (0, 0))) (hl : vs.length = m * sz) : Sl u (some ⟨b, 0, none⟩) m sz vs :=
  ⟨hl, fun h => (by cases h), fun a ha _ => (by have e := Option.some.inj ha; subst e; exact ⟨rfl, _, _, _, h, fun j v hj => by simpa using hj⟩)⟩
theorem le_frsh {h u : Hp} {b : Nat} {o : Obj} (hl : Le h u) (hb : u b = none) : Le h (upd u b o) := fun x o' hx => by
  rw [upd_ne (fun e => by subst e; have := hl _ _ hx; rw [hb] at this; cases this)]; exact hl x o' hx
theorem none_of {h hB : Hp} (hl : Le h hB) {b : Nat} (hb : hB b = none) : h b = none := by
  cases hu : h b with
  | none => rfl
  | some o => rw [hl b o hu] at hb; cases hb
theorem own_fr {u : Hp} {A : Option Addr} {n c e sz : Nat} {cs : List Value} {b : Nat} {o : Obj} (h : Own u A n c e sz cs) (hb : u b = none) : Own (upd u b o) A n c e sz cs := h.le fun x ox hx ho => by
  rw [upd_ne (fun e => by rw [e, hb] at ho; cases ho)]; exact ho
end Go.Sy
/- The walk by a symbolic frame: what strings.Builder's own text does: pointers compared, turned to unsafe and back; a call of abi.NoEscape; its bytes as a text. -/
namespace Go.Sy
set_option linter.unusedVariables false
set_option linter.unusedSimpArgs false
section
variable {P : Program} {T : List (Nat × TI)} {F : Fr} {tm : Tm} {L : Lm} {u : Hp} {Q : Exit → Act → World → Prop}
theorem r_ptrnil {q : Md} {l : List Oper} {o : Oper} {r : List Oper} {d : Nat} {t t' : TypeId} {x y : Operand} {p : Option Addr} (hu : P.underlying t = some (.pointer (P.pointee t))) (hw : wantE l tm o = some true) (ho : o.dst = some d) (hn : Nat.blt d F.n.z = true) (hop : o.op = .binOp .eql t x y t')
    (hx : ev tm x = some (.v (.pointer p))) (hy : ev tm y = some (.v (.pointer none))) (next : Run P Q F ((d, .v (.bool p.isNone)) :: tm) L u q l r) : Run P Q F tm L u q l (o :: r) := by
  refine op_pure hw ho hn (fun β a w ht' hd => ⟨?_, rfl⟩) next
  have h1 : a.eval x = .pointer p := by rw [ev_ok ht' hx, SV.den]
  have h2 : a.eval y = .pointer none := by rw [ev_ok ht' hy, SV.den]
  simp [execOp, hop, h1, h2, eqGuard, binOp, run_equal_pointer_nil w t p hu, SV.den]
theorem r_ptrsame {q : Md} {l : List Oper} {o : Oper} {r : List Oper} {d : Nat} {t t' te : TypeId} {x y : Operand} {p : Addr} {j : TypeInfo} (hu : P.underlying t = some (.pointer te)) (hte : P.info? te = some j) (hw : wantE l tm o = some true) (ho : o.dst = some d) (hn : Nat.blt d F.n.z = true) (hop : o.op = .binOp .neq t x y t')
    (hx : ev tm x = some (.v (.pointer (some p)))) (hy : ev tm y = some (.v (.pointer (some p)))) (next : Run P Q F ((d, .v (.bool false)) :: tm) L u q l r) : Run P Q F tm L u q l (o :: r) := by
  refine op_pure hw ho hn (fun β a w ht' hd => ⟨?_, rfl⟩) next
  have h1 : a.eval x = .pointer (some p) := by rw [ev_ok ht' hx, SV.den]
  have h2 : a.eval y = .pointer (some p) := by rw [ev_ok ht' hy, SV.den]
  simp [execOp, hop, h1, h2, eqGuard, Lib.run_neq_ptr_same w p hu hte, SV.den]
theorem shape_of {w : World} {b : Nat} {arr : Array Value} {e : TypeId} {fr : Nat × Nat} (h : w.heap[b]? = some (.cells arr e fr)) : w.shape? b = some (e, arr.size) := by
  simp [World.shape?, h]
theorem r_tounsafe {q : Md} {l : List Oper} {o : Oper} {r : List Oper} {d : Nat} {t t' te e : TypeId} {x : Operand} {p : Addr} {j : TypeInfo} {arr : Array Value} {fr : Nat × Nat} (hs : P.underlying t = some (.pointer te)) (hd' : P.underlying t' = some .unsafePointer) (hte : P.info? te = some j) (hj : j.size ≠ 0)
    (hb : u p.block = some (.cells arr e fr)) (hoff : p.off < arr.size) (hw : wantE l tm o = some true) (ho : o.dst = some d) (hn : Nat.blt d F.n.z = true) (hop : o.op = .convert t t' x)
    (hx : ev tm x = some (.v (.pointer (some p)))) (next : Run P Q F ((d, .v (.pointer (some p))) :: tm) L u q l r) : Run P Q F tm L u q l (o :: r) := by
  refine op_pure hw ho hn (fun β a w ht' hd => ⟨?_, rfl⟩) next
  have h1 : a.eval x = .pointer (some p) := by rw [ev_ok ht' hx, SV.den]
  simp [execOp, hop, h1, Lib.run_to_unsafe w p hs hd' hte hj (shape_of (hd.ext _ _ hb).1) hoff, SV.den]
theorem r_fromunsafe {q : Md} {l : List Oper} {o : Oper} {r : List Oper} {d : Nat} {t t' te e : TypeId} {x : Operand} {p : Addr} {j : TypeInfo} {arr : Array Value} {fr : Nat × Nat} (hs : P.underlying t = some .unsafePointer) (hd' : P.underlying t' = some (.pointer te)) (hte : P.info? te = some j)
    (hb : u p.block = some (.cells arr e fr)) (hlies : liesAt P P.depth e (arr.size / P.cellsOf e) p.off te 1 = true) (hw : wantE l tm o = some true) (ho : o.dst = some d) (hn : Nat.blt d F.n.z = true) (hop : o.op = .convert t t' x)
    (hx : ev tm x = some (.v (.pointer (some p)))) (next : Run P Q F ((d, .v (.pointer (some p))) :: tm) L u q l r) : Run P Q F tm L u q l (o :: r) := by
  refine op_pure hw ho hn (fun β a w ht' hd => ⟨?_, rfl⟩) next
  have h1 : a.eval x = .pointer (some p) := by rw [ev_ok ht' hx, SV.den]
  simp [execOp, hop, h1, Lib.run_from_unsafe w p hs hd' hte (shape_of (hd.ext _ _ hb).1) hlies, SV.den]
/-- A call of abi.NoEscape: what it is handed. -/
theorem r_noescape {q : Md} {l : List Oper} {o : Oper} {r : List Oper} {d f : Nat} {tys : Array TypeId} {x : Operand} {fn : Func} {v : Value} (hf : P.funcs[f]? = some fn) (hname : (fn.name == "runtime.NumGoroutine") = false) (hb : fn.body.isNone = true) (hnx : Extern.findNext fn = none) (he : Extern.find fn = some Extern.AbiNoEscape.same)
    (hw : wantE l tm o = some true) (ho : o.dst = some d) (hn : Nat.blt d F.n.z = true) (hop : o.op = .call { callee := .value (.func f), args := #[x], argTypes := tys })
    (hx : ev tm x = some (.v v)) (next : Run P Q F ((d, .v v) :: tm) L u q l r) : Run P Q F tm L u q l (o :: r) := by
  refine op_pure hw ho hn (fun β a w ht' hd => ⟨?_, rfl⟩) next
  have h1 : a.eval x = v := by rw [ev_ok ht' hx, SV.den]
  have h2 := run_callFunc_extern (P := P) hf hname hb hnx he #[v] w
  rw [Lib.run_noEscape] at h2
  have h3 : a.eval (.func f) = .func (.func f) #[] #[] := rfl
  simp only [Result.andThen_ok] at h2
  simp [execOp, hop, h1, h3, resolve, Deferred.ofValue, invoke, h2, SV.den]
end
end Go.Sy
/- append, and that what it gives starts where its block does. -/
namespace Go.Sy
set_option linter.unusedSimpArgs false
set_option linter.unusedVariables false

def HdA (A : Option Addr) : Prop := ∀ a, A = some a → a.off = 0
section
variable {P : Program} {T : List (Nat × TI)} {F : Fr} {tm : Tm} {L : Lm} {u : Hp} {n : FN} {N : World} {β : Nat → Nat} {k : Hp} {a : Act} {w : World} {Q : Exit → Act → World → Prop}
theorem append_run0 (hT : TOK P T) (hd : Den β L u k N w) {t e : TypeId} {ti te : TI} (ht : kget T t = some ti) (hk : ti.kind = .slice e) (he : kget T e = some te) {A : Option Addr} {n c m : Nat} {cs news : List Value} {x : Value} {tx : TypeId} (ty : TypeId)
    (hO : Own u A n c e te.size cs) (hs : Src P te.size tx x m news w) (h1 : ∀ v ∈ news, one v = true) (hb : (n + m) * te.bytes ≤ 140737488355328) (h63 : ((n + m : Nat) : Int) ≤ 9223372036854775807) :
    ∃ A' c' u' w', (Builtin.append_ #[t, tx] ty #[.slice A n c, x]).run P w = .ok (.slice A' (n + m) c') w' ∧ Own u' A' (n + m) c' e te.size (cs ++ news) ∧ Grown u u' A A' ∧ Den β L u' k N w' ∧ (HdA A → HdA A') := by
  have hund := elem_of hT ht hk
  obtain ⟨i, z, hi, hsz, hby, hz, hzc, hzl⟩ := chk_info (hT e te he)
  rw [← hsz] at hs
  have hlen : (cs ++ news).length = (n + m) * te.size := by rw [List.length_append, hO.len, hs.newsLen, hsz, Nat.add_mul]
  by_cases hroom : n + m ≤ c
  · cases A with
    | none =>
      have h0 := hO.nil rfl
      obtain ⟨rfl, rfl, rfl⟩ : n = 0 ∧ m = 0 ∧ c = 0 := ⟨by omega, by omega, by omega⟩
      have e1 : cs = [] := List.length_eq_zero_iff.1 (by rw [hO.len]; simp)
      have e2 : news = [] := List.length_eq_zero_iff.1 (by rw [hs.newsLen]; simp)
      subst e1; subst e2
      refine ⟨none, 0, u, w, ?_, own_nil, fun h h1 h2 => ⟨h1, h2⟩, hd, fun h => h⟩
      rcases hs.kind with ⟨e', hk'⟩ | hk' <;> simp [Builtin.append_, run_und hund, run_und hk', sizeOf, typeInfo, hi, hs.len, hs.cells, program, Sem.run]
    | some ad =>
      obtain ⟨e1, arr, g1, g2, g3⟩ := hO.row ad rfl
      obtain ⟨b, o, sp⟩ := ad
      simp only at e1 g1 g2 g3; subst e1
      have hfit : o + n * te.size + 0 + news.length ≤ arr.size := by
        rw [hs.newsLen, hsz]
        have : (n + m) * te.size ≤ c * te.size := Nat.mul_le_mul_right _ hroom
        rw [Nat.add_mul] at this; omega
      obtain ⟨w', hst, hu⟩ := run_storeCells (P := P) (b := b) (o + n * te.size) news 0 w arr (hd.ext b _ g1).1 hfit h1
      simp only [Nat.add_zero] at hu
      refine ⟨some ⟨b, o, none⟩, c, _, w', ?_, ⟨hlen, hroom, fun h => by (cases h), fun a ha => ?_⟩, fun h h1 h2 => ⟨fun x y hx => ?_, h2⟩, den_ext_set hd g1 hu, fun h => h⟩
      · have hadd : (⟨b, o, none⟩ : Addr).add (n * te.size) = ⟨b, o + n * te.size, none⟩ := by simp only [Addr.add]; split <;> simp_all
        rw [← hsz] at hadd hst
        rcases hs.kind with ⟨e', hk'⟩ | hk' <;> simp [Builtin.append_, run_und hund, run_und hk', sizeOf, typeInfo, hi, hs.len, hroom, hs.cells, program, Sem.run, hadd, hst]
      · have e' := Option.some.inj ha; subst e'
        refine ⟨rfl, _, upd_here .., ?_, fun j v hj => ?_⟩
        · have : o + n * te.size + news.length ≤ arr.toList.length := by simpa using hfit
          have := setL_length arr.toList (o + n * te.size) news this
          simp only [List.size_toArray, this, Array.length_toList]; exact g2
        · simp only [List.getElem?_toArray]
          rw [setL_get _ _ _ (by simpa using hfit)]
          by_cases hjn : j < cs.length
          · rw [List.getElem?_append_left hjn] at hj
            rw [if_neg (by rw [hO.len] at hjn; omega)]
            simpa using g3 j v hj
          · rw [List.getElem?_append_right (by omega), hO.len] at hj
            have : j - n * te.size < news.length := (List.getElem?_eq_some_iff.1 hj).1
            rw [hO.len] at hjn
            rw [if_pos (by omega), show o + j - (o + n * te.size) = j - n * te.size by omega]; exact hj
      · have : x ≠ b := fun e => by subst e; rw [h2 x rfl] at hx; cases hx
        rw [upd_ne this]; exact h1 x y hx
  · have hcap : c < n + m := by omega
    have hold : (Builtin.firstCells i.size n (.slice A n c)).run P w.drew = .ok cs.toArray w.drew := by
      cases A with
      | none =>
        have h0 := hO.nil rfl
        have hn0 : n = 0 := by have := hO.cap; omega
        subst hn0
        have e1 : cs = [] := List.length_eq_zero_iff.1 (by rw [hO.len]; simp)
        subst e1
        exact run_firstCells_none _ _ _ _ _
      | some ad =>
        obtain ⟨e1, arr, g1, g2, g3⟩ := hO.row ad rfl
        obtain ⟨b, o, sp⟩ := ad
        simp only at e1 g1 g2 g3; subst e1
        refine run_firstCells_some _ _ _ _ _ _ _ (by rw [hO.len, hsz]) fun j v hj => ?_
        have : (⟨b, o, none⟩ : Addr).add j = ⟨b, o + j, none⟩ := by simp only [Addr.add]; split <;> simp_all
        rw [this]
        have hc := cell_of (w := w) (off := o + j) (hd.ext b _ g1).1
        have := g3 j v hj
        rw [this] at hc
        exact hc
    have hfit : Builtin.nextslicecap (n + m) c * i.bytes ≤ 281474976710656 := by rw [hby]; exact growslice_fits hcap hb
    have hrun := run_append_grow_src (P := P) w t tx ty e i z hund hi hz A n c cs hold x m news hs hcap h63 hfit
    have hge := grownCap_ge w (n + m) c e
    refine ⟨some ⟨w.heap.size, 0, none⟩, grownCap w (n + m) c e, upd u w.heap.size _, _, hrun, ⟨hlen, hge, fun h => by (cases h), fun a ha => ?_⟩, fun h h1 h2 => ⟨fun x y hx => ?_, fun b hb' => ?_⟩, den_ext_new hd rfl ⟨rfl, rfl, rfl, (by first | exact Nat.le_refl _ | exact Nat.le_succ _)⟩, fun _ a ha => by have e := Option.some.inj ha; rw [← e]⟩
    · have e' := Option.some.inj ha; subst e'
      refine ⟨rfl, _, upd_here .., ?_, fun j v hj => ?_⟩
      · rw [hzc]
        simp only [Array.size_append, List.size_toArray, hlen, zeroCells_size, Nat.zero_add]
        simp only [List.length_map, hzl]
        rw [← Nat.add_mul]
        exact Nat.le_of_eq (by congr 1; omega)
      · simp only [Nat.zero_add]
        have hj' := (List.getElem?_eq_some_iff.1 hj).1
        rw [Array.getElem?_append_left (by simpa using hj')]; simpa using hj
    · have : x ≠ w.heap.size := fun e => by subst e; have := h1 _ _ hx; rw [hd.fresh] at this; cases this
      rw [upd_ne this]; exact h1 x y hx
    · have e' := Option.some.inj hb'; subst e'
      cases hh : h w.heap.size with
      | none => rfl
      | some y => have := h1 _ _ hh; rw [hd.fresh] at this; cases this
end
section
variable {P : Program} {T : List (Nat × TI)} {F : Fr} {tm : Tm} {L : Lm} {u : Hp} {n : FN} {N : World} {β : Nat → Nat} {k : Hp} {a : Act} {w : World} {Q : Exit → Act → World → Prop}
/-- append(x, y...), y a slice. -/
theorem r_append0 (hT : TOK P T) {l : List Oper} {o : Oper} {r : List Oper} {d : Nat} {t t2 e e2 : TypeId} {ti te ti2 : TI} {x y : Operand} {A B : Option Addr} {m c m2 c2 : Nat} {cs news : List Value}
    (hw : wantE l tm o = some true) (ho : o.dst = some d) (hn : Nat.blt d F.n.z = true) (hop : o.op = .call { callee := .builtin .append, args := #[x, y], argTypes := #[t, t2] })
    (ht : kget T t = some ti) (hk : ti.kind = .slice e) (he : kget T e = some te) (ht2 : kget T t2 = some ti2) (hk2 : ti2.kind = .slice e2)
    (hx : ev tm x = some (.v (.slice A m c))) (hy : ev tm y = some (.v (.slice B m2 c2))) (hO : Own u A m c e te.size cs) (hS : Sl u B m2 te.size news) (h1 : ∀ v ∈ news, one v = true)
    (hb : (m + m2) * te.bytes ≤ 140737488355328) (h63 : ((m + m2 : Nat) : Int) ≤ 9223372036854775807)
    (next : ∀ A' c' u', Own u' A' (m + m2) c' e te.size (cs ++ news) → Grown u u' A A' → (HdA A → HdA A') → Run P Q F ((d, .v (.slice A' (m + m2) c')) :: tm) L u' .seq l r) :
    Run P Q F tm L u .seq l (o :: r) := by
  refine op_any hw ho hn (fun β a w hf ht' hd => ?_)
  obtain ⟨A', c', u', w', h1', h2', h3', h4', h5'⟩ := append_run0 (P := P) hT hd ht hk he (x := .slice B m2 c2) (tx := t2) o.type hO (hS.src (P := P) hd (elem_of hT ht2 hk2) c2 h1) h1 hb h63
  refine ⟨β, w', _, L, u', ?_, hf, ht', h4', rfl, next A' c' u' h2' h3' h5'⟩
  simp [execOp, hop, ev_ok ht' hx, ev_ok ht' hy, SV.den, resolve, invoke, builtin, h1']
/-- append(x, y...), y a text. -/
theorem r_append_str0 (hT : TOK P T) {l : List Oper} {o : Oper} {r : List Oper} {d : Nat} {t t2 e : TypeId} {ti te ti2 : TI} {x y : Operand} {A : Option Addr} {m c : Nat} {s : ByteArray} {cs : List Value}
    (hw : wantE l tm o = some true) (ho : o.dst = some d) (hn : Nat.blt d F.n.z = true) (hop : o.op = .call { callee := .builtin .append, args := #[x, y], argTypes := #[t, t2] })
    (ht : kget T t = some ti) (hk : ti.kind = .slice e) (he : kget T e = some te) (ht2 : kget T t2 = some ti2) (hk2 : ti2.kind = .str) (hs1 : te.size = 1) (hb1 : te.bytes = 1)
    (hx : ev tm x = some (.v (.slice A m c))) (hy : ev tm y = some (.v (.string s))) (hO : Own u A m c e 1 cs) (hb : m + s.size ≤ 140737488355328)
    (next : ∀ A' c' u', Own u' A' (m + s.size) c' e 1 (cs ++ byteCells s) → Grown u u' A A' → (HdA A → HdA A') → Run P Q F ((d, .v (.slice A' (m + s.size) c')) :: tm) L u' .seq l r) :
    Run P Q F tm L u .seq l (o :: r) := by
  refine op_any hw ho hn (fun β a w hf ht' hd => ?_)
  have hu2 : P.underlying t2 = some .string := by
    obtain ⟨d, hd, h⟩ := chk_desc (hT t2 ti2 ht2)
    rw [hk2] at h
    cases d <;> simp [kfits] at h
    exact hd
  obtain ⟨A', c', u', w', h1', h2', h3', h4', h5'⟩ := append_run0 (P := P) hT hd ht hk he (x := .string s) (tx := t2) (m := s.size) (news := byteCells s) o.type (by rw [hs1]; exact hO) (by rw [hs1]; exact Src.ofString w hu2 s)
    (fun v hv => by obtain ⟨_, _, rfl⟩ := List.mem_map.1 hv; rfl) (by rw [hb1]; omega) (by omega)
  rw [hs1] at h2'
  refine ⟨β, w', _, L, u', ?_, hf, ht', h4', rfl, next A' c' u' h2' h3' h5'⟩
  simp [execOp, hop, ev_ok ht' hx, ev_ok ht' hy, SV.den, resolve, invoke, builtin, h1']
end
end Go.Sy
/- The walk by a symbolic frame: a Builder's bytes taken as a text (unsafe.String): they are frozen. -/
namespace Go.Sy
set_option linter.unusedVariables false
set_option linter.unusedSimpArgs false
section
variable {P : Program} {T : List (Nat × TI)} {F : Fr} {tm : Tm} {L : Lm} {u : Hp} {Q : Exit → Act → World → Prop}
theorem r_sldata {q : Md} {l : List Oper} {o : Oper} {r : List Oper} {d : Nat} {tys : Array TypeId} {x : Operand} {a0 : Addr} {n c : Nat} (hc : c ≠ 0) (hw : wantE l tm o = some true) (ho : o.dst = some d) (hn : Nat.blt d F.n.z = true)
    (hop : o.op = .call { callee := .builtin .unsafeSliceData, args := #[x], argTypes := tys }) (hx : ev tm x = some (.v (.slice (some a0) n c))) (next : Run P Q F ((d, .v (.pointer (some a0))) :: tm) L u q l r) : Run P Q F tm L u q l (o :: r) := by
  refine op_pure hw ho hn (fun β a w ht' hd => ⟨?_, rfl⟩) next
  have h1 : a.eval x = .slice (some a0) n c := by rw [ev_ok ht' hx, SV.den]
  simp [execOp, hop, h1, resolve, invoke, builtin, Lib.run_unsafeSliceData_row w tys o.type a0 n c hc, SV.den]
theorem freeze_upd {w : World} {g n : Nat} {arr : Array Value} {e : TypeId} (hg : w.heap[g]? = some (.cells arr e (0, 0))) (hn : n ≠ 0) : Upd1 w (w.freeze ⟨g, 0, none⟩ n) g (.cells arr e (0, n)) := by
  have hlt := (Array.getElem?_eq_some_iff.1 hg).1
  have hge := (Array.getElem?_eq_some_iff.1 hg).2
  unfold World.freeze
  rw [if_neg hn]
  refine ⟨by simp, ?_, fun x hx => ?_, rfl, rfl, rfl, Nat.le_refl _⟩
  · simp [Array.getElem?_modify, hg]
  · show (w.heap.modify g _)[x]? = _
    rw [Array.getElem?_modify, if_neg (Ne.symm hx)]
theorem r_ustring {l : List Oper} {o : Oper} {r : List Oper} {d : Nat} {pt it e : TypeId} {x y : Operand} {g m c : Nat} {bs : List UInt8} (hp : P.underlying pt = some (.pointer e)) (hce : P.cellsOf e = 1) (h0 : bs ≠ []) (h63 : bs.length ≤ 9223372036854775807) (hm : m = bs.length)
    (hO : Own u (some ⟨g, 0, none⟩) m c e 1 (bs.flatMap bc1)) (hw : wantE l tm o = some true) (ho : o.dst = some d) (hn : Nat.blt d F.n.z = true) (hop : o.op = .call { callee := .builtin .unsafeString, args := #[x, y], argTypes := #[pt, it] })
    (hx : ev tm x = some (.v (.pointer (some ⟨g, 0, none⟩)))) (hy : ev tm y = some (.v (.int .i64 (m : Int)))) (next : ∀ u', (∀ z, z ≠ g → u' z = u z) → Run P Q F ((d, .v (.string ⟨bs.toArray⟩)) :: tm) L u' .seq l r) : Run P Q F tm L u .seq l (o :: r) := by
  subst hm
  obtain ⟨_, arr, g1, g2, g3⟩ := hO.row _ rfl
  simp only at g1 g2 g3
  have hl0 : bs.length ≠ 0 := by simpa using h0
  refine op_any hw ho hn (fun β a w hf ht' hd => ?_)
  have hg := (hd.ext g _ g1).1
  have h1 : a.eval x = .pointer (some ⟨g, 0, none⟩) := by rw [ev_ok ht' hx, SV.den]
  have h2 : a.eval y = .int .i64 (bs.length : Int) := by rw [ev_ok ht' hy, SV.den]
  have hcell : ∀ (j : Nat) (z : UInt8), bs[j]? = some z → w.cell? ((⟨g, 0, none⟩ : Addr).add j) = some (.int .u8 z.toNat) := fun j z hz => by
    have e1 : (⟨g, 0, none⟩ : Addr).add j = ⟨g, 0 + j, none⟩ := by simp only [Addr.add]; split <;> simp_all
    rw [e1, cell_of (w := w) (off := 0 + j) hg]
    exact g3 j _ (by rw [bc1_map, List.getElem?_map, hz]; rfl)
  have hrun := Lib.run_unsafeString_row (P := P) w pt it o.type e hp hce g arr.size (shape_of hg) bs h0 (by have := hO.cap; omega) h63 hcell
  refine ⟨β, w.freeze ⟨g, 0, none⟩ bs.length, .v (.string ⟨bs.toArray⟩), L, upd u g (.cells arr e (0, bs.length)), ?_, hf, ht', den_ext_set hd g1 (freeze_upd hg hl0), rfl, next _ (fun z hz => upd_ne hz)⟩
  simp [execOp, hop, h1, h2, resolve, invoke, builtin, hrun, SV.den]
end
end Go.Sy
