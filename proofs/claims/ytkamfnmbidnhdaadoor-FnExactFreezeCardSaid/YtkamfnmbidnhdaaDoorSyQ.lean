/- The walk by a symbolic frame: a block of the frame handed to the heap at large; calls of functions with captures. -/
import Derived.Test.YtkamfnmbidnhdaaDoorSyP
set_option linter.unusedVariables false
set_option linter.unusedSimpArgs false
set_option linter.unusedSectionVars false
namespace Go.Sy
set_option linter.unusedVariables false
set_option linter.unusedSectionVars false
mutual
/-- Block i by its number. -/
def SV.pub (i b : Nat) : SV → SV
  | .v x => .v x
  | .p j off => match Nat.beq i j with
    | true => .v (.pointer (some ⟨b, off, none⟩))
    | false => .p j off
  | .ag cs => .ag (SV.pubs i b cs)
  | .tu cs => .tu (SV.pubs i b cs)
  | .fn f x y => .fn f (SV.pubs i b x) (SV.pubs i b y)
def SV.pubs (i b : Nat) : List SV → List SV
  | [] => []
  | s :: r => s.pub i b :: SV.pubs i b r
end
def pubT (i b : Nat) : Tm → Tm
  | [] => []
  | (t, s) :: r => (t, s.pub i b) :: pubT i b r
def pubL (i b : Nat) : Lm → Lm
  | [] => []
  | (j, B) :: r => match Nat.beq i j with
    | true => pubL i b r
    | false => (j, ⟨B.name, SV.pubs i b B.cells, B.ty⟩) :: pubL i b r
theorem pubT_get {i b : Nat} : ∀ {tm : Tm} {t : Nat} {s : SV}, kget (pubT i b tm) t = some s → ∃ s0, kget tm t = some s0 ∧ s = s0.pub i b
  | [], t, s, h => by simp [pubT, kget] at h
  | (j, s') :: r, t, s, h => by
    simp only [pubT, kget_cons] at h ⊢
    split at h
    · rename_i e; rw [if_pos e]; exact ⟨s', rfl, (Option.some.inj h).symm⟩
    · rename_i e; rw [if_neg e]; exact pubT_get h
theorem pubL_get {i b : Nat} : ∀ {L : Lm} {j : Nat} {B : Blk}, kget (pubL i b L) j = some B → j ≠ i ∧ ∃ B0, kget L j = some B0 ∧ B = ⟨B0.name, SV.pubs i b B0.cells, B0.ty⟩
  | [], j, B, h => by simp [pubL, kget] at h
  | (x, B') :: r, j, B, h => by
    simp only [pubL] at h
    split at h
    · rename_i e
      have e := Nat.eq_of_beq_eq_true e
      obtain ⟨h1, B0, h2, h3⟩ := pubL_get h
      refine ⟨h1, B0, ?_, h3⟩
      rw [kget_cons, if_neg (by omega)]; exact h2
    · rename_i e
      have e := Nat.ne_of_beq_eq_false e
      rw [kget_cons] at h
      split at h
      · rename_i e'
        refine ⟨by omega, B', ?_, (Option.some.inj h).symm⟩
        rw [kget_cons, if_pos e']
      · rename_i e'
        obtain ⟨h1, B0, h2, h3⟩ := pubL_get h
        exact ⟨h1, B0, by rw [kget_cons, if_neg e']; exact h2, h3⟩
theorem pubL_has {i b : Nat} : ∀ {L : Lm} {j : Nat}, j ≠ i → (kget L j).isSome = true → (kget (pubL i b L) j).isSome = true
  | [], j, _, h => by simp [kget] at h
  | (x, B') :: r, j, hj, h => by
    rw [kget_cons] at h
    simp only [pubL]
    split
    · rename_i e
      have e := Nat.eq_of_beq_eq_true e
      rw [if_neg (by omega)] at h
      exact pubL_has hj h
    · rw [kget_cons]
      split
      · rfl
      · rename_i e'; rw [if_neg e'] at h; exact pubL_has hj h
mutual
theorem pub_den {β : Nat → Nat} {i b : Nat} (h : β i = b) : ∀ s : SV, (s.pub i b).den β = s.den β
  | .v x => rfl
  | .p j off => by
    simp only [SV.pub]
    split
    · rename_i e; have e := Nat.eq_of_beq_eq_true e; subst e; simp only [SV.den, h]
    · rfl
  | .ag cs => by simp only [SV.pub, SV.den, pubs_den h cs]
  | .tu cs => by simp only [SV.pub, SV.den, pubs_den h cs]
  | .fn f x y => by simp only [SV.pub, SV.den, pubs_den h x, pubs_den h y]
theorem pubs_den {β : Nat → Nat} {i b : Nat} (h : β i = b) : ∀ l : List SV, SV.dens β (SV.pubs i b l) = SV.dens β l
  | [] => rfl
  | s :: r => by simp only [SV.pubs, SV.dens, pub_den h s, pubs_den h r]
end
mutual
theorem pub_ok {L : Lm} {i b : Nat} : ∀ s : SV, s.ok L = true → (s.pub i b).ok (pubL i b L) = true
  | .v x, _ => rfl
  | .p j off, h => by
    simp only [SV.pub]
    split
    · rfl
    · rename_i e; exact pubL_has (fun e' => Nat.ne_of_beq_eq_false e e'.symm) h
  | .ag cs, h => by simp only [SV.pub, SV.ok] at *; exact pubs_ok cs h
  | .tu cs, h => by simp only [SV.pub, SV.ok] at *; exact pubs_ok cs h
  | .fn f x y, h => by simp only [SV.pub, SV.ok, Bool.and_eq_true] at *; exact ⟨pubs_ok x h.1, pubs_ok y h.2⟩
theorem pubs_ok {L : Lm} {i b : Nat} : ∀ l : List SV, SV.oks L l = true → SV.oks (pubL i b L) (SV.pubs i b l) = true
  | [], _ => rfl
  | s :: r, h => by simp only [SV.pubs, SV.oks, Bool.and_eq_true] at *; exact ⟨pub_ok s h.1, pubs_ok r h.2⟩
end
section
variable {P : Program} {T : List (Nat × TI)} {F : Fr} {tm : Tm} {L : Lm} {u : Hp} {n : FN} {N : World} {β : Nat → Nat} {k : Hp} {a : Act} {w : World} {Q : Exit → Act → World → Prop}
theorem St.pub {Φ : Act → World → Prop} (i : Nat) {B : Blk} {vs : List Value} (hK : F.K = []) (hB : kget L i = some B) (hv : valsE [] B.cells = some vs)
    (next : ∀ b, u b = none → St F (pubT i b tm) (pubL i b L) (upd u b (.cells vs.toArray B.ty (0, 0))) Φ) (hD : F.n.D = [] := by rfl) : St F tm L u Φ := by
  intro β a w hf ht hd
  obtain ⟨h1, h2, h3⟩ := hd.loc i B hB
  have hi : (kget L i).isSome = true := by rw [hB]; rfl
  have hu : u (β i) = none := by
    cases h : u (β i) with
    | none => rfl
    | some o => exact absurd rfl ((hd.ext _ o h).2 i hi)
  rw [valsE_den (L := []) (fun j B b h => by simp [kget] at h) hv] at h1
  refine next (β i) hu β a w (fun j hj => by rw [hK] at hj; cases hj) ⟨ht.size, ht.defers, by rw [hD]; rfl, fun t s hs => ?_⟩ ⟨fun j B' hB' => ?_, fun x y hx hy => ?_, fun x o hx => ?_, fun x o hx => ⟨(hd.hid x o hx).1, ?_, fun j hj => ?_⟩, hd.size⟩
  · obtain ⟨s0, g1, rfl⟩ := pubT_get hs
    rw [pub_den rfl]
    exact ⟨(ht.get t s0 g1).1, pub_ok s0 (ht.get t s0 g1).2⟩
  · obtain ⟨_, B0, g1, rfl⟩ := pubL_get hB'
    obtain ⟨x1, x2, x3⟩ := hd.loc j B0 g1
    exact ⟨by rw [pubs_den rfl]; exact x1, x2, pubs_ok _ x3⟩
  · obtain ⟨Bx, hBx⟩ := Option.isSome_iff_exists.1 hx
    obtain ⟨By, hBy⟩ := Option.isSome_iff_exists.1 hy
    obtain ⟨_, _, g1, _⟩ := pubL_get hBx
    obtain ⟨_, _, g2, _⟩ := pubL_get hBy
    exact hd.inj x y (by rw [g1]; rfl) (by rw [g2]; rfl)
  · have hne : ∀ j, (kget (pubL i (β i) L) j).isSome = true → j ≠ i ∧ (kget L j).isSome = true := fun j hj => by
      obtain ⟨Bj, hBj⟩ := Option.isSome_iff_exists.1 hj
      obtain ⟨g0, _, g1, _⟩ := pubL_get hBj
      exact ⟨g0, by rw [g1]; rfl⟩
    by_cases hxb : x = β i
    · subst hxb
      rw [upd_here] at hx; have e := Option.some.inj hx; subst e
      exact ⟨h1, fun j hj e => (hne j hj).1 (hd.inj j i (hne j hj).2 hi e)⟩
    · rw [upd_ne hxb] at hx
      exact ⟨(hd.ext x o hx).1, fun j hj => (hd.ext x o hx).2 j (hne j hj).2⟩
  · rw [upd_ne (fun e => (hd.hid x o hx).2.2 i hi e.symm)]; exact (hd.hid x o hx).2.1
  · obtain ⟨Bj, hBj⟩ := Option.isSome_iff_exists.1 hj
    obtain ⟨_, _, g1, _⟩ := pubL_get hBj
    exact (hd.hid x o hx).2.2 j (by rw [g1]; rfl)
def vsv : List Value → List SV
  | [] => []
  | v :: r => .v v :: vsv r
theorem vsv_den (β : Nat → Nat) : ∀ l : List Value, SV.dens β (vsv l) = l
  | [] => rfl
  | v :: r => by simp only [vsv, SV.dens, SV.den, vsv_den β r]
/-- A function value with captures, read from the heap. -/
def calleeV (tm : Tm) (c : Call) : Option (FuncId × List SV) :=
  match c.callee with
  | .value x => match ev tm x with
    | some (.v (.func (.func f) ⟨[]⟩ ⟨b⟩)) => match evs tm c.args.toList with
      | some l => some (f, l ++ vsv b)
      | none => none
    | _ => none
  | _ => none
theorem calleeV_ok {o : Oper} {c : Call} {f : FuncId} {svs : List SV} (hop : o.op = .call c) (h : calleeV tm c = some (f, svs)) (hc : callable P f = true) (ht : RelT n L β tm a) :
    (execOp a.eval o).run P w = .ok (.enter f (SV.dens β svs).toArray) w := by
  unfold callable at hc
  split at hc
  · rename_i fn hfn
    simp only [Bool.and_eq_true, Bool.not_eq_true', beq_eq_false_iff_ne, ne_eq] at hc
    have hcall : ∀ args, (callFunc f args).run P w = .ok (.enter f args) w := fun args => by
      obtain ⟨cd, h2⟩ := Option.isSome_iff_exists.1 hc.2
      simp [callFunc, program, Sem.run, hfn, hc.1, h2]
    unfold calleeV at h
    split at h
    · rename_i x hx
      have hargs : ∀ l, evs tm c.args.toList = some l → c.args.map a.eval = (SV.dens β l).toArray := fun l hl => by
        rw [← (evs_ok ht hl).1]; exact Array.toList_inj.1 (by simp)
      split at h
      · rename_i f' b hv
        split at h
        · rename_i l hl
          have e := Option.some.inj h
          simp only [Prod.mk.injEq] at e
          obtain ⟨rfl, rfl⟩ := e
          have hb : SV.dens β (l ++ vsv b) = SV.dens β l ++ b := by rw [dens_map, List.map_append, ← dens_map, ← dens_map, vsv_den]
          simp [execOp, hop, resolve, hx, ev_ok ht hv, SV.den, Deferred.ofValue, hargs l hl, invoke, hcall, hb]
        · cases h
      · cases h
    · cases h
  · cases hc
theorem r_callV {l : List Oper} {o : Oper} {r : List Oper} {d : Nat} {c : Call} {f : FuncId} {svs args : List SV} {vs : List Value} {Y : Type} {val : Y → SV} {ψ : Y → Hp → Prop}
    (htri : TriS P f args [] u val (fun _ => []) ψ) (hw : wantE l tm o = some true) (ho : o.dst = some d) (hn : Nat.blt d F.n.z = true) (hop : o.op = .call c) (hcal : calleeV tm c = some (f, svs)) (hc : callable P f = true) (hvs' : valsE [] args = some vs) (hvs : valsE L svs = some vs)
    (next : ∀ y u', ψ y u' → Run P Q F ((d, val y) :: tm) L u' .seq l r) : Run P Q F tm L u .seq l (o :: r) := by
  intro β a w hf ht hd
  show (if _ then _ else _)
  rw [if_pos (wantE_ok hw ht)]
  refine .inl ?_
  unfold Oper.wp
  rw [calleeV_ok hop hcal hc ht, Oper.upon_enter, valsE_den hd.bn hvs]
  refine (htri List.nodup_nil (fun b hb => by simp [names] at hb) vs u hvs' rfl _ _ w (den0_of hd)).mono ?_
  rintro e w' ⟨v, h'', rfl, ⟨y, h', h1, h2, h3, h4⟩, h5⟩
  simp only [addsE, Option.some.injEq] at h2; subst h2
  have hk : (val y).ok [] = true := valE_ok h1
  have hk' : (val y).ok L = true := ok_more (fun i hi => by simp [kget] at hi) _ hk
  have hv : (val y).den β = v := valE_den (L := []) (fun i B b hB => by simp [kget] at hB) h1
  simp only [ho, ← hv]
  exact next y h' h4 β _ w' hf (put_rel hn ht hk') (den_back hd h5)
/-- What is not S's stays, and becomes not S''s. -/
def Keep (u : Hp) (S : Nat → Prop) (u' : Hp) (S' : Nat → Prop) : Prop := ∀ x o, u x = some o → ¬ S x → u' x = some o ∧ ¬ S' x
theorem Keep.refl (u : Hp) (S : Nat → Prop) : Keep u S u S := fun x o h hs => ⟨h, hs⟩
theorem Keep.trans {u v z : Hp} {S S' S'' : Nat → Prop} (h : Keep u S v S') (g : Keep v S' z S'') : Keep u S z S'' := fun x o hx hs => let ⟨a, b⟩ := h x o hx hs; g x o a b
theorem Keep.le {u v h : Hp} {S S' : Nat → Prop} (k : Keep u S v S') (hl : Le h u) (hs : ∀ b, S b → h b = none) : Le h v ∧ ∀ b, S' b → h b = none := by
  have key : ∀ b o, h b = some o → v b = some o ∧ ¬ S' b := fun b o hb => k b o (hl b o hb) (fun hS => by rw [hs b hS] at hb; cases hb)
  refine ⟨fun b o hb => (key b o hb).1, fun b hb => ?_⟩
  cases hh : h b with
  | none => rfl
  | some o => exact absurd hb (key b o hh).2
theorem Grown.keep {u u' : Hp} {A A' : Option Addr} (h : Grown u u' A A') : Keep u (fun b => blk A = some b) u' (fun b => blk A' = some b) := fun x o hx hs => by
  obtain ⟨h1, h2⟩ := h (fun y => if y = x then some o else none) (fun b o' hb => by
    simp only at hb; split at hb
    · rename_i e; subst e; rw [← Option.some.inj hb]; exact hx
    · cases hb) (fun b hb => by
    simp only; split
    · rename_i e; subst e; exact absurd hb hs
    · rfl)
  refine ⟨h1 x o (by simp), fun hb => ?_⟩
  have := h2 x hb
  simp at this
end
end Go.Sy
