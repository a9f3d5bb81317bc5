/- The walk by a symbolic frame: returns and calls. -/
import Derived.Test.YtkamfnmbidnhdaaDoorSyF
set_option linter.unusedVariables false
set_option linter.unusedSimpArgs false
set_option linter.unusedSectionVars false
namespace Go.Sy
def resL (T : List (Nat × TI)) (tm : Tm) (L : Lm) : List ResultVar → Option (List SV)
  | [] => some []
  | .tmp t :: r => match kget tm t with
    | some s => match resL T tm L r with
      | some l => some (s :: l)
      | none => none
    | none => none
  | .cell x t :: r => match kget tm x with
    | some (.p i off) => match kget L i with
      | some B => match kget T t with
        | some ti => match partE ti off B.cells with
          | some s => match resL T tm L r with
            | some l => some (s :: l)
            | none => none
          | none => none
        | none => none
      | none => none
    | _ => none
def resE (T : List (Nat × TI)) (tm : Tm) (L : Lm) (rs : List ResultVar) : Option SV :=
  match resL T tm L rs with
  | some [s] => some s
  | some l => some (.tu l)
  | none => none
def rvar (tmps : Array Value) : ResultVar → Sem Value
  | .tmp t => pure (tmps.getD t undef)
  | .cell a t => do loadVar t (← asAddr (tmps.getD a undef))
theorem results_eq (fn : Func) (tmps : Array Value) : results fn tmps = (do let vs ← fn.results.mapM (rvar tmps); pure (if h : vs.size = 1 then vs[0] else .tuple vs)) := by
  unfold results
  congr 1
/-- The lent blocks come back so. -/
def lentP (L X : Lm) : Lm → Prop
  | [] => True
  | (k, ⟨some b, c1, t⟩) :: r => (∃ c l, kget L k = some ⟨some b, c, t⟩ ∧ valsE L c = some l ∧ valsE X c1 = some l) ∧ lentP L X r
  | (_, ⟨none, _, _⟩) :: _ => False
/-- The function called, and all its arguments. -/
def calleeE (tm : Tm) (c : Call) : Option (FuncId × List SV) :=
  match c.callee with
  | .value x => match ev tm x with
    | some (.v (.func (.func f) ⟨[]⟩ ⟨[]⟩)) => match evs tm c.args.toList with
      | some l => some (f, l)
      | none => none
    | some (.fn (.func f) [] b) => match evs tm c.args.toList with
      | some l => some (f, l ++ b)
      | none => none
    | _ => none
  | _ => none
def callable (P : Program) (f : FuncId) : Bool :=
  match P.funcs[f]? with
  | some fn => !(fn.name == "runtime.NumGoroutine") && fn.body.isSome
  | none => false
section
variable {P : Program} {T : List (Nat × TI)} {F : Fr} {tm : Tm} {L : Lm} {u : Hp} {n : FN} {N : World} {β : Nat → Nat} {k : Hp} {a : Act} {w : World} {Q : Exit → Act → World → Prop}
theorem Den.bn (hd : Den β L u k N w) : ∀ i B b, kget L i = some B → B.name = some b → β i = b := fun i B b h hb => (hd.loc i B h).2.1 b hb
theorem resL_ok (hT : TOK P T) (ht : RelT n L β tm a) (hd : Den β L u k N w) : ∀ {rs : List ResultVar} {l : List SV}, resL T tm L rs = some l →
    (rs.mapM (rvar a.tmps)).run P w = .ok (SV.dens β l) w
  | [], l, h => by simp only [resL, Option.some.injEq] at h; subst h; simp [SV.dens]
  | .tmp t :: r, l, h => by
    simp only [resL] at h
    split at h
    · rename_i s hs
      split at h
      · rename_i l' hl
        have e := Option.some.inj h; subst e
        have ih := resL_ok hT ht hd hl
        have := (ht.get t s hs).1
        simp only [List.mapM_cons, rvar, Sem.run_bind, Sem.run_pure, Result.andThen_ok, ih, SV.dens]
        simp [Array.getD_eq_getD_getElem?, this]
      · cases h
    · cases h
  | .cell x t :: r, l, h => by
    simp only [resL] at h
    split at h
    · rename_i i off hx
      split at h
      · rename_i B hB
        split at h
        · rename_i ti hti
          split at h
          · rename_i s hs
            split at h
            · rename_i l' hl
              have e := Option.some.inj h; subst e
              have ih := resL_ok hT ht hd hl
              have h1 := (ht.get x _ hx).1
              have h2 := partE_ok (P := P) (w := w) (hT t ti hti) hs (hd.loc i B hB).1
              have h3 : (asAddr (a.tmps.getD x undef)).run P w = .ok ⟨β i, off, none⟩ w := by simp [Array.getD_eq_getD_getElem?, h1, SV.den, asAddr]
              simp only [List.mapM_cons, rvar, Sem.run_bind, h3, Sem.run_pure, Result.andThen_ok, h2, ih, SV.dens]
            · cases h
          · cases h
        · cases h
      · cases h
    · cases h
theorem resE_ok (hT : TOK P T) {fn : Func} {rs : List ResultVar} (hr : fn.results = rs.toArray) {s : SV} (h : resE T tm L rs = some s) (ht : RelT n L β tm a) (hd : Den β L u k N w) :
    (results fn a.tmps).run P w = .ok (s.den β) w := by
  unfold resE at h
  have key : ∀ l, resL T tm L rs = some l → (results fn a.tmps).run P w = .ok (if h : (SV.dens β l).toArray.size = 1 then (SV.dens β l).toArray[0] else .tuple (SV.dens β l).toArray) w := fun l hl => by
    have := resL_ok (P := P) hT ht hd hl
    rw [results_eq, hr, List.mapM_toArray]
    simp only [Sem.run_bind, Sem.run_map, this]
    simp
  split at h
  · rename_i s' hs
    have e := Option.some.inj h; subst e
    rw [key _ hs]; simp [SV.dens]
  · rename_i l hne hl
    have e := Option.some.inj h; subst e
    rw [key _ hl]
    have : ¬ (SV.dens β l).toArray.size = 1 := by
      rw [dens_map]; simp
      intro h1
      obtain ⟨x, rfl⟩ := List.length_eq_one_iff.1 h1
      exact hne x rfl
    rw [dif_neg this]; rfl
  · cases h
/-- What a body must end in. -/
abbrev Post {Y : Type} (val : Y → SV) (L1 : Y → Lm) (ψ : Y → Hp → Prop) (k : Hp) (N : World) : Ending → World → Prop :=
  Fin (fun v h'' => ∃ y h', valE (L1 y) (val y) = some v ∧ addsE (L1 y) (L1 y) h' = some h'' ∧ (∀ b ∈ names (L1 y), h' b = none) ∧ ψ y h') k N
theorem names_find {L X : Lm} : ∀ {R : Lm}, lentP L X R → ∀ b ∈ names R, ∃ i c t, kget L i = some ⟨some b, c, t⟩
  | [], _, b, hb => by simp [names] at hb
  | (i, ⟨some b', c1, t⟩) :: r, h, b, hb => by
    simp only [names, List.mem_cons] at hb
    rcases hb with rfl | hb
    · obtain ⟨c, _, h1, _⟩ := h.1; exact ⟨i, c, t, h1⟩
    · exact names_find h.2 b hb
  | (_, ⟨none, _, _⟩) :: _, h, b, hb => h.elim
theorem addsE_lent {X : Lm} (hd : Den β L u k N w) : ∀ {R : Lm} {h'' : Hp}, lentP L X R → addsE X R u = some h'' → ∀ b o, h'' b = some o → w.heap[b]? = some o ∧ k b = none
  | [], h'', _, h, b, o, hb => by
    simp only [addsE, Option.some.injEq] at h; subst h
    refine ⟨(hd.ext b o hb).1, ?_⟩
    cases hk : k b with
    | none => rfl
    | some o' => have := (hd.hid b o' hk).2.1; rw [hb] at this; cases this
  | (i, ⟨some b', c1, t⟩) :: r, h'', hl, h, b, o, hb => by
    simp only [addsE] at h
    split at h
    · rename_i l hl1
      split at h
      · rename_i h1 hh1
        have e := Option.some.inj h; subst e
        by_cases hbb : b = b'
        · subst hbb
          rw [upd_here] at hb
          have e := Option.some.inj hb; subst e
          obtain ⟨c, l', g1, g2, g3⟩ := hl.1
          obtain ⟨x1, x2, _⟩ := hd.loc i _ g1
          rw [x2 b rfl, valsE_den hd.bn g2] at x1
          rw [hl1] at g3; have e := Option.some.inj g3; subst e
          refine ⟨x1, ?_⟩
          cases hk : k b with
          | none => rfl
          | some o' => exact absurd (x2 b rfl) ((hd.hid b o' hk).2.2 i (by rw [g1]; rfl))
        · rw [upd_ne hbb] at hb; exact addsE_lent hd hl.2 hh1 b o hb
      · cases h
    · cases h
  | (_, ⟨none, _, _⟩) :: _, h'', hl, h, b, o, hb => hl.elim
theorem r_fin (hT : TOK P T) {fn : Func} {rs : List ResultVar} {Y : Type} {val : Y → SV} {L1 : Y → Lm} {ψ : Y → Hp → Prop} (hr : fn.results = rs.toArray) {s : SV} {v : Value} {h'' : Hp} (y : Y)
    (h : resE T tm L rs = some s) (hv : valE L s = some v) (hv' : valE (L1 y) (val y) = some v) (hl : lentP L (L1 y) (L1 y)) (ha : addsE (L1 y) (L1 y) u = some h'') (hψ : ψ y u) (hD : F.n.D = [] := by rfl) :
    St F tm L u (bodyPost P fn (Post val L1 ψ F.k F.N) .ret) := by
  intro β a w hf ht hd
  refine ⟨by rw [ht.defers, hD]; rfl, s.den β, resE_ok hT hr h ht hd, v, h'', ?_, ⟨y, u, hv', ha, ?_, hψ⟩, ⟨fun b o hb => (addsE_lent hd hl ha b o hb).1, fun b o hb => ⟨(hd.hid b o hb).1, ?_⟩, hd.size⟩⟩
  · rw [valE_den hd.bn hv]
  · intro b hb
    obtain ⟨i, c, t, hi⟩ := names_find hl b hb
    cases hu : u b with
    | none => rfl
    | some o => exact absurd ((hd.loc i _ hi).2.1 b rfl) ((hd.ext b o hu).2 i (by rw [hi]; rfl))
  · cases hx : h'' b with
    | none => rfl
    | some o' => have := (addsE_lent hd hl ha b o' hx).2; rw [hb] at this; cases this
theorem r_fin_n (hT : TOK P T) {fn : Func} {rs : List ResultVar} {Y : Type} {val : Y → SV} {L1 : Y → Lm} {ψ : Y → Hp → Prop} (hr : fn.results = rs.toArray) {s : SV} {v : Value} {h'' : Hp} (y : Y)
    (h : resE T tm L rs = some s) (hv : valE L s = some v) (hv' : valE (L1 y) (val y) = some v) (hl : lentP L (L1 y) (L1 y)) (ha : addsE (L1 y) (L1 y) u = some h'') (hψ : ψ y u) (hD : F.n.D = [] := by rfl) :
    St F tm L u (bodyPost P fn (Post val L1 ψ F.k F.N) .normal) := r_fin hT hr y h hv hv' hl ha hψ hD
open Classical in
/-- What a callee must leave as it is, beside k: the blocks of the frame. -/
noncomputable def hide (β : Nat → Nat) (L : Lm) (k : Hp) (w : World) : Hp := fun b => if ∃ i, (kget L i).isSome = true ∧ β i = b then w.heap[b]? else k b
theorem den0_of (hd : Den β L u k N w) : Den0 u (hide β L k w) w w := by
  refine ⟨fun b o hb => (hd.ext b o hb).1, fun b o hb => ?_, Ge.refl _⟩
  unfold hide at hb
  split at hb
  · rename_i h
    obtain ⟨i, hi, rfl⟩ := h
    refine ⟨hb, ?_⟩
    cases hu : u (β i) with
    | none => rfl
    | some o' => exact absurd rfl ((hd.ext _ o' hu).2 i hi)
  · exact ⟨(hd.hid b o hb).1, (hd.hid b o hb).2.1⟩
theorem den_back {w' : World} {u' : Hp} (hd : Den β L u k N w) (h : Den0 u' (hide β L k w) w w') : Den β L u' k N w' := by
  have hloc : ∀ i B, kget L i = some B → w'.heap[β i]? = w.heap[β i]? ∧ u' (β i) = none := fun i B hB => by
    have h1 := (hd.loc i B hB).1
    have hk : hide β L k w (β i) = some (.cells (SV.dens β B.cells).toArray B.ty (0, 0)) := by
      unfold hide; rw [if_pos ⟨i, by rw [hB]; rfl, rfl⟩]; exact h1
    obtain ⟨x, y⟩ := h.hid _ _ hk
    exact ⟨x.trans h1.symm, y⟩
  refine ⟨fun i B hB => ⟨(hloc i B hB).1.trans (hd.loc i B hB).1, (hd.loc i B hB).2⟩, hd.inj, fun b o hb => ⟨h.ext b o hb, fun i hi e => ?_⟩, fun b o hb => ?_, hd.size.trans h.size⟩
  · obtain ⟨B, hB⟩ := Option.isSome_iff_exists.1 hi
    subst e
    rw [(hloc i B hB).2] at hb; cases hb
  · have hne := (hd.hid b o hb).2.2
    have hk : hide β L k w b = some o := by
      unfold hide
      rw [if_neg]
      · exact hb
      · rintro ⟨i, hi, e⟩; exact hne i hi e
    exact ⟨(h.hid b o hk).1, (h.hid b o hk).2, hne⟩
theorem calleeE_ok {o : Oper} {c : Call} {f : FuncId} {svs : List SV} (hop : o.op = .call c) (h : calleeE tm c = some (f, svs)) (hc : callable P f = true) (ht : RelT n L β tm a) (hd : Den β L u k N w) :
    (execOp a.eval o).run P w = .ok (.enter f (SV.dens β svs).toArray) w := by
  unfold callable at hc
  split at hc
  · rename_i fn hfn
    simp only [Bool.and_eq_true, Bool.not_eq_true', beq_eq_false_iff_ne, ne_eq] at hc
    have hcall : ∀ args, (callFunc f args).run P w = .ok (.enter f args) w := fun args => by
      obtain ⟨cd, h2⟩ := Option.isSome_iff_exists.1 hc.2
      simp [callFunc, program, Sem.run, hfn, hc.1, h2]
    unfold calleeE at h
    split at h
    · rename_i x hx
      have hargs : ∀ l, evs tm c.args.toList = some l → c.args.map a.eval = (SV.dens β l).toArray := fun l hl => by
        rw [← (evs_ok ht hl).1]; exact Array.toList_inj.1 (by simp)
      split at h
      · rename_i f' hv
        split at h
        · rename_i l hl
          have e := Option.some.inj h
          simp only [Prod.mk.injEq] at e
          obtain ⟨rfl, rfl⟩ := e
          simp [execOp, hop, resolve, hx, ev_ok ht hv, SV.den, Deferred.ofValue, hargs l hl, invoke, hcall]
        · cases h
      · rename_i f' b hv
        split at h
        · rename_i l hl
          have e := Option.some.inj h
          simp only [Prod.mk.injEq] at e
          obtain ⟨rfl, rfl⟩ := e
          simp [execOp, hop, resolve, hx, ev_ok ht hv, SV.den, SV.dens, Deferred.ofValue, hargs l hl, invoke, hcall, dens_map]
        · cases h
      · cases h
    · cases h
  · cases hc
/-- A call that borrows none of the frame's blocks. -/
theorem r_call {l : List Oper} {o : Oper} {r : List Oper} {d : Nat} {c : Call} {f : FuncId} {svs args : List SV} {vs : List Value} {Y : Type} {val : Y → SV} {ψ : Y → Hp → Prop}
    (htri : TriS P f args [] u val (fun _ => []) ψ) (hw : wantE l tm o = some true) (ho : o.dst = some d) (hn : Nat.blt d F.n.z = true) (hop : o.op = .call c) (hcal : calleeE tm c = some (f, svs)) (hc : callable P f = true) (hvs' : valsE [] args = some vs) (hvs : valsE L svs = some vs)
    (next : ∀ y u', ψ y u' → Run P Q F ((d, val y) :: tm) L u' .seq l r) : Run P Q F tm L u .seq l (o :: r) := by
  intro β a w hf ht hd
  show (if _ then _ else _)
  rw [if_pos (wantE_ok hw ht)]
  refine .inl ?_
  unfold Oper.wp
  rw [calleeE_ok hop hcal hc ht hd, Oper.upon_enter, valsE_den hd.bn hvs]
  refine (htri List.nodup_nil (fun b hb => by simp [names] at hb) vs u hvs' rfl _ _ w (den0_of hd)).mono ?_
  rintro e w' ⟨v, h'', rfl, ⟨y, h', h1, h2, h3, h4⟩, h5⟩
  simp only [addsE, Option.some.injEq] at h2; subst h2
  have hk : (val y).ok [] = true := valE_ok h1
  have hk' : (val y).ok L = true := ok_more (fun i hi => by simp [kget] at hi) _ hk
  have hv : (val y).den β = v := valE_den (L := []) (fun i B b hB => by simp [kget] at hB) h1
  simp only [ho, ← hv]
  exact next y h' h4 β _ w' hf (put_rel hn ht hk') (den_back hd h5)
end
end Go.Sy
