/- The walk by a symbolic frame: contracts, entries, returns, calls. -/
import Derived.Test.YtkamfnmbidnhdaaDoorSyE
set_option linter.unusedVariables false
set_option linter.unusedSimpArgs false
set_option linter.unusedSectionVars false
namespace Go.Sy
mutual
/-- The value, if the blocks that it names have numbers. -/
def valE (L : Lm) : SV → Option Value
  | .v x => some x
  | .p i off => match kget L i with
    | some ⟨some b, _, _⟩ => some (.pointer (some ⟨b, off, none⟩))
    | _ => none
  | .ag cs => match valsE L cs with
    | some l => some (.agg l.toArray)
    | none => none
  | .tu cs => match valsE L cs with
    | some l => some (.tuple l.toArray)
    | none => none
  | .fn f a b => match valsE L a with
    | some l => match valsE L b with
      | some r => some (.func f l.toArray r.toArray)
      | none => none
    | none => none
def valsE (L : Lm) : List SV → Option (List Value)
  | [] => some []
  | s :: r => match valE L s with
    | some x => match valsE L r with
      | some l => some (x :: l)
      | none => none
    | none => none
end
def upd (h : Hp) (b : Nat) (o : Obj) : Hp := fun x => if x = b then some o else h x
theorem upd_here (h : Hp) (b : Nat) (o : Obj) : upd h b o b = some o := by simp [upd]
theorem upd_ne {h : Hp} {b x : Nat} {o : Obj} (hx : x ≠ b) : upd h b o x = h x := by simp [upd, hx]
def names : Lm → List Nat
  | [] => []
  | (_, ⟨some b, _, _⟩) :: r => b :: names r
  | (_, ⟨none, _, _⟩) :: r => names r
/-- The heap with L's blocks laid. -/
def addsE (L : Lm) : Lm → Hp → Option Hp
  | [], h => some h
  | (_, ⟨some b, cs, t⟩) :: r, h => match valsE L cs with
    | some l => match addsE L r h with
      | some h' => some (upd h' b (.cells l.toArray t (0, 0)))
      | none => none
    | none => none
  | (_, ⟨none, _, _⟩) :: _, _ => none
def keysOK : Lm → Bool
  | [] => true
  | (k, _) :: r => (kget r k).isNone && keysOK r
/-- The contract of a function: its arguments name the blocks of L0, which are lent; h: the rest of what it may see. Its answer is 'val y', the lent blocks are those of 'L1 y', the rest is a heap of which ψ speaks. -/
def TriS (P : Program) (f : FuncId) (args : List SV) (L0 : Lm) (h : Hp) {Y : Type} (val : Y → SV) (L1 : Y → Lm) (ψ : Y → Hp → Prop) : Prop :=
  (names L0).Nodup → (∀ b ∈ names L0, h b = none) → ∀ vs h0, valsE L0 args = some vs → addsE L0 L0 h = some h0 →
    Tri P f vs.toArray h0 fun v h'' => ∃ y h', valE (L1 y) (val y) = some v ∧ addsE (L1 y) (L1 y) h' = some h'' ∧ (∀ b ∈ names (L1 y), h' b = none) ∧ ψ y h'
section
variable {P : Program} {T : List (Nat × TI)} {F : Fr} {tm : Tm} {L : Lm} {u : Hp} {n : FN} {N : World} {β : Nat → Nat} {k : Hp} {a : Act} {w : World} {Q : Exit → Act → World → Prop}
mutual
theorem valE_den (hb : ∀ i B b, kget L i = some B → B.name = some b → β i = b) : ∀ {s : SV} {v : Value}, valE L s = some v → s.den β = v
  | .v x, v, h => by simp only [valE, Option.some.injEq] at h; exact h
  | .p i off, v, h => by
    simp only [valE] at h
    split at h
    · rename_i b cs t hk
      have h' := Option.some.inj h; subst h'
      simp only [SV.den, hb i _ b hk rfl]
    · cases h
  | .ag cs, v, h => by
    simp only [valE] at h
    split at h
    · rename_i l hl; have h' := Option.some.inj h; subst h'; simp only [SV.den, valsE_den hb hl]
    · cases h
  | .tu cs, v, h => by
    simp only [valE] at h
    split at h
    · rename_i l hl; have h' := Option.some.inj h; subst h'; simp only [SV.den, valsE_den hb hl]
    · cases h
  | .fn f p q, v, h => by
    simp only [valE] at h
    split at h
    · rename_i l hl
      split at h
      · rename_i r hr; have h' := Option.some.inj h; subst h'; simp only [SV.den, valsE_den hb hl, valsE_den hb hr]
      · cases h
    · cases h
theorem valsE_den (hb : ∀ i B b, kget L i = some B → B.name = some b → β i = b) : ∀ {l : List SV} {r : List Value}, valsE L l = some r → SV.dens β l = r
  | [], r, h => by simp only [valsE, Option.some.injEq] at h; subst h; rfl
  | s :: l, r, h => by
    simp only [valsE] at h
    split at h
    · rename_i x hx
      split at h
      · rename_i l' hl; have h' := Option.some.inj h; subst h'; simp only [SV.dens, valE_den hb hx, valsE_den hb hl]
      · cases h
    · cases h
end
mutual
theorem valE_ok : ∀ {s : SV} {v : Value}, valE L s = some v → s.ok L = true
  | .v x, v, h => rfl
  | .p i off, v, h => by
    simp only [valE] at h
    split at h
    · rename_i b cs t hk; simp [SV.ok, hk]
    · cases h
  | .ag cs, v, h => by
    simp only [valE] at h
    split at h
    · rename_i l hl; exact valsE_ok hl
    · cases h
  | .tu cs, v, h => by
    simp only [valE] at h
    split at h
    · rename_i l hl; exact valsE_ok hl
    · cases h
  | .fn f p q, v, h => by
    simp only [valE] at h
    split at h
    · rename_i l hl
      split at h
      · rename_i r hr; simp only [SV.ok, valsE_ok hl, valsE_ok hr]; rfl
      · cases h
    · cases h
theorem valsE_ok : ∀ {l : List SV} {r : List Value}, valsE L l = some r → SV.oks L l = true
  | [], r, h => rfl
  | s :: l, r, h => by
    simp only [valsE] at h
    split at h
    · rename_i x hx
      split at h
      · rename_i l' hl; simp only [SV.oks, valE_ok hx, valsE_ok hl]; rfl
      · cases h
    · cases h
end
theorem names_mem : ∀ {L : Lm} {i b : Nat} {cs : List SV} {t : TypeId}, (i, (⟨some b, cs, t⟩ : Blk)) ∈ L → b ∈ names L
  | (j, ⟨some b', _, _⟩) :: r, i, b, cs, t, h => by
    simp only [names, List.mem_cons] at h ⊢
    rcases h with h | h
    · simp only [Prod.mk.injEq, Blk.mk.injEq, Option.some.injEq] at h; exact .inl h.2.1
    · exact .inr (names_mem h)
  | (j, ⟨none, _, _⟩) :: r, i, b, cs, t, h => by
    simp only [names, List.mem_cons] at h ⊢
    rcases h with h | h
    · simp at h
    · exact names_mem h
theorem addsE_named {X : Lm} : ∀ {L : Lm} {h h' : Hp}, addsE X L h = some h' → ∀ i B, kget L i = some B → ∃ b, B.name = some b
  | [], h, h', hh, i, B, hB => by simp [kget] at hB
  | (j, ⟨some b, cs, t⟩) :: r, h, h', hh, i, B, hB => by
    rw [kget_cons] at hB
    split at hB
    · have e := Option.some.inj hB; subst e; exact ⟨b, rfl⟩
    · simp only [addsE] at hh
      split at hh
      · split at hh
        · rename_i h1 hh1; exact addsE_named hh1 i B hB
        · cases hh
      · cases hh
  | (j, ⟨none, cs, t⟩) :: r, h, h', hh, i, B, hB => by simp [addsE] at hh
theorem addsE_old {X : Lm} : ∀ {L : Lm} {h h' : Hp}, addsE X L h = some h' → ∀ b, b ∉ names L → h' b = h b
  | [], h, h', hh, b, hb => by simp only [addsE, Option.some.injEq] at hh; rw [hh]
  | (j, ⟨some b', cs, t⟩) :: r, h, h', hh, b, hb => by
    simp only [addsE] at hh
    simp only [names, List.mem_cons, not_or] at hb
    split at hh
    · split at hh
      · rename_i h1 hh1
        have e := Option.some.inj hh; subst e
        rw [upd_ne hb.1]; exact addsE_old hh1 b hb.2
      · cases hh
    · cases hh
  | (j, ⟨none, cs, t⟩) :: r, h, h', hh, b, hb => by simp [addsE] at hh
theorem addsE_here {X : Lm} : ∀ {L : Lm} {h h' : Hp}, addsE X L h = some h' → (names L).Nodup → ∀ i b cs t, (i, (⟨some b, cs, t⟩ : Blk)) ∈ L → ∃ l, valsE X cs = some l ∧ h' b = some (.cells l.toArray t (0, 0))
  | (j, ⟨some b', cs', t'⟩) :: r, h, h', hh, hn, i, b, cs, t, hm => by
    simp only [addsE] at hh
    simp only [names, List.nodup_cons] at hn
    split at hh
    · rename_i l hl
      split at hh
      · rename_i h1 hh1
        have e := Option.some.inj hh; subst e
        simp only [List.mem_cons] at hm
        rcases hm with hm | hm
        · simp only [Prod.mk.injEq, Blk.mk.injEq, Option.some.injEq] at hm
          obtain ⟨rfl, rfl, rfl, rfl⟩ := hm
          exact ⟨l, hl, upd_here ..⟩
        · obtain ⟨l', h1', h2'⟩ := addsE_here hh1 hn.2 i b cs t hm
          refine ⟨l', h1', ?_⟩
          rw [upd_ne (fun e => hn.1 (by subst e; exact names_mem hm))]; exact h2'
      · cases hh
    · cases hh
  | (j, ⟨none, cs', t'⟩) :: r, h, h', hh, hn, i, b, cs, t, hm => by simp [addsE] at hh
theorem names_two : ∀ {L : Lm}, (names L).Nodup → ∀ {i j b : Nat} {cs cs' : List SV} {t t' : TypeId}, kget L i = some ⟨some b, cs, t⟩ → kget L j = some ⟨some b, cs', t'⟩ → i = j
  | [], _, i, j, b, cs, cs', t, t', h1, h2 => by simp [kget] at h1
  | (x, ⟨some b', c, q⟩) :: r, hn, i, j, b, cs, cs', t, t', h1, h2 => by
    simp only [names, List.nodup_cons] at hn
    rw [kget_cons] at h1 h2
    split at h1 <;> split at h2
    · rename_i e1 e2; rw [← e1, ← e2]
    · have e := Option.some.inj h1
      simp only [Blk.mk.injEq, Option.some.injEq] at e
      exact absurd (e.1 ▸ names_mem (kget_mem h2)) hn.1
    · have e := Option.some.inj h2
      simp only [Blk.mk.injEq, Option.some.injEq] at e
      exact absurd (e.1 ▸ names_mem (kget_mem h1)) hn.1
    · exact names_two hn.2 h1 h2
  | (x, ⟨none, c, q⟩) :: r, hn, i, j, b, cs, cs', t, t', h1, h2 => by
    simp only [names] at hn
    rw [kget_cons] at h1 h2
    split at h1
    · have e := Option.some.inj h1; simp at e
    · split at h2
      · have e := Option.some.inj h2; simp at e
      · exact names_two hn h1 h2
def sargTm : Nat → List SV → Tm
  | _, [] => []
  | i, s :: r => (i, s) :: sargTm (i + 1) r
theorem sargTm_get : ∀ (l : List SV) (i t : Nat) (s : SV), kget (sargTm i l) t = some s → i ≤ t ∧ l[t - i]? = some s
  | [], i, t, s, h => by simp [sargTm, kget] at h
  | v :: r, i, t, s, h => by
    simp only [sargTm, kget_cons] at h
    split at h
    · rename_i hb; subst hb
      have e := Option.some.inj h; subst e
      exact ⟨Nat.le_refl _, by simp⟩
    · obtain ⟨h1, h2⟩ := sargTm_get r (i + 1) t s h
      refine ⟨by omega, ?_⟩
      have : t - i = (t - (i + 1)) + 1 := by omega
      rw [this]; simpa using h2
def bname (L : Lm) : Nat → Nat := fun i => match kget L i with
  | some ⟨some b, _, _⟩ => b
  | _ => 0
/-- A function's body, from a frame that holds its arguments and the lent blocks. -/
theorem enterS {f : FuncId} {fn : Func} {c : Code} {args : List SV} {L0 : Lm} {h : Hp} {Y : Type} {val : Y → SV} {L1 : Y → Lm} {ψ : Y → Hp → Prop}
    (hf : P.funcs[f]? = some fn) (hb : fn.body = some c) {n : Nat} (hn : fn.ntmps = n) (ha0 : Nat.ble args.length n = true)
    (H : ∀ k N, St ⟨k, N, ⟨n, []⟩, [], fun _ => 0⟩ (sargTm 0 args) L0 h (fun a w => c.wp P (bodyPost P fn
      (Fin (fun v h'' => ∃ y h', valE (L1 y) (val y) = some v ∧ addsE (L1 y) (L1 y) h' = some h'' ∧ (∀ b ∈ names (L1 y), h' b = none) ∧ ψ y h') k N)) a w)) :
    TriS P f args L0 h val L1 ψ := by
  have ha : args.length ≤ n := Nat.le_of_ble_eq_true ha0
  intro hnd hnone vs h0 hvs hh0 k N w d
  have hbn : ∀ i B b, kget L0 i = some B → B.name = some b → bname L0 i = b := fun i B b hB hb => by
    obtain ⟨nm, cs, t⟩ := B
    simp only at hb; subst hb
    simp [bname, hB]
  refine calls_of_wp hf hb (H k N (bname L0) _ w (fun i hi => absurd hi (by simp)) ⟨?_, rfl, rfl, ?_⟩ ?_)
  · subst hn
    have : vs.length = args.length := by rw [← valsE_den (β := bname L0) hbn hvs, dens_map]; simp
    simp; omega
  · intro t s hs
    obtain ⟨_, hv⟩ := sargTm_get args 0 t s hs
    simp only [Nat.sub_zero] at hv
    have hd := valsE_den (β := bname L0) hbn hvs
    rw [dens_map] at hd
    have ht : t < args.length := (List.getElem?_eq_some_iff.1 hv).1
    have hvt : vs[t]? = some (s.den (bname L0)) := by rw [← hd]; simp [hv]
    rw [Array.getElem?_append_left (by rw [← hd]; simpa using ht)]
    refine ⟨by simpa using hvt, ?_⟩
    have := valsE_ok hvs
    rw [oks_all] at this
    exact List.all_eq_true.1 this s (List.mem_of_getElem? hv)
  · refine ⟨fun i B hB => ?_, fun i j hi hj hij => ?_, fun b o hbo => ⟨d.ext b o ?_, fun i hi e => ?_⟩, fun b o hbo => ⟨(d.hid b o hbo).1, ?_, fun i hi e => ?_⟩, d.size⟩
    · obtain ⟨b, hb'⟩ := addsE_named hh0 i B hB
      obtain ⟨nm, cs, t⟩ := B
      simp only at hb'; subst hb'
      obtain ⟨l, hl, hh⟩ := addsE_here hh0 hnd i b cs t (kget_mem hB)
      rw [hbn i _ b hB rfl, valsE_den (β := bname L0) hbn hl]
      exact ⟨d.ext b _ hh, fun b' hb' => by simpa using hb', valsE_ok hl⟩
    · obtain ⟨B, hB⟩ := Option.isSome_iff_exists.1 hi
      obtain ⟨B', hB'⟩ := Option.isSome_iff_exists.1 hj
      obtain ⟨b, hb⟩ := addsE_named hh0 i B hB
      obtain ⟨b', hb'⟩ := addsE_named hh0 j B' hB'
      rw [hbn i _ b hB hb, hbn j _ b' hB' hb'] at hij
      subst hij
      obtain ⟨nm, cs, t⟩ := B
      obtain ⟨nm', cs', t'⟩ := B'
      simp only at hb hb'; subst hb; subst hb'
      exact names_two hnd hB hB'
    · rw [addsE_old hh0 b (fun hm => by rw [hnone b hm] at hbo; cases hbo)]; exact hbo
    · obtain ⟨B, hB⟩ := Option.isSome_iff_exists.1 hi
      obtain ⟨b', hb⟩ := addsE_named hh0 i B hB
      rw [hbn i _ b' hB hb] at e; subst e
      obtain ⟨nm, cs, t⟩ := B
      simp only at hb; subst hb
      rw [hnone b' (names_mem (kget_mem hB))] at hbo; cases hbo
    · have := (d.hid b o hbo).2
      by_cases hm : b ∈ names L0
      · exact hnone b hm
      · rwa [addsE_old hh0 b hm] at this
    · obtain ⟨B, hB⟩ := Option.isSome_iff_exists.1 hi
      obtain ⟨b', hb⟩ := addsE_named hh0 i B hB
      rw [hbn i _ b' hB hb] at e; subst e
      obtain ⟨nm, cs, t⟩ := B
      simp only at hb; subst hb
      obtain ⟨l, hl, hh⟩ := addsE_here hh0 hnd i b' cs t (kget_mem hB)
      rw [(d.hid b' o hbo).2] at hh; cases hh
end
end Go.Sy
