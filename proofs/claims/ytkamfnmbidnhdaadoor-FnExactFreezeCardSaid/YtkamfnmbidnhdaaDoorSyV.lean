/- The walk by a symbolic frame: a function that defers one closure, which may recover. -/
import Derived.Test.YtkamfnmbidnhdaaDoorSyU
set_option linter.unusedVariables false
set_option linter.unusedSimpArgs false
set_option linter.unusedSectionVars false
namespace Go.Sy
set_option linter.unusedVariables false
set_option linter.unusedSimpArgs false
theorem enterD {P : Program} {f : FuncId} {fn : Func} {c : Code} {args : List SV} {h : Hp} {Y : Type} {val : Y → SV} {ψ : Y → Hp → Prop}
    (hf : P.funcs[f]? = some fn) (hb : fn.body = some c) {n : Nat} (hn : fn.ntmps = n) (ha0 : Nat.ble args.length n = true)
    (H : ∀ k N, St ⟨k, N, ⟨n, []⟩, [], fun _ => 0⟩ (sargTm 0 args) [] h (fun a w => c.wp P (bodyPostD P fn (Post val (fun _ => []) ψ k N)) a w)) :
    TriS P f args [] h val (fun _ => []) ψ := by
  have ha : args.length ≤ n := Nat.le_of_ble_eq_true ha0
  intro _ _ vs h0 hvs hh0 k N w d
  simp only [addsE, Option.some.injEq] at hh0
  subst hh0
  have hden := valsE_den (L := []) (β := fun _ => 0) (fun i B b h => by simp [kget] at h) hvs
  rw [dens_map] at hden
  refine calls_of_wp_defers hf hb (H k N (fun _ => 0) _ w (fun i hi => absurd hi (by simp)) ⟨?_, rfl, rfl, ?_⟩ (Den.of0 d))
  · subst hn
    have : vs.length = args.length := by rw [← hden]; simp
    simp; omega
  · intro t s hs
    obtain ⟨_, hv⟩ := sargTm_get args 0 t s hs
    simp only [Nat.sub_zero] at hv
    have ht : t < args.length := (List.getElem?_eq_some_iff.1 hv).1
    have hvt : vs[t]? = some (s.den fun _ => 0) := by rw [← hden]; simp [hv]
    rw [Array.getElem?_append_left (by rw [← hden]; simpa using ht)]
    refine ⟨by simpa using hvt, ?_⟩
    have := valsE_ok hvs
    rw [oks_all] at this
    exact List.all_eq_true.1 this s (List.mem_of_getElem? hv)
section
variable {P : Program} {T : List (Nat × TI)} {F : Fr} {tm : Tm} {L : Lm} {u : Hp} {N : World} {β : Nat → Nat} {k : Hp} {a : Act} {w : World} {Q : Exit → Act → World → Prop}
theorem invoke_run {g : FuncId} (hc : callable P g = true) (cap : Array Value) (w : World) : (invoke (.fn (.func g) cap) #[]).run P w = .ok (.enter g cap) w := by
  unfold callable at hc
  split at hc
  · rename_i fn hfn
    simp only [Bool.and_eq_true, Bool.not_eq_true', beq_eq_false_iff_ne, ne_eq] at hc
    obtain ⟨cd, h2⟩ := Option.isSome_iff_exists.1 hc.2
    simp [invoke, callFunc, program, Sem.run, hfn, hc.1, h2]
  · cases hc
theorem fin_nil (hd : Den β L u k N w) {Y : Type} {val : Y → SV} {ψ : Y → Hp → Prop} (y : Y) {s : SV} {v : Value} (hv : valE [] s = some v) (hv' : valE [] (val y) = some v) (hψ : ψ y u) : Post val (fun _ => []) ψ k N (.returned (s.den β)) w :=
  ⟨v, u, by rw [valE_den (L := []) (fun i B b h => by simp [kget] at h) hv], ⟨y, u, hv', rfl, fun b hb => by simp [names] at hb, hψ⟩, ⟨fun b o hb => (hd.ext b o hb).1, fun b o hb => ⟨(hd.hid b o hb).1, (hd.hid b o hb).2.1⟩, hd.size⟩⟩
/-- All blocks stay. -/
structure Kept (w w' : World) : Prop where
  ge : Ge w w'
  old : ∀ (b : Nat) (o : Obj), w.heap[b]? = some o → w'.heap[b]? = some o
theorem Den.kept (hd : Den β L u k N w) {w' : World} (h : Kept w w') : Den β L u k N w' :=
  ⟨fun i B hB => ⟨h.old _ _ (hd.loc i B hB).1, (hd.loc i B hB).2⟩, hd.inj, fun b o hb => ⟨h.old _ _ (hd.ext b o hb).1, (hd.ext b o hb).2⟩, fun b o hb => ⟨h.old _ _ (hd.hid b o hb).1, (hd.hid b o hb).2⟩, hd.size.trans h.ge⟩
theorem den_all (w : World) : Den (fun _ => 0) [] (fun _ => none) (fun b => w.heap[b]?) w w := Den.of0 ⟨fun b o hb => (by cases hb), fun b o hb => ⟨hb, rfl⟩, Ge.refl w⟩
theorem kept_all {w w' : World} {u' : Hp} (hd : Den β L u' (fun b => w.heap[b]?) w w') : Kept w w' := ⟨hd.size, fun b o hb => (hd.hid b o hb).1⟩
/-- The regular end, past one deferred closure that does nothing. -/
theorem r_leave (hT : TOK P T) {fn : Func} {rs : List ResultVar} {Y : Type} {val : Y → SV} {ψ : Y → Hp → Prop} {g : FuncId} {cap : List SV} (hr : fn.results = rs.toArray) (hD : F.n.D = [⟨.func g, cap, []⟩]) (hcg : callable P g = true)
    (hidle : ∀ args w, CallsD P g (SV.dens args cap).toArray .returning w fun e u' w' => e = .returned (.tuple #[]) ∧ u' = .returning ∧ Kept w w') {s : SV} {v : Value} (y : Y)
    (h : resE T tm L rs = some s) (hv : valE [] s = some v) (hv' : valE [] (val y) = some v) (hψ : ψ y u) : St F tm L u (bodyPostD P fn (Post val (fun _ => []) ψ F.k F.N) .ret) := by
  intro β a w hf ht hd
  show Leaves P fn a.tmps _ a.defers .returning w
  rw [ht.defers, hD]
  refine leaves_cons (by simp) (invoke_run hcg _ _) ((hidle β w).mono ?_)
  rintro e u' w' ⟨rfl, rfl, hk⟩
  have hd' := hd.kept hk
  exact ⟨s.den β, resE_ok hT hr h ht hd', fin_nil hd' y hv hv' hψ⟩
/-- Blocks i and j are written, the heap has grown. -/
structure Rec (w w' : World) (bi bj : Nat) (xi xj : Value) (ti tj : TypeId) : Prop where
  ge : Ge w w'
  here : w'.heap[bi]? = some (.cells #[xi] ti (0, 0)) ∧ w'.heap[bj]? = some (.cells #[xj] tj (0, 0))
  other : ∀ b o, w.heap[b]? = some o → b ≠ bi → b ≠ bj → w'.heap[b]? = some o
theorem den_rec (hd : Den β L u k N w) {w' : World} {i j : Nat} {Bi Bj : Blk} (hi : kget L i = some Bi) (hj : kget L j = some Bj) (hij : i ≠ j) {xi xj : Value} (hr : Rec w w' (β i) (β j) xi xj Bi.ty Bj.ty) {L1 L2 : Lm}
    (h1 : ksetE L i ⟨Bi.name, [.v xi], Bi.ty⟩ = some L1) (h2 : ksetE L1 j ⟨Bj.name, [.v xj], Bj.ty⟩ = some L2) : Den β L2 u k N w' := by
  have g1 := ksetE_get h1
  have g2 := ksetE_get h2
  have hs : ∀ x, (kget L2 x).isSome = (kget L x).isSome := fun x => by
    rw [g2]; split
    · rename_i e; subst e; rw [hj]; rfl
    · rw [g1]; split
      · rename_i e; subst e; rw [hi]; rfl
      · rfl
  have hii : (kget L i).isSome = true := by rw [hi]; rfl
  have hjj : (kget L j).isSome = true := by rw [hj]; rfl
  refine ⟨fun x B hB => ?_, fun x y hx hy => hd.inj x y (by rwa [← hs]) (by rwa [← hs]), fun b o hb => ⟨?_, fun x hx => (hd.ext b o hb).2 x (by rwa [← hs])⟩, fun b o hb => ⟨?_, (hd.hid b o hb).2.1, fun x hx => (hd.hid b o hb).2.2 x (by rwa [← hs])⟩, hd.size.trans hr.ge⟩
  · rw [g2] at hB
    split at hB
    · rename_i e; subst e
      have e := Option.some.inj hB; subst e
      exact ⟨hr.here.2, (hd.loc j Bj hj).2.1, rfl⟩
    · rename_i e1
      rw [g1] at hB
      split at hB
      · rename_i e; subst e
        have e := Option.some.inj hB; subst e
        exact ⟨hr.here.1, (hd.loc i Bi hi).2.1, rfl⟩
      · rename_i e2
        obtain ⟨k1, k2, k3⟩ := hd.loc x B hB
        have hx : (kget L x).isSome = true := by rw [hB]; rfl
        exact ⟨hr.other _ _ k1 (fun e => e2 (hd.inj x i hx hii e).symm) (fun e => e1 (hd.inj x j hx hjj e).symm), k2, oks_more (fun z hz => by rw [hs]; exact hz) _ k3⟩
  · have := (hd.ext b o hb)
    exact hr.other b o this.1 (fun e => this.2 i hii e.symm) (fun e => this.2 j hjj e.symm)
  · have := (hd.hid b o hb)
    exact hr.other b o this.1 (fun e => this.2.2 i hii e.symm) (fun e => this.2.2 j hjj e.symm)
/-- The end of a deferred closure. -/
theorem r_endS (hT : TOK P T) {fn : Func} {rs : List ResultVar} {c₀ : Frame} {cs cs' : List Frame} {R : Ending → FrameMode → World → Prop} {u' : FrameMode} {s : SV} (hr : fn.results = rs.toArray) (hcs : cs' = { c₀ with mode := u' } :: cs) (h : resE T tm L rs = some s)
    (hR : ∀ β w, Den β L u F.k F.N w → R (.returned (s.den β)) u' w) (hD : F.n.D = [] := by rfl) : St F tm L u (fun a w => bodyPostS P fn c₀ cs R .normal a cs' w) := by
  intro β a w hf ht hd
  exact ⟨by rw [ht.defers, hD]; rfl, u', hcs, s.den β, resE_ok hT hr h ht hd, hR β w hd⟩
/-- The heap without all but two blocks. -/
def twoOf (w : World) (bi bj : Nat) : Hp := fun b => if b = bi ∨ b = bj then w.heap[b]? else none
def restOf (w : World) (bi bj : Nat) : Hp := fun b => if b = bi ∨ b = bj then none else w.heap[b]?
theorem den_two (w : World) (bi bj : Nat) : Den (fun _ => 0) [] (twoOf w bi bj) (restOf w bi bj) w w :=
  Den.of0 ⟨fun b o hb => (by
    unfold twoOf at hb
    split at hb
    · exact hb
    · cases hb), fun b o hb => (by
    unfold restOf at hb
    split at hb
    · cases hb
    · rename_i h
      exact ⟨hb, by unfold twoOf; rw [if_neg h]⟩), Ge.refl w⟩
theorem rel_args (n : Nat) (vs : List Value) (hn : vs.length ≤ n) (β : Nat → Nat) : RelT ⟨n, []⟩ [] β (argTm 0 vs) { tmps := vs.toArray ++ Array.replicate (n - vs.length) undef, defers := [] } := by
  refine ⟨by simp; omega, rfl, rfl, fun t s hs => ?_⟩
  obtain ⟨_, v, hv, rfl⟩ := argTm_get vs 0 t s hs
  simp only [Nat.sub_zero] at hv
  have ht : t < vs.length := (List.getElem?_eq_some_iff.1 hv).1
  rw [Array.getElem?_append_left (by simpa using ht)]
  exact ⟨by simpa [SV.den] using hv, rfl⟩
/-- r := recover() -/
theorem wpS_recover {id : Nat} {o0 o1 : Oper} {d0 d1 : Nat} {a : Act} {cs cs' : List Frame} {w : World} {v : Value} {Q : Exit → Act → List Frame → World → Prop} (h0 : o0.op = .call { callee := .builtin .recover, args := #[], argTypes := #[] }) (g0 : o0.guard = none) (e0 : o0.dst = some d0)
    (h1 : o1.op = .assign (.tmp d0)) (g1 : o1.guard = none) (e1 : o1.dst = some d1) (hr : (recoverD cs).getD (.nilIface, cs) = (v, cs')) (hd : d0 < a.tmps.size) (next : Q .normal ((a.put (some d0) v).put (some d1) v) cs' w) : (Code.region id #[o0, o1] false).wpS P Q a cs w := by
  apply wpS_region
  show wpOpsS P #[o0, o1] Q [0, 1] a cs w
  have w0 : ∀ y, Region.wanted o0 y = true := fun y => by simp [Region.wanted, g0]
  have w1 : ∀ y, Region.wanted o1 y = true := fun y => by simp [Region.wanted, g1]
  have x0 : (execOp a.eval o0).run P w = .ok .recover w := by simp [execOp, h0, resolve, invoke, builtin]
  have hv : ∀ b : Act, b = a.put (some d0) v → (execOp b.eval o1).run P w = .ok (.value v) w := fun b hb => by
    subst hb
    have : (a.put (some d0) v).eval (.tmp d0) = v := by simp [Act.eval, Act.put, hd]
    simp [execOp, h1, this]
  have k1 : wpOpsS P #[o0, o1] Q [1] (a.put (some d0) v) cs' w := by
    simp only [wpOpsS]
    simp only [List.getElem?_toArray, List.getElem?_cons_succ, List.getElem?_cons_zero, w1, if_true, hv _ rfl, Oper.upon, e1]
    exact next
  rw [wpOpsS]
  simp only [List.getElem?_toArray, List.getElem?_cons_zero, w0, if_true, x0, e0]
  cases hrd : recoverD cs with
  | none => rw [hrd] at hr; simp only [Option.getD_none, Prod.mk.injEq] at hr; obtain ⟨rfl, rfl⟩ := hr; exact k1
  | some p => rw [hrd] at hr; simp only [Option.getD_some] at hr; subst hr; exact k1
theorem rec_two {w w' : World} {bi bj : Nat} {xi xj : Value} {ti tj : TypeId} {β : Nat → Nat} {L : Lm} {u' : Hp} (hd : Den β L u' (restOf w bi bj) w w') (h1 : u' bi = some (.cells #[xi] ti (0, 0))) (h2 : u' bj = some (.cells #[xj] tj (0, 0))) : Rec w w' bi bj xi xj ti tj :=
  ⟨hd.size, ⟨(hd.ext _ _ h1).1, (hd.ext _ _ h2).1⟩, fun b o hb hi hj => (hd.hid b o (by unfold restOf; rw [if_neg (by simp [hi, hj])]; exact hb)).1⟩
/-- A panic that the deferred closure recovers: it writes xi and xj into blocks i and j. -/
theorem r_recover (hT : TOK P T) {fn : Func} {rs : List ResultVar} {Y : Type} {val : Y → SV} {ψ : Y → Hp → Prop} {g : FuncId} {i j : Nat} {pv xi xj : Value} {ti tj : TypeId} {Bi Bj : Blk} {ci cj : SV} (hr : fn.results = rs.toArray)
    (hD : F.n.D = [⟨.func g, [.p i 0, .p j 0], []⟩]) (hcg : callable P g = true) (hi : kget L i = some Bi) (hj : kget L j = some Bj) (hij : i ≠ j) (hci : Bi.cells = [ci]) (hcj : Bj.cells = [cj]) (hti : Bi.ty = ti) (htj : Bj.ty = tj)
    (hrec : ∀ (w : World) (bi bj : Nat) (x y : Value), bi ≠ bj → w.heap[bi]? = some (.cells #[x] ti (0, 0)) → w.heap[bj]? = some (.cells #[y] tj (0, 0)) →
      CallsD P g #[.pointer (some ⟨bi, 0, none⟩), .pointer (some ⟨bj, 0, none⟩)] (.panicking [{ v := pv, recovered := false }]) w fun e u' w' => e = .returned (.tuple #[]) ∧ u' = .panicking [{ v := pv, recovered := true }] ∧ Rec w w' bi bj xi xj ti tj)
    {L1 L2 : Lm} (h1 : ksetE L i ⟨Bi.name, [.v xi], Bi.ty⟩ = some L1) (h2 : ksetE L1 j ⟨Bj.name, [.v xj], Bj.ty⟩ = some L2) {s : SV} {v : Value} (y : Y)
    (h : resE T tm L2 rs = some s) (hv : valE [] s = some v) (hv' : valE [] (val y) = some v) (hψ : ψ y u) : St F tm L u (bodyPostD P fn (Post val (fun _ => []) ψ F.k F.N) (.panic [{ v := pv, recovered := false }])) := by
  intro β a w hf ht hd
  show Leaves P fn a.tmps _ a.defers (.panicking _) w
  rw [ht.defers, hD]
  have e1 := (hd.loc i Bi hi).1
  have e2 := (hd.loc j Bj hj).1
  rw [hci, hti] at e1
  rw [hcj, htj] at e2
  have hne : β i ≠ β j := fun e => hij (hd.inj i j (by rw [hi]; rfl) (by rw [hj]; rfl) e)
  refine leaves_cons (by simp) (invoke_run hcg _ _) ((hrec w (β i) (β j) _ _ hne e1 e2).mono ?_)
  rintro e u' w' ⟨rfl, rfl, hrc⟩
  subst hti; subst htj
  have hd' := den_rec hd hi hj hij hrc h1 h2
  have hs : ∀ x, (kget L x).isSome = true → (kget L2 x).isSome = true := fun x hx => by
    rw [ksetE_get h2]; split
    · rfl
    · rw [ksetE_get h1]; split
      · rfl
      · exact hx
  have ht' : RelT F.n L2 β tm a := ⟨ht.size, ht.defers, dvs_more hs ht.dok, fun t s hx => ⟨(ht.get t s hx).1, ok_more hs s (ht.get t s hx).2⟩⟩
  show ∃ v, (results fn a.tmps).run P w' = .ok v w' ∧ _
  exact ⟨s.den β, resE_ok hT hr h ht' hd', fin_nil hd' y hv hv' hψ⟩
end
end Go.Sy
