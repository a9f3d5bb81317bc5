/- The walk by a symbolic frame: words, and the rules of control. -/
import Derived.Tactics
import Derived.Deep.Quiet
import Derived.Deep.LoopGhost
import Derived.StillTail
import Derived.WalkKit
set_option linter.unusedVariables false
set_option linter.unusedSimpArgs false
set_option linter.unusedSectionVars false
namespace Go.Sy
/-- A heap in part. -/
abbrev Hp := Nat → Option Obj
/-- A value of the walk: known; a pointer to a block of the call's own (by its key); parts; a function with captures. -/
inductive SV where
  | v (x : Value)
  | p (i off : Nat)
  | ag (cs : List SV)
  | tu (cs : List SV)
  | fn (f : Fn) (a b : List SV)
/-- A block of the call's own; its number, where that is known. -/
structure Blk where
  name : Option Nat
  cells : List SV
  ty : TypeId
abbrev Tm := List (Nat × SV)
abbrev Lm := List (Nat × Blk)
def kget {α : Type} : List (Nat × α) → Nat → Option α
  | [], _ => none
  | (k, s) :: r, t => match Nat.beq k t with
    | true => some s
    | false => kget r t
theorem kget_cons {α : Type} (k : Nat) (s : α) (r : List (Nat × α)) (t : Nat) : kget ((k, s) :: r) t = if k = t then some s else kget r t := by
  simp only [kget]
  split
  · rename_i h; rw [if_pos (Nat.eq_of_beq_eq_true h)]
  · rename_i h; rw [if_neg (Nat.ne_of_beq_eq_false h)]
mutual
def SV.den (β : Nat → Nat) : SV → Value
  | .v x => x
  | .p i off => .pointer (some ⟨β i, off, none⟩)
  | .ag cs => .agg (SV.dens β cs).toArray
  | .tu cs => .tuple (SV.dens β cs).toArray
  | .fn f a b => .func f (SV.dens β a).toArray (SV.dens β b).toArray
def SV.dens (β : Nat → Nat) : List SV → List Value
  | [] => []
  | s :: r => s.den β :: SV.dens β r
end
mutual
/-- It names blocks of L alone. -/
def SV.ok (L : Lm) : SV → Bool
  | .v _ => true
  | .p i _ => (kget L i).isSome
  | .ag cs => SV.oks L cs
  | .tu cs => SV.oks L cs
  | .fn _ a b => SV.oks L a && SV.oks L b
def SV.oks (L : Lm) : List SV → Bool
  | [] => true
  | s :: r => s.ok L && SV.oks L r
end
theorem dens_map (β : Nat → Nat) : ∀ l, SV.dens β l = l.map (SV.den β)
  | [] => rfl
  | s :: r => by rw [SV.dens, dens_map β r]; rfl
theorem oks_all (L : Lm) : ∀ l, SV.oks L l = l.all (SV.ok L)
  | [] => rfl
  | s :: r => by rw [SV.oks, oks_all L r]; rfl
mutual
theorem den_same {β β' : Nat → Nat} {L : Lm} (h : ∀ i, (kget L i).isSome = true → β' i = β i) : ∀ s : SV, s.ok L = true → s.den β' = s.den β
  | .v _, _ => rfl
  | .p i off, hs => by simp only [SV.ok] at hs; simp only [SV.den, h i hs]
  | .ag cs, hs => by simp only [SV.ok] at hs; simp only [SV.den, dens_same h cs hs]
  | .tu cs, hs => by simp only [SV.ok] at hs; simp only [SV.den, dens_same h cs hs]
  | .fn f a b, hs => by simp only [SV.ok, Bool.and_eq_true] at hs; simp only [SV.den, dens_same h a hs.1, dens_same h b hs.2]
theorem dens_same {β β' : Nat → Nat} {L : Lm} (h : ∀ i, (kget L i).isSome = true → β' i = β i) : ∀ l : List SV, SV.oks L l = true → SV.dens β' l = SV.dens β l
  | [], _ => rfl
  | s :: r, hs => by simp only [SV.oks, Bool.and_eq_true] at hs; simp only [SV.dens, den_same h s hs.1, dens_same h r hs.2]
end
mutual
theorem ok_more {L L' : Lm} (h : ∀ i, (kget L i).isSome = true → (kget L' i).isSome = true) : ∀ s : SV, s.ok L = true → s.ok L' = true
  | .v _, _ => rfl
  | .p i off, hs => h i hs
  | .ag cs, hs => oks_more h cs hs
  | .tu cs, hs => oks_more h cs hs
  | .fn f a b, hs => by simp only [SV.ok, Bool.and_eq_true] at *; exact ⟨oks_more h a hs.1, oks_more h b hs.2⟩
theorem oks_more {L L' : Lm} (h : ∀ i, (kget L i).isSome = true → (kget L' i).isSome = true) : ∀ l : List SV, SV.oks L l = true → SV.oks L' l = true
  | [], _ => rfl
  | s :: r, hs => by simp only [SV.oks, Bool.and_eq_true] at *; exact ⟨ok_more h s hs.1, oks_more h r hs.2⟩
end
/-- w comes after N: no block fewer, and what lies beside the heap as it was. -/
structure Ge (N w : World) : Prop where
  size : N.heap.size ≤ w.heap.size
  os : w.os = N.os
  tape : w.tape = N.tape
  output : w.output = N.output
theorem Ge.refl (w : World) : Ge w w := ⟨Nat.le_refl _, rfl, rfl, rfl⟩
theorem Ge.trans {a b c : World} (h : Ge a b) (g : Ge b c) : Ge a c := ⟨Nat.le_trans h.size g.size, g.os.trans h.os, g.tape.trans h.tape, g.output.trans h.output⟩
/-- A deferred call. -/
structure DV where
  fn : Fn
  cap : List SV
  args : List SV
def DV.den (β : Nat → Nat) (d : DV) : Deferred := ⟨.fn d.fn (SV.dens β d.cap).toArray, (SV.dens β d.args).toArray⟩
def DV.ok (L : Lm) (d : DV) : Bool := SV.oks L d.cap && SV.oks L d.args
def dvs (L : Lm) (l : List DV) : Bool := l.all (DV.ok L)
theorem dvs_more {L L' : Lm} (h : ∀ i, (kget L i).isSome = true → (kget L' i).isSome = true) {l : List DV} (hl : dvs L l = true) : dvs L' l = true :=
  List.all_eq_true.2 fun d hd => by
    have := List.all_eq_true.1 hl d hd
    simp only [DV.ok, Bool.and_eq_true] at *
    exact ⟨oks_more h _ this.1, oks_more h _ this.2⟩
theorem dvs_same {β β' : Nat → Nat} {L : Lm} (h : ∀ i, (kget L i).isSome = true → β' i = β i) {l : List DV} (hl : dvs L l = true) : l.map (DV.den β') = l.map (DV.den β) :=
  List.map_congr_left fun d hd => by
    have := List.all_eq_true.1 hl d hd
    simp only [DV.ok, Bool.and_eq_true] at this
    simp only [DV.den, dens_same h _ this.1, dens_same h _ this.2]
/-- The frame's size; what it has deferred. -/
structure FN where
  z : Nat
  D : List DV
/-- What stays as it is through a call: hidden blocks, the world at the start, the frame's size; a fence on block numbers. -/
structure Fr where
  k : Hp
  N : World
  n : FN
  K : List Nat
  β0 : Nat → Nat
structure RelT (n : FN) (L : Lm) (β : Nat → Nat) (tm : Tm) (a : Act) : Prop where
  size : a.tmps.size = n.z
  defers : a.defers = n.D.map (DV.den β)
  dok : dvs L n.D = true
  get : ∀ t s, kget tm t = some s → a.tmps[t]? = some (s.den β) ∧ s.ok L = true
structure Den (β : Nat → Nat) (L : Lm) (u k : Hp) (N : World) (w : World) : Prop where
  loc : ∀ i B, kget L i = some B → w.heap[β i]? = some (.cells (SV.dens β B.cells).toArray B.ty (0, 0)) ∧ (∀ b, B.name = some b → β i = b) ∧ SV.oks L B.cells = true
  inj : ∀ i j, (kget L i).isSome = true → (kget L j).isSome = true → β i = β j → i = j
  ext : ∀ b o, u b = some o → w.heap[b]? = some o ∧ ∀ i, (kget L i).isSome = true → β i ≠ b
  hid : ∀ b o, k b = some o → w.heap[b]? = some o ∧ u b = none ∧ ∀ i, (kget L i).isSome = true → β i ≠ b
  size : Ge N w
def Fence (F : Fr) (L : Lm) (β : Nat → Nat) : Prop := ∀ i, i ∈ F.K → β i = F.β0 i ∧ (kget L i).isSome = true
/-- In every frame and world of this form. -/
def St (F : Fr) (tm : Tm) (L : Lm) (u : Hp) (Φ : Act → World → Prop) : Prop :=
  ∀ β a w, Fence F L β → RelT F.n L β tm a → Den β L u F.k F.N w → Φ a w
/-- A world that holds a heap's part and hides another. -/
structure Den0 (h k : Hp) (N : World) (w : World) : Prop where
  ext : ∀ b o, h b = some o → w.heap[b]? = some o
  hid : ∀ b o, k b = some o → w.heap[b]? = some o ∧ h b = none
  size : Ge N w
def Fin (post : Value → Hp → Prop) (k : Hp) (N : World) (e : Ending) (w : World) : Prop :=
  ∃ v h, e = .returned v ∧ post v h ∧ Den0 h k N w
/-- A call: from every world that holds h, to an answer and a heap of which post speaks; all other blocks stay. -/
def Tri (P : Program) (f : FuncId) (args : Array Value) (h : Hp) (post : Value → Hp → Prop) : Prop :=
  ∀ k N w, Den0 h k N w → Calls P f args w (Fin post k N)
def argTm : Nat → List Value → Tm
  | _, [] => []
  | i, v :: r => (i, .v v) :: argTm (i + 1) r
theorem argTm_get : ∀ (l : List Value) (i t : Nat) (s : SV), kget (argTm i l) t = some s → i ≤ t ∧ ∃ v, l[t - i]? = some v ∧ s = .v v
  | [], i, t, s, h => by simp [argTm, kget] at h
  | v :: r, i, t, s, h => by
    simp only [argTm, kget_cons] at h
    split at h
    · rename_i hb
      subst hb
      exact ⟨Nat.le_refl _, v, by simp, (Option.some.inj h).symm⟩
    · obtain ⟨h1, x, h2, h3⟩ := argTm_get r (i + 1) t s h
      refine ⟨by omega, x, ?_, h3⟩
      have : t - i = (t - (i + 1)) + 1 := by omega
      rw [this]; simpa using h2
theorem Den.of0 {h k : Hp} {N : World} {w : World} (d : Den0 h k N w) : Den (fun _ => 0) [] h k N w :=
  ⟨fun i B hi => by simp [kget] at hi, fun i j hi => by simp [kget] at hi, fun b o hb => ⟨d.ext b o hb, fun i hi => by simp [kget] at hi⟩,
    fun b o hb => ⟨(d.hid b o hb).1, (d.hid b o hb).2, fun i hi => by simp [kget] at hi⟩, d.size⟩
theorem enter {P : Program} {f : FuncId} {fn : Func} {c : Code} {args : List Value} {h : Hp} {post : Value → Hp → Prop}
    (hf : P.funcs[f]? = some fn) (hb : fn.body = some c) {n : Nat} (hn : fn.ntmps = n) (ha : args.length ≤ n)
    (H : ∀ k N, St ⟨k, N, ⟨n, []⟩, [], fun _ => 0⟩ (argTm 0 args) [] h (fun a w => c.wp P (bodyPost P fn (Fin post k N)) a w)) : Tri P f args.toArray h post := by
  intro k N w d
  refine calls_of_wp hf hb (H k N (fun _ => 0) _ w (fun i hi => absurd hi (by simp)) ⟨?_, rfl, rfl, ?_⟩ (Den.of0 d))
  · subst hn; simp; omega
  · intro t s hs
    obtain ⟨_, v, hv, rfl⟩ := argTm_get args 0 t s hs
    simp only [Nat.sub_zero] at hv
    have ht : t < args.length := by
      rcases Nat.lt_or_ge t args.length with h | h
      · exact h
      · simp [List.getElem?_eq_none h] at hv
    rw [Array.getElem?_append_left (by simpa using ht)]
    exact ⟨by simpa [SV.den] using hv, rfl⟩
theorem Tri.mono {P : Program} {f : FuncId} {args : Array Value} {h : Hp} {post post' : Value → Hp → Prop} (H : Tri P f args h post) (hp : ∀ v h', post v h' → post' v h') : Tri P f args h post' :=
  fun k N w d => (H k N w d).mono fun _ _ ⟨v, h', e, p, d'⟩ => ⟨v, h', e, hp _ _ p, d'⟩
section rules
variable {F : Fr} {tm : Tm} {L : Lm} {u : Hp} {P : Program} {Q : Exit → Act → World → Prop}
theorem St.imp {Φ Ψ : Act → World → Prop} (h : St F tm L u Φ) (hi : ∀ a w, Φ a w → Ψ a w) : St F tm L u Ψ :=
  fun β a w hm ht hd => hi _ _ (h β a w hm ht hd)
theorem r_seq {x y : Code} (h : St F tm L u (fun a w => x.wp P (Exit.then (y.wp P Q) Q) a w)) : St F tm L u (fun a w => (Code.seq x y).wp P Q a w) :=
  h.imp fun _ _ => wp_seq
theorem r_skip (h : St F tm L u (Q .normal)) : St F tm L u (fun a w => Code.skip.wp P Q a w) := h.imp fun _ _ => wp_skip
theorem r_ret (h : St F tm L u (Q .ret)) : St F tm L u (fun a w => Code.ret.wp P Q a w) := h.imp fun _ _ => wp_ret
theorem r_exit {id : Nat} (h : St F tm L u (Q (.exit id))) : St F tm L u (fun a w => (Code.exit id).wp P Q a w) := h.imp fun _ _ => wp_exit
theorem r_block {id : Nat} {c : Code} (h : St F tm L u (fun a w => c.wp P (Exit.inBlock id Q) a w)) : St F tm L u (fun a w => (Code.block id c).wp P Q a w) :=
  h.imp fun _ _ => wp_block
theorem x_then {Φ : Act → World → Prop} (h : St F tm L u Φ) : St F tm L u (Exit.then Φ Q .normal) := h
theorem x_then_ret {Φ : Act → World → Prop} (h : St F tm L u (Q .ret)) : St F tm L u (Exit.then Φ Q .ret) := h
theorem x_then_exit {Φ : Act → World → Prop} {i : Nat} (h : St F tm L u (Q (.exit i))) : St F tm L u (Exit.then Φ Q (.exit i)) := h
theorem x_block {id : Nat} (h : St F tm L u (Q .normal)) : St F tm L u (Exit.inBlock id Q .normal) := h
theorem x_block_ret {id : Nat} (h : St F tm L u (Q .ret)) : St F tm L u (Exit.inBlock id Q .ret) := h
theorem x_block_here {id : Nat} (h : St F tm L u (Q .normal)) : St F tm L u (Exit.inBlock id Q (.exit id)) := by
  intro β a w hm ht hd; simp only [Exit.inBlock, if_true]; exact h β a w hm ht hd
theorem x_block_past {id i : Nat} (hi : Nat.beq i id = false) (h : St F tm L u (Q (.exit i))) : St F tm L u (Exit.inBlock id Q (.exit i)) := by
  intro β a w hm ht hd
  have : i ≠ id := fun e => by subst e; simp at hi
  simp only [Exit.inBlock, if_neg this]; exact h β a w hm ht hd
def ev (tm : Tm) : Operand → Option SV
  | .tmp t => kget tm t
  | .const v => some (.v v)
  | .global g => some (.v (.pointer (some ⟨g, 0, none⟩)))
  | .func f => some (.v (.func (.func f) #[] #[]))
theorem ev_ok {n : FN} {β : Nat → Nat} {a : Act} {x : Operand} {s : SV} (ht : RelT n L β tm a) (h : ev tm x = some s) : a.eval x = s.den β := by
  cases x with
  | tmp t => have := (ht.get t s h).1; simp [Act.eval, Array.getD_eq_getD_getElem?, this]
  | const v => obtain rfl := Option.some.inj h; rfl
  | global g => obtain rfl := Option.some.inj h; rfl
  | func f => obtain rfl := Option.some.inj h; rfl
theorem ev_oks {n : FN} {β : Nat → Nat} {a : Act} {x : Operand} {s : SV} (ht : RelT n L β tm a) (h : ev tm x = some s) : s.ok L = true := by
  cases x with
  | tmp t => exact (ht.get t s h).2
  | const v => obtain rfl := Option.some.inj h; rfl
  | global g => obtain rfl := Option.some.inj h; rfl
  | func f => obtain rfl := Option.some.inj h; rfl
theorem r_cond {c : Operand} {x y : Code} {b : Bool} (hc : ev tm c = some (.v (.bool b))) (h1 : b = true → St F tm L u (fun a w => x.wp P Q a w))
    (h2 : b = false → St F tm L u (fun a w => y.wp P Q a w)) : St F tm L u (fun a w => (Code.cond c x y).wp P Q a w) := by
  intro β a w hm ht hd
  refine wp_cond_split (ev_ok ht hc) (fun e => h1 e β a w hm ht hd) (fun e => h2 e β a w hm ht hd)
theorem r_cond_dec {c : Operand} {x y : Code} {p : Prop} [Decidable p] (hc : ev tm c = some (.v (.bool (decide p)))) (h1 : p → St F tm L u (fun a w => x.wp P Q a w))
    (h2 : ¬ p → St F tm L u (fun a w => y.wp P Q a w)) : St F tm L u (fun a w => (Code.cond c x y).wp P Q a w) :=
  r_cond hc (fun e => h1 (of_decide_eq_true e)) (fun e => h2 (of_decide_eq_false e))
theorem r_cond_true {c : Operand} {x y : Code} (hc : ev tm c = some (.v (.bool true))) (h1 : St F tm L u (fun a w => x.wp P Q a w)) :
    St F tm L u (fun a w => (Code.cond c x y).wp P Q a w) := r_cond hc (fun _ => h1) (fun e => by cases e)
theorem r_cond_false {c : Operand} {x y : Code} (hc : ev tm c = some (.v (.bool false))) (h1 : St F tm L u (fun a w => y.wp P Q a w)) :
    St F tm L u (fun a w => (Code.cond c x y).wp P Q a w) := r_cond hc (fun e => by cases e) (fun _ => h1)
/-- The frame is of this form. -/
def InSt (F : Fr) (tm : Tm) (L : Lm) (u : Hp) (a : Act) (w : World) : Prop :=
  ∃ β, Fence F L β ∧ RelT F.n L β tm a ∧ Den β L u F.k F.N w
theorem InSt.use {Φ : Act → World → Prop} {a : Act} {w : World} (h : InSt F tm L u a w) (H : St F tm L u Φ) : Φ a w :=
  let ⟨β, hm, ht, hd⟩ := h; H β a w hm ht hd
/-- a loop: at each round's head the frame is one of a family -/
theorem r_loop {γ : Type} {c : Code} (I : γ → Prop) (T : γ → Tm) (M : γ → Lm) (U : γ → Hp) (μ : γ → Nat) (g0 : γ) (h0 : I g0) (hs : St F tm L u (InSt F (T g0) (M g0) (U g0)))
    (round : ∀ g, I g → St F (T g) (M g) (U g) (fun a w => c.wp P (Exit.then (fun a' w' => ∃ g', I g' ∧ μ g' < μ g ∧ InSt F (T g') (M g') (U g') a' w') Q) a w)) :
    St F tm L u (fun a w => (Code.loop c).wp P Q a w) := by
  intro β a w hm ht hd
  refine wp_loop_ghost (fun n a w => ∃ g, I g ∧ μ g = n ∧ InSt F (T g) (M g) (U g) a w) (μ g0) ⟨g0, h0, rfl, hs β a w hm ht hd⟩ ?_
  rintro n a w ⟨g, hI, rfl, hin⟩
  refine wp_mono (hin.use (round g hI)) ?_
  intro e a' w' hq
  cases e with
  | normal => obtain ⟨g', hI', hlt, hin'⟩ := hq; exact ⟨μ g', hlt, g', hI', rfl, hin'⟩
  | _ => exact hq
theorem x_round {γ : Type} {I : γ → Prop} {T : γ → Tm} {M : γ → Lm} {U : γ → Hp} {μ : γ → Nat} {n : Nat} (g : γ) (hI : I g) (hlt : μ g < n) (h : St F tm L u (InSt F (T g) (M g) (U g))) :
    St F tm L u (fun a' w' => ∃ g', I g' ∧ μ g' < n ∧ InSt F (T g') (M g') (U g') a' w') := h.imp fun _ _ h => ⟨g, hI, hlt, h⟩
def kall {α : Type} (l : List (Nat × α)) : List (Nat × α) → Prop
  | [] => True
  | (t, s) :: r => kget l t = some s ∧ kall l r
theorem kall_get {α : Type} {l : List (Nat × α)} : ∀ {r : List (Nat × α)}, kall l r → ∀ t s, kget r t = some s → kget l t = some s
  | [], _, t, s, h => by simp [kget] at h
  | (k, s') :: r, ha, t, s, h => by
    rw [kget_cons] at h
    split at h
    · rename_i hb; subst hb; rw [← Option.some.inj h]; exact ha.1
    · exact kall_get ha.2 t s h
def Tm.cl (L : Lm) (tm : Tm) : Bool := tm.all fun x => x.2.ok L
def Lm.cl (L : Lm) : Bool := L.all fun x => SV.oks L x.2.cells
theorem kget_mem {α : Type} : ∀ {l : List (Nat × α)} {t : Nat} {s : α}, kget l t = some s → (t, s) ∈ l
  | [], t, s, h => by simp [kget] at h
  | (k, s') :: r, t, s, h => by
    rw [kget_cons] at h
    split at h
    · rename_i hb; subst hb; rw [← Option.some.inj h]; exact .head _
    · exact .tail _ (kget_mem h)
/-- Fewer slots, fewer blocks. -/
theorem into {tm' : Tm} {L' : Lm} (hK : F.K = []) (hT : kall tm tm') (hL : kall L L') (c1 : Tm.cl L' tm' = true) (c2 : Lm.cl L' = true) (c3 : dvs L' F.n.D = true := by rfl) : St F tm L u (InSt F tm' L' u) := by
  intro β a w hm ht hd
  have hl : ∀ i, (kget L' i).isSome = true → (kget L i).isSome = true := fun i hi => by
    obtain ⟨B, hB⟩ := Option.isSome_iff_exists.1 hi
    rw [kall_get hL i B hB]; rfl
  have hf : Fence F L' β := fun i hi => by rw [hK] at hi; cases hi
  refine ⟨β, hf, ⟨ht.size, ht.defers, c3, fun t s h => ⟨(ht.get t s (kall_get hT t s h)).1, ?_⟩⟩, ?_⟩
  · exact List.all_eq_true.1 c1 _ (kget_mem h)
  · exact ⟨fun i B hB => ⟨(hd.loc i B (kall_get hL i B hB)).1, (hd.loc i B (kall_get hL i B hB)).2.1, List.all_eq_true.1 c2 _ (kget_mem hB)⟩, fun i j hi hj => hd.inj i j (hl i hi) (hl j hj),
      fun b o hb => ⟨(hd.ext b o hb).1, fun i hi => (hd.ext b o hb).2 i (hl i hi)⟩, fun b o hb => ⟨(hd.hid b o hb).1, (hd.hid b o hb).2.1, fun i hi => (hd.hid b o hb).2.2 i (hl i hi)⟩, hd.size⟩
theorem put_rel {n : FN} {β : Nat → Nat} {a : Act} {d : Nat} {s : SV} (hn : Nat.blt d n.z = true) (ht : RelT n L β tm a) (hs : s.ok L = true) : RelT n L β ((d, s) :: tm) (a.put (some d) (s.den β)) := by
  have hd : d < n.z := Nat.le_of_ble_eq_true hn
  refine ⟨by simpa [Act.put] using ht.size, ht.defers, ht.dok, fun t s' h => ?_⟩
  rw [kget_cons] at h
  split at h
  · rename_i e; subst e; rw [← Option.some.inj h]; exact ⟨by simp [Act.put, ht.size, hd], hs⟩
  · rename_i e
    exact ⟨by simp [Act.put, Array.getElem?_setIfInBounds_ne e]; exact (ht.get t s' h).1, (ht.get t s' h).2⟩
end rules
end Go.Sy
