/- The walk by a symbolic frame: words, and the rules of control. -/
import Derived.Tactics
import Derived.Deep.Quiet
import Derived.Deep.LoopGhost
import Derived.StillTail
import Derived.WalkKit
import Derived.Laws.Cells
set_option linter.unusedVariables false
set_option linter.unusedSimpArgs false
set_option linter.unusedSectionVars false
namespace Go.Sy
/-- A heap in part. -/
abbrev Hp := Nat → Option Obj
/-- A value of the walk: known; a pointer to a block of the call's own (by its key); parts; a function with captures. -/
inductive SV where
  | v (x : Value)
  | p (i off : Nat)
  | ag (cs : List SV)
  | tu (cs : List SV)
  | fn (f : Fn) (a b : List SV)
/-- A block of the call's own; its number, where that is known. -/
structure Blk where
  name : Option Nat
  cells : List SV
  ty : TypeId
abbrev Tm := List (Nat × SV)
abbrev Lm := List (Nat × Blk)
def kget {α : Type} : List (Nat × α) → Nat → Option α
  | [], _ => none
  | (k, s) :: r, t => match Nat.beq k t with
    | true => some s
    | false => kget r t
theorem kget_cons {α : Type} (k : Nat) (s : α) (r : List (Nat × α)) (t : Nat) : kget ((k, s) :: r) t = if k = t then some s else kget r t := by
  simp only [kget]
  split
  · rename_i h; rw [if_pos (Nat.eq_of_beq_eq_true h)]
  · rename_i h; rw [if_neg (Nat.ne_of_beq_eq_false h)]
mutual
def SV.den (β : Nat → Nat) : SV → Value
  | .v x => x
  | .p i off => .pointer (some ⟨β i, off, none⟩)
  | .ag cs => .agg (SV.dens β cs).toArray
  | .tu cs => .tuple (SV.dens β cs).toArray
  | .fn f a b => .func f (SV.dens β a).toArray (SV.dens β b).toArray
def SV.dens (β : Nat → Nat) : List SV → List Value
  | [] => []
  | s :: r => s.den β :: SV.dens β r
end
mutual
/-- It names blocks of L alone. -/
def SV.ok (L : Lm) : SV → Bool
  | .v _ => true
  | .p i _ => (kget L i).isSome
  | .ag cs => SV.oks L cs
  | .tu cs => SV.oks L cs
  | .fn _ a b => SV.oks L a && SV.oks L b
def SV.oks (L : Lm) : List SV → Bool
  | [] => true
  | s :: r => s.ok L && SV.oks L r
end
theorem dens_map (β : Nat → Nat) : ∀ l, SV.dens β l = l.map (SV.den β)
  | [] => rfl
  | s :: r => by rw [SV.dens, dens_map β r]; rfl
theorem oks_all (L : Lm) : ∀ l, SV.oks L l = l.all (SV.ok L)
  | [] => rfl
  | s :: r => by rw [SV.oks, oks_all L r]; rfl
mutual
theorem den_same {β β' : Nat → Nat} {L : Lm} (h : ∀ i, (kget L i).isSome = true → β' i = β i) : ∀ s : SV, s.ok L = true → s.den β' = s.den β
  | .v _, _ => rfl
  | .p i off, hs => by simp only [SV.ok] at hs; simp only [SV.den, h i hs]
  | .ag cs, hs => by simp only [SV.ok] at hs; simp only [SV.den, dens_same h cs hs]
  | .tu cs, hs => by simp only [SV.ok] at hs; simp only [SV.den, dens_same h cs hs]
  | .fn f a b, hs => by simp only [SV.ok, Bool.and_eq_true] at hs; simp only [SV.den, dens_same h a hs.1, dens_same h b hs.2]
theorem dens_same {β β' : Nat → Nat} {L : Lm} (h : ∀ i, (kget L i).isSome = true → β' i = β i) : ∀ l : List SV, SV.oks L l = true → SV.dens β' l = SV.dens β l
  | [], _ => rfl
  | s :: r, hs => by simp only [SV.oks, Bool.and_eq_true] at hs; simp only [SV.dens, den_same h s hs.1, dens_same h r hs.2]
end
mutual
theorem ok_more {L L' : Lm} (h : ∀ i, (kget L i).isSome = true → (kget L' i).isSome = true) : ∀ s : SV, s.ok L = true → s.ok L' = true
  | .v _, _ => rfl
  | .p i off, hs => h i hs
  | .ag cs, hs => oks_more h cs hs
  | .tu cs, hs => oks_more h cs hs
  | .fn f a b, hs => by simp only [SV.ok, Bool.and_eq_true] at *; exact ⟨oks_more h a hs.1, oks_more h b hs.2⟩
theorem oks_more {L L' : Lm} (h : ∀ i, (kget L i).isSome = true → (kget L' i).isSome = true) : ∀ l : List SV, SV.oks L l = true → SV.oks L' l = true
  | [], _ => rfl
  | s :: r, hs => by simp only [SV.oks, Bool.and_eq_true] at *; exact ⟨ok_more h s hs.1, oks_more h r hs.2⟩
end
/-- w comes after N: no block fewer, and what lies beside the heap as it was. -/
structure Ge (N w : World) : Prop where
  size : N.heap.size ≤ w.heap.size
  os : w.os = N.os
  tape : w.tape = N.tape
  output : w.output = N.output
  drawn : N.drawn ≤ w.drawn
theorem Ge.refl (w : World) : Ge w w := ⟨Nat.le_refl _, rfl, rfl, rfl, Nat.le_refl _⟩
theorem Ge.trans {a b c : World} (h : Ge a b) (g : Ge b c) : Ge a c := ⟨Nat.le_trans h.size g.size, g.os.trans h.os, g.tape.trans h.tape, g.output.trans h.output, Nat.le_trans h.drawn g.drawn⟩
/-- A deferred call. -/
structure DV where
  fn : Fn
  cap : List SV
  args : List SV
def DV.den (β : Nat → Nat) (d : DV) : Deferred := ⟨.fn d.fn (SV.dens β d.cap).toArray, (SV.dens β d.args).toArray⟩
def DV.ok (L : Lm) (d : DV) : Bool := SV.oks L d.cap && SV.oks L d.args
def dvs (L : Lm) (l : List DV) : Bool := l.all (DV.ok L)
theorem dvs_more {L L' : Lm} (h : ∀ i, (kget L i).isSome = true → (kget L' i).isSome = true) {l : List DV} (hl : dvs L l = true) : dvs L' l = true :=
  List.all_eq_true.2 fun d hd => by
    have := List.all_eq_true.1 hl d hd
    simp only [DV.ok, Bool.and_eq_true] at *
    exact ⟨oks_more h _ this.1, oks_more h _ this.2⟩
theorem dvs_same {β β' : Nat → Nat} {L : Lm} (h : ∀ i, (kget L i).isSome = true → β' i = β i) {l : List DV} (hl : dvs L l = true) : l.map (DV.den β') = l.map (DV.den β) :=
  List.map_congr_left fun d hd => by
    have := List.all_eq_true.1 hl d hd
    simp only [DV.ok, Bool.and_eq_true] at this
    simp only [DV.den, dens_same h _ this.1, dens_same h _ this.2]
/-- The frame's size; what it has deferred. -/
structure FN where
  z : Nat
  D : List DV
/-- What stays as it is through a call: hidden blocks, the world at the start, the frame's size; a fence on block numbers. -/
structure Fr where
  k : Hp
  N : World
  n : FN
  K : List Nat
  β0 : Nat → Nat
structure RelT (n : FN) (L : Lm) (β : Nat → Nat) (tm : Tm) (a : Act) : Prop where
  size : a.tmps.size = n.z
  defers : a.defers = n.D.map (DV.den β)
  dok : dvs L n.D = true
  get : ∀ t s, kget tm t = some s → a.tmps[t]? = some (s.den β) ∧ s.ok L = true
structure Den (β : Nat → Nat) (L : Lm) (u k : Hp) (N : World) (w : World) : Prop where
  loc : ∀ i B, kget L i = some B → w.heap[β i]? = some (.cells (SV.dens β B.cells).toArray B.ty (0, 0)) ∧ (∀ b, B.name = some b → β i = b) ∧ SV.oks L B.cells = true
  inj : ∀ i j, (kget L i).isSome = true → (kget L j).isSome = true → β i = β j → i = j
  ext : ∀ b o, u b = some o → w.heap[b]? = some o ∧ ∀ i, (kget L i).isSome = true → β i ≠ b
  hid : ∀ b o, k b = some o → w.heap[b]? = some o ∧ u b = none ∧ ∀ i, (kget L i).isSome = true → β i ≠ b
  size : Ge N w
def Fence (F : Fr) (L : Lm) (β : Nat → Nat) : Prop := ∀ i, i ∈ F.K → β i = F.β0 i ∧ (kget L i).isSome = true
/-- In every frame and world of this form. -/
def St (F : Fr) (tm : Tm) (L : Lm) (u : Hp) (Φ : Act → World → Prop) : Prop :=
  ∀ β a w, Fence F L β → RelT F.n L β tm a → Den β L u F.k F.N w → Φ a w
/-- A world that holds a heap's part and hides another. -/
structure Den0 (h k : Hp) (N : World) (w : World) : Prop where
  ext : ∀ b o, h b = some o → w.heap[b]? = some o
  hid : ∀ b o, k b = some o → w.heap[b]? = some o ∧ h b = none
  size : Ge N w
def Fin (post : Value → Hp → Prop) (k : Hp) (N : World) (e : Ending) (w : World) : Prop :=
  ∃ v h, e = .returned v ∧ post v h ∧ Den0 h k N w
/-- A call: from every world that holds h, to an answer and a heap of which post speaks; all other blocks stay. -/
def Tri (P : Program) (f : FuncId) (args : Array Value) (h : Hp) (post : Value → Hp → Prop) : Prop :=
  ∀ k N w, Den0 h k N w → Calls P f args w (Fin post k N)
def argTm : Nat → List Value → Tm
  | _, [] => []
  | i, v :: r => (i, .v v) :: argTm (i + 1) r
theorem argTm_get : ∀ (l : List Value) (i t : Nat) (s : SV), kget (argTm i l) t = some s → i ≤ t ∧ ∃ v, l[t - i]? = some v ∧ s = .v v
  | [], i, t, s, h => by simp [argTm, kget] at h
  | v :: r, i, t, s, h => by
    simp only [argTm, kget_cons] at h
    split at h
    · rename_i hb
      subst hb
      exact ⟨Nat.le_refl _, v, by simp, (Option.some.inj h).symm⟩
    · obtain ⟨h1, x, h2, h3⟩ := argTm_get r (i + 1) t s h
      refine ⟨by omega, x, ?_, h3⟩
      have : t - i = (t - (i + 1)) + 1 := by omega
      rw [this]; simpa using h2
theorem Den.of0 {h k : Hp} {N : World} {w : World} (d : Den0 h k N w) : Den (fun _ => 0) [] h k N w :=
  ⟨fun i B hi => by simp [kget] at hi, fun i j hi => by simp [kget] at hi, fun b o hb => ⟨d.ext b o hb, fun i hi => by simp [kget] at hi⟩,
    fun b o hb => ⟨(d.hid b o hb).1, (d.hid b o hb).2, fun i hi => by simp [kget] at hi⟩, d.size⟩
theorem enter {P : Program} {f : FuncId} {fn : Func} {c : Code} {args : List Value} {h : Hp} {post : Value → Hp → Prop}
    (hf : P.funcs[f]? = some fn) (hb : fn.body = some c) {n : Nat} (hn : fn.ntmps = n) (ha : args.length ≤ n)
    (H : ∀ k N, St ⟨k, N, ⟨n, []⟩, [], fun _ => 0⟩ (argTm 0 args) [] h (fun a w => c.wp P (bodyPost P fn (Fin post k N)) a w)) : Tri P f args.toArray h post := by
  intro k N w d
  refine calls_of_wp hf hb (H k N (fun _ => 0) _ w (fun i hi => absurd hi (by simp)) ⟨?_, rfl, rfl, ?_⟩ (Den.of0 d))
  · subst hn; simp; omega
  · intro t s hs
    obtain ⟨_, v, hv, rfl⟩ := argTm_get args 0 t s hs
    simp only [Nat.sub_zero] at hv
    have ht : t < args.length := by
      rcases Nat.lt_or_ge t args.length with h | h
      · exact h
      · simp [List.getElem?_eq_none h] at hv
    rw [Array.getElem?_append_left (by simpa using ht)]
    exact ⟨by simpa [SV.den] using hv, rfl⟩
theorem Tri.mono {P : Program} {f : FuncId} {args : Array Value} {h : Hp} {post post' : Value → Hp → Prop} (H : Tri P f args h post) (hp : ∀ v h', post v h' → post' v h') : Tri P f args h post' :=
  fun k N w d => (H k N w d).mono fun _ _ ⟨v, h', e, p, d'⟩ => ⟨v, h', e, hp _ _ p, d'⟩
section rules
variable {F : Fr} {tm : Tm} {L : Lm} {u : Hp} {P : Program} {Q : Exit → Act → World → Prop}
theorem St.imp {Φ Ψ : Act → World → Prop} (h : St F tm L u Φ) (hi : ∀ a w, Φ a w → Ψ a w) : St F tm L u Ψ :=
  fun β a w hm ht hd => hi _ _ (h β a w hm ht hd)
theorem r_seq {x y : Code} (h : St F tm L u (fun a w => x.wp P (Exit.then (y.wp P Q) Q) a w)) : St F tm L u (fun a w => (Code.seq x y).wp P Q a w) :=
  h.imp fun _ _ => wp_seq
theorem r_skip (h : St F tm L u (Q .normal)) : St F tm L u (fun a w => Code.skip.wp P Q a w) := h.imp fun _ _ => wp_skip
theorem r_ret (h : St F tm L u (Q .ret)) : St F tm L u (fun a w => Code.ret.wp P Q a w) := h.imp fun _ _ => wp_ret
theorem r_exit {id : Nat} (h : St F tm L u (Q (.exit id))) : St F tm L u (fun a w => (Code.exit id).wp P Q a w) := h.imp fun _ _ => wp_exit
theorem r_block {id : Nat} {c : Code} (h : St F tm L u (fun a w => c.wp P (Exit.inBlock id Q) a w)) : St F tm L u (fun a w => (Code.block id c).wp P Q a w) :=
  h.imp fun _ _ => wp_block
theorem x_then {Φ : Act → World → Prop} (h : St F tm L u Φ) : St F tm L u (Exit.then Φ Q .normal) := h
theorem x_then_ret {Φ : Act → World → Prop} (h : St F tm L u (Q .ret)) : St F tm L u (Exit.then Φ Q .ret) := h
theorem x_then_exit {Φ : Act → World → Prop} {i : Nat} (h : St F tm L u (Q (.exit i))) : St F tm L u (Exit.then Φ Q (.exit i)) := h
theorem x_block {id : Nat} (h : St F tm L u (Q .normal)) : St F tm L u (Exit.inBlock id Q .normal) := h
theorem x_block_ret {id : Nat} (h : St F tm L u (Q .ret)) : St F tm L u (Exit.inBlock id Q .ret) := h
theorem x_block_here {id : Nat} (h : St F tm L u (Q .normal)) : St F tm L u (Exit.inBlock id Q (.exit id)) := by
  intro β a w hm ht hd; simp only [Exit.inBlock, if_true]; exact h β a w hm ht hd
theorem x_block_past {id i : Nat} (hi : Nat.beq i id = false) (h : St F tm L u (Q (.exit i))) : St F tm L u (Exit.inBlock id Q (.exit i)) := by
  intro β a w hm ht hd
  have : i ≠ id := fun e => by subst e; simp at hi
  simp only [Exit.inBlock, if_neg this]; exact h β a w hm ht hd
def ev (tm : Tm) : Operand → Option SV
  | .tmp t => kget tm t
  | .const v => some (.v v)
  | .global g => some (.v (.pointer (some ⟨g, 0, none⟩)))
  | .func f => some (.v (.func (.func f) #[] #[]))
theorem ev_ok {n : FN} {β : Nat → Nat} {a : Act} {x : Operand} {s : SV} (ht : RelT n L β tm a) (h : ev tm x = some s) : a.eval x = s.den β := by
  cases x with
  | tmp t => have := (ht.get t s h).1; simp [Act.eval, Array.getD_eq_getD_getElem?, this]
  | const v => obtain rfl := Option.some.inj h; rfl
  | global g => obtain rfl := Option.some.inj h; rfl
  | func f => obtain rfl := Option.some.inj h; rfl
theorem ev_oks {n : FN} {β : Nat → Nat} {a : Act} {x : Operand} {s : SV} (ht : RelT n L β tm a) (h : ev tm x = some s) : s.ok L = true := by
  cases x with
  | tmp t => exact (ht.get t s h).2
  | const v => obtain rfl := Option.some.inj h; rfl
  | global g => obtain rfl := Option.some.inj h; rfl
  | func f => obtain rfl := Option.some.inj h; rfl
theorem r_cond {c : Operand} {x y : Code} {b : Bool} (hc : ev tm c = some (.v (.bool b))) (h1 : b = true → St F tm L u (fun a w => x.wp P Q a w))
    (h2 : b = false → St F tm L u (fun a w => y.wp P Q a w)) : St F tm L u (fun a w => (Code.cond c x y).wp P Q a w) := by
  intro β a w hm ht hd
  refine wp_cond_split (ev_ok ht hc) (fun e => h1 e β a w hm ht hd) (fun e => h2 e β a w hm ht hd)
theorem r_cond_dec {c : Operand} {x y : Code} {p : Prop} [Decidable p] (hc : ev tm c = some (.v (.bool (decide p)))) (h1 : p → St F tm L u (fun a w => x.wp P Q a w))
    (h2 : ¬ p → St F tm L u (fun a w => y.wp P Q a w)) : St F tm L u (fun a w => (Code.cond c x y).wp P Q a w) :=
  r_cond hc (fun e => h1 (of_decide_eq_true e)) (fun e => h2 (of_decide_eq_false e))
theorem r_cond_true {c : Operand} {x y : Code} (hc : ev tm c = some (.v (.bool true))) (h1 : St F tm L u (fun a w => x.wp P Q a w)) :
    St F tm L u (fun a w => (Code.cond c x y).wp P Q a w) := r_cond hc (fun _ => h1) (fun e => by cases e)
theorem r_cond_false {c : Operand} {x y : Code} (hc : ev tm c = some (.v (.bool false))) (h1 : St F tm L u (fun a w => y.wp P Q a w)) :
    St F tm L u (fun a w => (Code.cond c x y).wp P Q a w) := r_cond hc (fun e => by cases e) (fun _ => h1)
/-- The frame is of this form. -/
def InSt (F : Fr) (tm : Tm) (L : Lm) (u : Hp) (a : Act) (w : World) : Prop :=
  ∃ β, Fence F L β ∧ RelT F.n L β tm a ∧ Den β L u F.k F.N w
theorem InSt.use {Φ : Act → World → Prop} {a : Act} {w : World} (h : InSt F tm L u a w) (H : St F tm L u Φ) : Φ a w :=
  let ⟨β, hm, ht, hd⟩ := h; H β a w hm ht hd
/-- a loop: at each round's head the frame is one of a family -/
theorem r_loop {γ : Type} {c : Code} (I : γ → Prop) (T : γ → Tm) (M : γ → Lm) (U : γ → Hp) (μ : γ → Nat) (g0 : γ) (h0 : I g0) (hs : St F tm L u (InSt F (T g0) (M g0) (U g0)))
    (round : ∀ g, I g → St F (T g) (M g) (U g) (fun a w => c.wp P (Exit.then (fun a' w' => ∃ g', I g' ∧ μ g' < μ g ∧ InSt F (T g') (M g') (U g') a' w') Q) a w)) :
    St F tm L u (fun a w => (Code.loop c).wp P Q a w) := by
  intro β a w hm ht hd
  refine wp_loop_ghost (fun n a w => ∃ g, I g ∧ μ g = n ∧ InSt F (T g) (M g) (U g) a w) (μ g0) ⟨g0, h0, rfl, hs β a w hm ht hd⟩ ?_
  rintro n a w ⟨g, hI, rfl, hin⟩
  refine wp_mono (hin.use (round g hI)) ?_
  intro e a' w' hq
  cases e with
  | normal => obtain ⟨g', hI', hlt, hin'⟩ := hq; exact ⟨μ g', hlt, g', hI', rfl, hin'⟩
  | _ => exact hq
theorem x_round {γ : Type} {I : γ → Prop} {T : γ → Tm} {M : γ → Lm} {U : γ → Hp} {μ : γ → Nat} {n : Nat} (g : γ) (hI : I g) (hlt : μ g < n) (h : St F tm L u (InSt F (T g) (M g) (U g))) :
    St F tm L u (fun a' w' => ∃ g', I g' ∧ μ g' < n ∧ InSt F (T g') (M g') (U g') a' w') := h.imp fun _ _ h => ⟨g, hI, hlt, h⟩
def kall {α : Type} (l : List (Nat × α)) : List (Nat × α) → Prop
  | [] => True
  | (t, s) :: r => kget l t = some s ∧ kall l r
theorem kall_get {α : Type} {l : List (Nat × α)} : ∀ {r : List (Nat × α)}, kall l r → ∀ t s, kget r t = some s → kget l t = some s
  | [], _, t, s, h => by simp [kget] at h
  | (k, s') :: r, ha, t, s, h => by
    rw [kget_cons] at h
    split at h
    · rename_i hb; subst hb; rw [← Option.some.inj h]; exact ha.1
    · exact kall_get ha.2 t s h
def Tm.cl (L : Lm) (tm : Tm) : Bool := tm.all fun x => x.2.ok L
def Lm.cl (L : Lm) : Bool := L.all fun x => SV.oks L x.2.cells
theorem kget_mem {α : Type} : ∀ {l : List (Nat × α)} {t : Nat} {s : α}, kget l t = some s → (t, s) ∈ l
  | [], t, s, h => by simp [kget] at h
  | (k, s') :: r, t, s, h => by
    rw [kget_cons] at h
    split at h
    · rename_i hb; subst hb; rw [← Option.some.inj h]; exact .head _
    · exact .tail _ (kget_mem h)
/-- Fewer slots, fewer blocks. -/
theorem into {tm' : Tm} {L' : Lm} (hK : F.K = []) (hT : kall tm tm') (hL : kall L L') (c1 : Tm.cl L' tm' = true) (c2 : Lm.cl L' = true) (c3 : dvs L' F.n.D = true := by rfl) : St F tm L u (InSt F tm' L' u) := by
  intro β a w hm ht hd
  have hl : ∀ i, (kget L' i).isSome = true → (kget L i).isSome = true := fun i hi => by
    obtain ⟨B, hB⟩ := Option.isSome_iff_exists.1 hi
    rw [kall_get hL i B hB]; rfl
  have hf : Fence F L' β := fun i hi => by rw [hK] at hi; cases hi
  refine ⟨β, hf, ⟨ht.size, ht.defers, c3, fun t s h => ⟨(ht.get t s (kall_get hT t s h)).1, ?_⟩⟩, ?_⟩
  · exact List.all_eq_true.1 c1 _ (kget_mem h)
  · exact ⟨fun i B hB => ⟨(hd.loc i B (kall_get hL i B hB)).1, (hd.loc i B (kall_get hL i B hB)).2.1, List.all_eq_true.1 c2 _ (kget_mem hB)⟩, fun i j hi hj => hd.inj i j (hl i hi) (hl j hj),
      fun b o hb => ⟨(hd.ext b o hb).1, fun i hi => (hd.ext b o hb).2 i (hl i hi)⟩, fun b o hb => ⟨(hd.hid b o hb).1, (hd.hid b o hb).2.1, fun i hi => (hd.hid b o hb).2.2 i (hl i hi)⟩, hd.size⟩
theorem put_rel {n : FN} {β : Nat → Nat} {a : Act} {d : Nat} {s : SV} (hn : Nat.blt d n.z = true) (ht : RelT n L β tm a) (hs : s.ok L = true) : RelT n L β ((d, s) :: tm) (a.put (some d) (s.den β)) := by
  have hd : d < n.z := Nat.le_of_ble_eq_true hn
  refine ⟨by simpa [Act.put] using ht.size, ht.defers, ht.dok, fun t s' h => ?_⟩
  rw [kget_cons] at h
  split at h
  · rename_i e; subst e; rw [← Option.some.inj h]; exact ⟨by simp [Act.put, ht.size, hd], hs⟩
  · rename_i e
    exact ⟨by simp [Act.put, Array.getElem?_setIfInBounds_ne e]; exact (ht.get t s' h).1, (ht.get t s' h).2⟩
end rules
end Go.Sy
/- The walk by a symbolic frame: the types, and the operations that compute. -/
namespace Go.Sy
/-- A zero cell. -/
inductive ZV where
  | int (k : IntKind) | bool | str | ptr | sl | mp | fn | ifc
def ZV.val : ZV → Value
  | .int k => .int k 0
  | .bool => .bool false
  | .str => .string ⟨#[]⟩
  | .ptr => .pointer none
  | .sl => .slice none 0 0
  | .mp => .map none
  | .fn => .nilFunc
  | .ifc => .nilIface
def ZV.is : ZV → Value → Bool
  | .int k, .int k' n => decide (k = k') && decide (n = 0)
  | .bool, .bool b => !b
  | .str, .string s => s.data.toList.isEmpty
  | .ptr, .pointer a => a.isNone
  | .sl, .slice a n c => a.isNone && decide (n = 0) && decide (c = 0)
  | .mp, .map r => r.isNone
  | .fn, .nilFunc => true
  | .ifc, .nilIface => true
  | _, _ => false
theorem ZV.is_val {z : ZV} {v : Value} (h : z.is v = true) : v = z.val := by
  cases z <;> cases v <;> simp_all [ZV.is, ZV.val]
  rename_i s
  obtain ⟨⟨l⟩⟩ := s
  simp_all
def ZV.iss : List ZV → List Value → Bool
  | [], [] => true
  | z :: zs, v :: vs => z.is v && ZV.iss zs vs
  | _, _ => false
theorem ZV.iss_val : ∀ {zs : List ZV} {vs : List Value}, ZV.iss zs vs = true → vs = zs.map ZV.val
  | [], [], _ => rfl
  | z :: zs, v :: vs, h => by simp only [ZV.iss, Bool.and_eq_true] at h; rw [ZV.is_val h.1, ZV.iss_val h.2]; rfl
  | [], _ :: _, h => by simp [ZV.iss] at h
  | _ :: _, [], h => by simp [ZV.iss] at h
inductive TK where
  | int (k : IntKind) | bool | str | ptr | slice (e : TypeId) | map (k e : TypeId) | fn | ifc
  | struct (fs : List (Nat × Nat × Bool)) | arr (n : Nat) (e : TypeId)
  | cell
def TK.agg : TK → Bool
  | .struct _ => true
  | .arr _ _ => true
  | _ => false
/-- What the walk knows of a type. -/
structure TI where
  kind : TK
  size : Nat
  bytes : Nat
  zero : List ZV
def isAggB (P : Program) (t : TypeId) : Bool :=
  match P.underlying t with
  | some (.struct _) | some (.array _ _) => true
  | _ => false
def cells1 (P : Program) (t : TypeId) : Nat := ((P.info? t).map (·.size)).getD 0
def kfits (P : Program) : TK → TypeDesc → Bool
  | .int k, .int k' => decide (k = k')
  | .bool, .bool => true
  | .str, .string => true
  | .ptr, .pointer _ => true
  | .slice e, .slice e' => decide (e = e')
  | .map a b, .map c d => decide (a = c) && decide (b = d)
  | .fn, .func _ _ _ => true
  | .ifc, .interface _ => true
  | .struct fs, .struct fields => decide (fs = fields.toList.map fun f => (f.offset, cells1 P f.type, isAggB P f.type))
  | .arr n e, .array n' e' => decide (n = n') && decide (e = e')
  | _, _ => false
def chk (P : Program) (t : TypeId) (ti : TI) : Bool :=
  match P.info? t, P.underlying t with
  | some i, some d => decide (ti.zero.length = ti.size) && decide (i.size = ti.size) && decide (i.bytes = ti.bytes) && (match i.zero with | some z => ZV.iss ti.zero z.cells.toList | none => false) && kfits P ti.kind d
  | _, _ => false
/-- The table fits the program. -/
def TOK (P : Program) (T : List (Nat × TI)) : Prop := ∀ t ti, kget T t = some ti → chk P t ti = true
theorem TOK.of {P : Program} {T : List (Nat × TI)} (h : (T.all fun x => chk P x.1 x.2) = true) : TOK P T :=
  fun _ _ ht => List.all_eq_true.1 h _ (kget_mem ht)
section types
variable {P : Program} {t : TypeId} {ti : TI}
theorem chk_info (h : chk P t ti = true) : ∃ i z, P.info? t = some i ∧ i.size = ti.size ∧ i.bytes = ti.bytes ∧ i.zero = some z ∧ z.cells = (ti.zero.map ZV.val).toArray ∧ ti.zero.length = ti.size := by
  unfold chk at h
  split at h
  · rename_i i d hi hd
    simp only [Bool.and_eq_true, decide_eq_true_eq] at h
    obtain ⟨⟨⟨⟨h0, h1⟩, h2⟩, h3⟩, _⟩ := h
    split at h3
    · rename_i z hz
      refine ⟨i, z, hi, h1, h2, hz, ?_, h0⟩
      rw [← ZV.iss_val h3]
    · cases h3
  · cases h
theorem chk_desc (h : chk P t ti = true) : ∃ d, P.underlying t = some d ∧ kfits P ti.kind d = true := by
  unfold chk at h
  split at h
  · rename_i i d hi hd
    simp only [Bool.and_eq_true] at h
    exact ⟨d, hd, h.2⟩
  · cases h
theorem run_und {d : TypeDesc} (h : P.underlying t = some d) (w : World) : (underlying t).run P w = .ok d w := by simp [underlying, program, Sem.run, h]
theorem chk_agg (h : chk P t ti = true) : isAggB P t = ti.kind.agg := by
  obtain ⟨d, hd, hk⟩ := chk_desc h
  unfold isAggB
  rw [hd]
  cases hti : ti.kind <;> rw [hti] at hk <;> cases d <;> simp [kfits, TK.agg] at hk ⊢
theorem run_isAgg (w : World) : ∀ b, isAggB P t = b → (P.underlying t).isSome = true → (isAgg t).run P w = .ok b w := by
  intro b hb hs
  obtain ⟨d, hd⟩ := Option.isSome_iff_exists.1 hs
  subst hb
  unfold isAggB isAgg
  rw [Sem.run_bind, run_und hd, hd]
  cases d <;> rfl
theorem run_size (h : chk P t ti = true) (w : World) : (sizeOf t).run P w = .ok ti.size w := by
  obtain ⟨i, z, hi, h1, _⟩ := chk_info h
  simp [sizeOf, typeInfo, program, Sem.run, hi, h1]
theorem run_agg (h : chk P t ti = true) (w : World) : (isAgg t).run P w = .ok ti.kind.agg w := by
  obtain ⟨d, hd, _⟩ := chk_desc h
  exact run_isAgg w _ (chk_agg h) (by simp [hd])
theorem run_zero (h : chk P t ti = true) (w : World) : ∃ z, (zeroValue t).run P w = .ok z w ∧ z.cells = (ti.zero.map ZV.val).toArray := by
  obtain ⟨i, z, hi, _, _, hz, hc, _⟩ := chk_info h
  exact ⟨z, by simp [zeroValue, typeInfo, program, Sem.run, hi, hz], hc⟩
end types
end Go.Sy
/- The walk by a symbolic frame: operations that compute, and leave the world as it is. -/
namespace Go.Sy
def nth {α : Type} : List α → Nat → Option α
  | [], _ => none
  | x :: _, 0 => some x
  | _ :: r, n + 1 => nth r n
theorem nth_eq {α : Type} : ∀ (l : List α) (n : Nat), nth l n = l[n]?
  | [], _ => by simp [nth]
  | x :: r, 0 => by simp [nth]
  | x :: r, n + 1 => by simp [nth, nth_eq r n]
def dropE {α : Type} : Nat → List α → Option (List α)
  | 0, l => some l
  | n + 1, _ :: r => dropE n r
  | _ + 1, [] => none
def takeE {α : Type} : Nat → List α → Option (List α)
  | 0, _ => some []
  | n + 1, x :: r => match takeE n r with
    | some l => some (x :: l)
    | none => none
  | _ + 1, [] => none
theorem dropE_eq {α : Type} : ∀ (n : Nat) (l r : List α), dropE n l = some r → n ≤ l.length ∧ r = l.drop n
  | 0, l, r, h => by simp [dropE] at h; subst h; simp
  | n + 1, x :: l, r, h => by simp only [dropE] at h; obtain ⟨h1, h2⟩ := dropE_eq n l r h; exact ⟨by simp; exact h1, by simpa using h2⟩
  | n + 1, [], r, h => by simp [dropE] at h
theorem takeE_eq {α : Type} : ∀ (n : Nat) (l r : List α), takeE n l = some r → n ≤ l.length ∧ r = l.take n
  | 0, l, r, h => by simp [takeE] at h; subst h; simp
  | n + 1, x :: l, r, h => by
    simp only [takeE] at h
    split at h
    · rename_i l' hl
      obtain ⟨h1, h2⟩ := takeE_eq n l l' hl
      have := Option.some.inj h
      subst this; subst h2
      exact ⟨by simp; exact h1, by simp⟩
    · cases h
  | n + 1, [], r, h => by simp [takeE] at h
/-- Cells cs, from off on: the value of a variable of such a type. -/
def partE (ti : TI) (off : Nat) (cs : List SV) : Option SV :=
  match dropE off cs with
  | none => none
  | some r => match ti.kind.agg with
    | true => match takeE ti.size r with
      | some l => some (.ag l)
      | none => none
    | false => match r with
      | [] => none
      | s :: _ => some s
/-- The cells of a value. -/
def cellsE (agg : Bool) : SV → Option (List SV)
  | .ag cs => some cs
  | .tu _ => none
  | s => match agg with
    | true => none
    | false => match s with
      | .v (.agg _) => none
      | .v (.tuple _) => none
      | s' => some [s']
def ikn : IntKind → Nat
  | .i8 => 0 | .i16 => 1 | .i32 => 2 | .i64 => 3 | .u8 => 4 | .u16 => 5 | .u32 => 6 | .u64 => 7
theorem ikn_inj {k k' : IntKind} (h : Nat.beq (ikn k) (ikn k') = true) : k = k' := by
  have := Nat.eq_of_beq_eq_true h
  cases k <;> cases k' <;> first | rfl | (simp [ikn] at this)
def cmpE (op : BinOp) (a b : Int) : Option SV :=
  match op with
  | .eql => some (.v (.bool (decide (a = b))))
  | .neq => some (.v (.bool (decide (a ≠ b))))
  | .lss => some (.v (.bool (decide (a < b))))
  | .leq => some (.v (.bool (decide (a ≤ b))))
  | .gtr => some (.v (.bool (decide (b < a))))
  | .geq => some (.v (.bool (decide (b ≤ a))))
  | _ => none
def binE (op : BinOp) : SV → SV → Option SV
  | .v (.int k a), .v (.int k' b) => match Nat.beq (ikn k) (ikn k') with
    | true => cmpE op a b
    | false => none
  | .v (.string a), .v (.string b) => match op with
    | .eql => some (.v (.bool (decide (a.toList = b.toList))))
    | .neq => some (.v (.bool (decide (a.toList ≠ b.toList))))
    | _ => none
  | _, _ => none
def fieldE (T : List (Nat × TI)) (s f : Nat) : Option (Nat × Nat × Bool) :=
  match kget T s with
  | some ti => match ti.kind with
    | .struct fs => nth fs f
    | _ => none
  | none => none
def evs (tm : Tm) : List Operand → Option (List SV)
  | [] => some []
  | x :: r => match ev tm x with
    | none => none
    | some s => match evs tm r with
      | none => none
      | some l => some (s :: l)
/-- What an operation that leaves the world as it is yields. -/
def pev (T : List (Nat × TI)) (tm : Tm) (L : Lm) (op : Op) : Option SV :=
  match op with
  | .move x => ev tm x
  | .assign x => ev tm x
  | .pick c a b => match ev tm c with
    | some (.v (.bool true)) => ev tm a
    | some (.v (.bool false)) => ev tm b
    | _ => none
  | .nilCheck x => match ev tm x with
    | some (.p i off) => some (.p i off)
    | some (.v (.pointer (some a))) => some (.v (.pointer (some a)))
    | some (.fn (.func f) a b) => some (.fn (.func f) a b)
    | some (.v (.func (.func f) a b)) => some (.v (.func (.func f) a b))
    | _ => none
  | .unOp .not _ x => match ev tm x with
    | some (.v (.bool b)) => some (.v (.bool (!b)))
    | _ => none
  | .binOp op _ x y _ => match ev tm x with
    | none => none
    | some sx => match ev tm y with
      | none => none
      | some sy => binE op sx sy
  | .fieldAddr s x f => match fieldE T s f with
    | none => none
    | some (_, 0, _) => none
    | some (o, _ + 1, _) => match ev tm x with
      | some (.p i off) => some (.p i (off + o))
      | some (.v (.pointer (some ⟨b, off, none⟩))) => some (.v (.pointer (some ⟨b, off + o, none⟩)))
      | _ => none
  | .load t x => match kget T t with
    | none => none
    | some ti => match ev tm x with
      | some (.p i off) => match kget L i with
        | none => none
        | some B => partE ti off B.cells
      | _ => none
  | .extract x i => match ev tm x with
    | some (.tu l) => nth l i
    | _ => none
  | .makeFunc fn a b => match evs tm a.toList with
    | none => none
    | some l => match evs tm b.toList with
      | none => none
      | some r => some (.fn fn l r)
  | .call { callee := .builtin .len, args := ⟨[x]⟩, argTypes := ⟨[t]⟩ } => match kget T t with
    | none => none
    | some ti => match ti.kind with
      | .slice _ => match ev tm x with
        | some (.v (.slice _ n _)) => some (.v (.int .i64 n))
        | _ => none
      | .str => match ev tm x with
        | some (.v (.string s)) => some (.v (.int .i64 s.size))
        | _ => none
      | _ => none
  | _ => none
section
variable {P : Program} {T : List (Nat × TI)} {tm : Tm} {L : Lm} {n : FN} {N : World} {β : Nat → Nat} {u k : Hp} {a : Act} {w : World}
theorem evs_ok (ht : RelT n L β tm a) : ∀ {l : List Operand} {r : List SV}, evs tm l = some r → l.map a.eval = SV.dens β r ∧ SV.oks L r = true
  | [], r, h => by simp only [evs, Option.some.injEq] at h; subst h; exact ⟨rfl, rfl⟩
  | x :: l, r, h => by
    simp only [evs] at h
    split at h
    · cases h
    · rename_i s hs
      split at h
      · cases h
      · rename_i l' hl
        have h' := Option.some.inj h
        subst h'
        obtain ⟨h1, h2⟩ := evs_ok ht hl
        exact ⟨by simp only [List.map_cons, SV.dens, h1, Sy.ev_ok ht hs], by simp only [SV.oks, h2, ev_oks ht hs, Bool.and_true]⟩
theorem cell_of {b off : Nat} {cs : Array Value} {t : TypeId} {fr : Nat × Nat} (h : w.heap[b]? = some (.cells cs t fr)) : w.cell? ⟨b, off, none⟩ = cs[off]? := by
  simp [World.cell?, h]
theorem run_loadCells_at {b off : Nat} {cs : Array Value} {t : TypeId} {fr : Nat × Nat} (h : w.heap[b]? = some (.cells cs t fr)) (l : List Value) (hl : ∀ j v, l[j]? = some v → cs[off + j]? = some v) :
    (loadCells ⟨b, off, none⟩ l.length).run P w = .ok l.toArray w := by
  refine run_loadCells_list w ⟨b, off, none⟩ l fun j v hj => ?_
  have : (⟨b, off, none⟩ : Addr).add j = ⟨b, off + j, none⟩ := by simp only [Addr.add]; split <;> simp_all
  rw [this, cell_of h]; exact hl j v hj
theorem partE_ok {ti : TI} {off : Nat} {cs : List SV} {s : SV} {b : Nat} {t : TypeId} {bt : TypeId} {fr : Nat × Nat} (hc : chk P t ti = true) (h : partE ti off cs = some s)
    (hb : w.heap[b]? = some (.cells (SV.dens β cs).toArray bt fr)) : (loadVar t ⟨b, off, none⟩).run P w = .ok (s.den β) w := by
  unfold partE at h
  split at h
  · cases h
  · rename_i r hr
    obtain ⟨h1, rfl⟩ := dropE_eq _ _ _ hr
    unfold loadVar
    rw [Sem.run_bind, run_agg hc]
    simp only [Result.andThen_ok]
    split at h
    · rename_i hagg
      split at h
      · rename_i l hl
        obtain ⟨h2, rfl⟩ := takeE_eq _ _ _ hl
        have h' := Option.some.inj h
        subst h'
        simp only [hagg, if_true, Sem.run_bind, run_size hc, Result.andThen_ok]
        have hlen : ti.size = (SV.dens β ((cs.drop off).take ti.size)).length := by rw [dens_map]; simp at h2 ⊢; omega
        have := run_loadCells_at (P := P) (off := off) hb (SV.dens β ((cs.drop off).take ti.size)) (fun j v hj => by
          rw [dens_map] at hj ⊢
          simp only [List.map_take, List.map_drop, List.getElem?_take, List.getElem?_drop] at hj
          split at hj
          · simpa using hj
          · cases hj)
        rw [← hlen] at this
        rw [this]
        simp [SV.den]
      · cases h
    · rename_i hagg
      split at h
      · cases h
      · rename_i s' r' hs
        have h' := Option.some.inj h
        subst h'
        simp only [hagg, Bool.false_eq_true, if_false, run_load, cell_of hb]
        have : (SV.dens β cs).toArray[off]? = some (s'.den β) := by
          have : cs[off]? = some s' := by
            have := congrArg (fun l => l[0]?) hs
            simpa using this
          rw [dens_map]; simp [this]
        rw [this]
theorem partE_oks {ti : TI} {off : Nat} {cs : List SV} {s : SV} (h : partE ti off cs = some s) (hc : SV.oks L cs = true) : s.ok L = true := by
  rw [oks_all] at hc
  unfold partE at h
  split at h
  · cases h
  · rename_i r hr
    obtain ⟨h1, rfl⟩ := dropE_eq _ _ _ hr
    split at h
    · split at h
      · rename_i l hl
        obtain ⟨h2, rfl⟩ := takeE_eq _ _ _ hl
        have h' := Option.some.inj h
        subst h'
        simp only [SV.ok, oks_all]
        exact List.all_eq_true.2 fun x hx => List.all_eq_true.1 hc x (List.mem_of_mem_drop (List.mem_of_mem_take hx))
      · cases h
    · split at h
      · cases h
      · rename_i s' r' hs
        have h' := Option.some.inj h
        subst h'
        exact List.all_eq_true.1 hc _ (List.mem_of_mem_drop (i := off) (by rw [hs]; exact List.mem_cons_self))
theorem fieldE_ok (hT : TOK P T) {s f o z : Nat} {g : Bool} (h : fieldE T s f = some (o, z, g)) :
    ∃ fields fd, P.underlying s = some (.struct fields) ∧ fields[f]? = some fd ∧ fd.offset = o ∧ cells1 P fd.type = z ∧ isAggB P fd.type = g := by
  unfold fieldE at h
  split at h
  · rename_i ti hti
    split at h
    · rename_i fs hfs
      obtain ⟨d, hd, hk⟩ := chk_desc (hT s ti hti)
      rw [hfs] at hk
      cases d with
      | struct fields =>
        simp only [kfits, decide_eq_true_eq] at hk
        rw [nth_eq, hk] at h
        simp only [List.getElem?_map, Array.getElem?_toList] at h
        obtain ⟨fd, hfd, he⟩ := Option.map_eq_some_iff.1 h
        simp only [Prod.mk.injEq] at he
        exact ⟨fields, fd, hd, hfd, he.1, he.2.1, he.2.2⟩
      | _ => simp [kfits] at hk
    · cases h
  · cases h
theorem cmpE_ok {op : BinOp} {x y : Int} {s : SV} (h : cmpE op x y = some s) : (Op.intCmp op x y).run P w = .ok (s.den β) w ∧ s.ok L = true := by
  unfold cmpE at h
  split at h <;> first | (cases h; done) | (have h' := Option.some.inj h; subst h'; refine ⟨?_, rfl⟩; simp [Op.intCmp, SV.den, bne, BEq.beq])
theorem binE_ok {op : BinOp} {t : TypeId} {x y s : SV} (h : binE op x y = some s) : (binOp op t (x.den β) (y.den β)).run P w = .ok (s.den β) w ∧ s.ok L = true ∧ ∀ X Y, eqGuard op t X Y (x.den β) (y.den β) = pure () := by
  unfold binE at h
  split at h
  · rename_i k p k' q
    split at h
    · rename_i hk
      have := ikn_inj hk
      subst this
      have hc := cmpE_ok (P := P) (w := w) (β := β) (L := L) h
      refine ⟨?_, hc.2, fun X Y => by simp only [SV.den]; exact eqGuard_at_int ..⟩
      simp only [SV.den]
      rw [← hc.1]
      cases op <;> first | (simp [cmpE] at h; done) | simp [binOp]
    · cases h
  · rename_i p q
    refine ⟨?_, ?_, fun X Y => by simp only [SV.den]; exact eqGuard_at_string ..⟩
    · simp only [SV.den]
      split at h <;> first | (cases h; done) | (have h' := Option.some.inj h; subst h'; simp [binOp, Op.stringOp, SV.den]; rw [Bool.eq_iff_iff]; simp)
    · split at h <;> first | (cases h; done) | (have h' := Option.some.inj h; subst h'; rfl)
  · cases h
set_option maxHeartbeats 1000000 in
theorem pev_ok (hT : TOK P T) {o : Oper} {op : Op} {s : SV} (ho : o.op = op) (h : pev T tm L op = some s) (ht : RelT n L β tm a) (hd : Den β L u k N w) :
    (execOp a.eval o).run P w = .ok (.value (s.den β)) w ∧ s.ok L = true := by
  unfold pev at h
  split at h
  · -- move
    refine ⟨?_, ev_oks ht h⟩
    simp [execOp, ho, ev_ok ht h]
  · refine ⟨?_, ev_oks ht h⟩
    simp [execOp, ho, ev_ok ht h]
  · -- pick
    rename_i c x y
    split at h
    · rename_i hc
      have := ev_ok ht hc
      exact ⟨by simp [execOp, ho, ev_ok ht hc, ev_ok ht h, SV.den, asBool], ev_oks ht h⟩
    · rename_i hc
      exact ⟨by simp [execOp, ho, ev_ok ht hc, ev_ok ht h, SV.den, asBool], ev_oks ht h⟩
    · cases h
  · -- nilCheck
    rename_i x
    split at h
    · rename_i hx; have h' := Option.some.inj h; subst h'
      exact ⟨by simp [execOp, ho, ev_ok ht hx, SV.den], ev_oks ht hx⟩
    · rename_i hx; have h' := Option.some.inj h; subst h'
      exact ⟨by simp [execOp, ho, ev_ok ht hx, SV.den], ev_oks ht hx⟩
    · rename_i hx; have h' := Option.some.inj h; subst h'
      exact ⟨by simp [execOp, ho, ev_ok ht hx, SV.den], ev_oks ht hx⟩
    · rename_i hx; have h' := Option.some.inj h; subst h'
      exact ⟨by simp [execOp, ho, ev_ok ht hx, SV.den], ev_oks ht hx⟩
    · cases h
  · -- not
    rename_i x
    split at h
    · rename_i hx; have h' := Option.some.inj h; subst h'
      exact ⟨by simp [execOp, ho, ev_ok ht hx, SV.den, Op.unary], rfl⟩
    · cases h
  · -- binOp
    rename_i op t x y t'
    split at h
    · cases h
    · rename_i sx hx
      split at h
      · cases h
      · rename_i sy hy
        obtain ⟨h1, h2, h3⟩ := binE_ok (P := P) (w := w) (β := β) (L := L) (t := t) h
        exact ⟨by simp [execOp, ho, ev_ok ht hx, ev_ok ht hy, h3, h1], h2⟩
  · -- fieldAddr
    rename_i s' x f
    split at h
    · cases h
    · cases h
    · rename_i off0 z g hf
      obtain ⟨fields, fd, h1, h2, h3, h4, h5⟩ := fieldE_ok hT hf
      have hz : (sizeOf fd.type).run P w = .ok (z + 1) w := by
        unfold cells1 at h4
        cases hi : P.info? fd.type with
        | none => simp [hi] at h4
        | some i => simp [hi] at h4; simp [sizeOf, typeInfo, program, Sem.run, hi, h4]
      split at h
      · rename_i i off hx
        have h' := Option.some.inj h; subst h'
        refine ⟨?_, show (SV.p i off).ok L = true from ev_oks ht hx⟩
        simp [execOp, ho, ev_ok ht hx, SV.den, Instr.fieldAt, run_und h1, h2, Instr.sureAddr, fieldPlace, hz, h3]
        simp only [Addr.add]; split <;> simp_all
      · rename_i b off hx
        have h' := Option.some.inj h; subst h'
        refine ⟨?_, rfl⟩
        simp [execOp, ho, ev_ok ht hx, SV.den, Instr.fieldAt, run_und h1, h2, Instr.sureAddr, fieldPlace, hz, h3]
        simp only [Addr.add]; split <;> simp_all
      · cases h
  · -- load
    rename_i t x
    split at h
    · cases h
    · rename_i ti hti
      split at h
      · rename_i i off hx
        split at h
        · cases h
        · rename_i B hB
          obtain ⟨g1, _, g3⟩ := hd.loc i B hB
          refine ⟨?_, partE_oks h g3⟩
          simp [execOp, ho, ev_ok ht hx, SV.den, Instr.loadAt, Instr.sureAddr, partE_ok (hT t ti hti) h g1]
      · cases h
  · -- extract
    rename_i x i
    split at h
    · rename_i l hx
      rw [nth_eq] at h
      have hk := ev_oks ht hx
      simp only [SV.ok, oks_all] at hk
      refine ⟨?_, List.all_eq_true.1 hk _ (List.mem_of_getElem? h)⟩
      simp [execOp, ho, ev_ok ht hx, SV.den, Instr.extract, dens_map, h]
    · cases h
  · -- makeFunc
    rename_i fn p q
    split at h
    · cases h
    · rename_i l hl
      split at h
      · cases h
      · rename_i r hr
        have h' := Option.some.inj h; subst h'
        obtain ⟨g1, g2⟩ := evs_ok ht hl
        obtain ⟨g3, g4⟩ := evs_ok ht hr
        refine ⟨?_, by simp [SV.ok, g2, g4]⟩
        have e1 : p.map a.eval = (SV.dens β l).toArray := by rw [← g1]; exact Array.toList_inj.1 (by simp)
        have e2 : q.map a.eval = (SV.dens β r).toArray := by rw [← g3]; exact Array.toList_inj.1 (by simp)
        simp [execOp, ho, Instr.makeFunc, SV.den, e1, e2]
  · -- len
    rename_i x t
    split at h
    · cases h
    · rename_i ti hti
      obtain ⟨d, hd', hk⟩ := chk_desc (hT t ti hti)
      split at h
      · rename_i e he
        rw [he] at hk
        cases d <;> simp [kfits] at hk
        split at h
        · rename_i p m c hx
          have h' := Option.some.inj h; subst h'
          refine ⟨?_, rfl⟩
          simp [execOp, ho, ev_ok ht hx, SV.den, resolve, invoke, builtin, Builtin.len_, run_und hd', goInt]
        · cases h
      · rename_i he
        rw [he] at hk
        cases d <;> simp [kfits] at hk
        split at h
        · rename_i p hx
          have h' := Option.some.inj h; subst h'
          refine ⟨?_, rfl⟩
          simp [execOp, ho, ev_ok ht hx, SV.den, resolve, invoke, builtin, Builtin.len_, run_und hd', goInt]
        · cases h
      · cases h
  · cases h
end
end Go.Sy
/- The walk by a symbolic frame: blocks of the call's own: made, boxed, written. -/
namespace Go.Sy
/-- One cell. -/
def one : Value → Bool
  | .agg _ => false
  | .tuple _ => false
  | _ => true
/-- w' is w but for block b, which holds o. -/
structure Upd1 (w w' : World) (b : Nat) (o : Obj) : Prop where
  size : w'.heap.size = w.heap.size
  here : w'.heap[b]? = some o
  other : ∀ x, x ≠ b → w'.heap[x]? = w.heap[x]?
  env : w'.os = w.os ∧ w'.tape = w.tape ∧ w'.output = w.output ∧ w.drawn ≤ w'.drawn
theorem Ge.upd {N w w' : World} {b : Nat} {o : Obj} (h : Ge N w) (hw : Upd1 w w' b o) : Ge N w' :=
  ⟨by rw [hw.size]; exact h.size, hw.env.1.trans h.os, hw.env.2.1.trans h.tape, hw.env.2.2.1.trans h.output, Nat.le_trans h.drawn hw.env.2.2.2⟩
def setL {α : Type} (cs : List α) (off : Nat) (vs : List α) : List α := cs.take off ++ (vs ++ cs.drop (off + vs.length))
theorem setL_nil {α : Type} (cs : List α) (off : Nat) : setL cs off [] = cs := by simp [setL]
theorem setL_cons {α : Type} (cs : List α) (off : Nat) (v : α) (vs : List α) (h : off < cs.length) : setL cs off (v :: vs) = setL (cs.set off v) (off + 1) vs := by
  simp only [setL]
  have e1 : (cs.set off v).take (off + 1) = cs.take off ++ [v] := by
    rw [List.take_set, List.take_succ_eq_append_getElem h, List.set_append_right _ _ (by simp; omega)]
    simp [Nat.min_eq_left (Nat.le_of_lt h)]
  rw [e1, List.drop_set_of_lt (by omega)]
  simp [Nat.add_assoc, Nat.add_comm 1]
theorem setL_length {α : Type} (cs : List α) (off : Nat) (vs : List α) (h : off + vs.length ≤ cs.length) : (setL cs off vs).length = cs.length := by
  simp [setL]; omega
theorem setL_get {α : Type} (cs : List α) (off : Nat) (vs : List α) (h : off + vs.length ≤ cs.length) (j : Nat) :
    (setL cs off vs)[j]? = if off ≤ j ∧ j < off + vs.length then vs[j - off]? else cs[j]? := by
  simp only [setL]
  by_cases h1 : j < off
  · rw [List.getElem?_append_left (by simp; omega), if_neg (by omega)]; simp [h1]
  · rw [List.getElem?_append_right (by simp; omega)]
    have : (cs.take off).length = off := by simp; omega
    rw [this]
    by_cases h2 : j < off + vs.length
    · rw [List.getElem?_append_left (by omega), if_pos (by omega)]
    · rw [List.getElem?_append_right (by omega), if_neg (by omega)]
      simp; congr 1; omega
section
variable {P : Program} {w : World}
theorem heap_setCell {b off : Nat} {cs : Array Value} {t : TypeId} (v : Value) (h : w.heap[b]? = some (.cells cs t (0, 0))) :
    Upd1 w (w.setCell ⟨b, off, none⟩ v) b (.cells (cs.setIfInBounds off v) t (0, 0)) := by
  refine ⟨by simp [World.setCell], ?_, fun x hx => ?_, rfl, rfl, rfl, Nat.le_refl _⟩
  · simp [World.setCell, Array.getElem?_modify, h]
  · simp only [World.setCell, Array.getElem?_modify]; rw [if_neg (fun e => hx e.symm)]
theorem not_frozen {b off : Nat} {cs : Array Value} {t : TypeId} (h : w.heap[b]? = some (.cells cs t (0, 0))) : w.frozen? ⟨b, off, none⟩ = false := by simp [World.frozen?, h]
theorem run_store_at {b off : Nat} {cs : Array Value} {t : TypeId} {v : Value} (h : w.heap[b]? = some (.cells cs t (0, 0))) (ho : off < cs.size) (h1 : one v = true) :
    (store ⟨b, off, none⟩ v).run P w = .ok () (w.setCell ⟨b, off, none⟩ v) := by
  have hc : w.cell? ⟨b, off, none⟩ = some cs[off] := by rw [cell_of h]; simp [ho]
  cases v <;> first | (simp [one] at h1; done) | simp [store, Sem.run, hc, not_frozen h]
theorem run_storeCells {b : Nat} (off : Nat) {t : TypeId} : ∀ (vs : List Value) (i : Nat) (w : World) (cs : Array Value), w.heap[b]? = some (.cells cs t (0, 0)) → off + i + vs.length ≤ cs.size → (∀ v ∈ vs, one v = true) →
    ∃ w', (storeCells ⟨b, off, none⟩ vs i).run P w = .ok () w' ∧ Upd1 w w' b (.cells (setL cs.toList (off + i) vs).toArray t (0, 0))
  | [], i, w, cs, h, _, _ => ⟨w, by simp [storeCells], rfl, by simp [setL_nil, h], fun _ _ => rfl, rfl, rfl, rfl, Nat.le_refl _⟩
  | v :: vs, i, w, cs, h, hl, h1 => by
    simp only [List.length_cons] at hl
    have ha : (⟨b, off, none⟩ : Addr).add i = ⟨b, off + i, none⟩ := by simp only [Addr.add]; split <;> simp_all
    have hu := heap_setCell (off := off + i) v h
    obtain ⟨w', hr, hw'⟩ := run_storeCells off vs (i + 1) (w.setCell ⟨b, off + i, none⟩ v) (cs.setIfInBounds (off + i) v) hu.here (by simp; omega) (fun x hx => h1 x (.tail _ hx))
    refine ⟨w', ?_, hw'.size.trans hu.size, ?_, fun x hx => (hw'.other x hx).trans (hu.other x hx), hw'.env.1.trans hu.env.1, hw'.env.2.1.trans hu.env.2.1, hw'.env.2.2.1.trans hu.env.2.2.1, Nat.le_trans hu.env.2.2.2 hw'.env.2.2.2⟩
    · simp only [storeCells, Sem.run_bind, ha, run_store_at h (by omega : off + i < cs.size) (h1 v (.head _)), Result.andThen_ok, hr]
    · rw [hw'.here, setL_cons _ _ _ _ (by simp; omega)]; simp [Nat.add_assoc]
theorem run_storeVar {b off : Nat} {t t' : TypeId} {ti : TI} {cs : Array Value} {v : Value} {vs : List Value} (hc : chk P t ti = true) (h : w.heap[b]? = some (.cells cs t' (0, 0))) (hv : v.cells = vs.toArray)
    (hs : vs.length = ti.size) (hl : off + vs.length ≤ cs.size) (h1 : ∀ v ∈ vs, one v = true) :
    ∃ w', (storeVar t ⟨b, off, none⟩ v).run P w = .ok () w' ∧ Upd1 w w' b (.cells (setL cs.toList off vs).toArray t' (0, 0)) := by
  obtain ⟨w', hr, hu⟩ := run_storeCells (P := P) off vs 0 w cs h hl h1
  refine ⟨w', ?_, hu⟩
  simp [storeVar, run_size hc, hv, hs, hr]
end
def setE : List SV → Nat → List SV → Option (List SV)
  | l, 0, [] => some l
  | _ :: l, 0, y :: ys => match setE l 0 ys with
    | some r => some (y :: r)
    | none => none
  | x :: l, n + 1, ys => match setE l n ys with
    | some r => some (x :: r)
    | none => none
  | [], _, _ => none
theorem setE_eq : ∀ (l : List SV) (n : Nat) (ys r : List SV), setE l n ys = some r → n + ys.length ≤ l.length ∧ r = setL l n ys
  | l, 0, [], r, h => by simp [setE] at h; subst h; simp [setL_nil]
  | x :: l, 0, y :: ys, r, h => by
    simp only [setE] at h
    split at h
    · rename_i r' hr
      obtain ⟨h1, h2⟩ := setE_eq l 0 ys r' hr
      have h' := Option.some.inj h; subst h'; subst h2
      exact ⟨by simp at h1 ⊢; omega, by simp [setL]⟩
    · cases h
  | x :: l, n + 1, ys, r, h => by
    simp only [setE] at h
    split at h
    · rename_i r' hr
      obtain ⟨h1, h2⟩ := setE_eq l n ys r' hr
      have h' := Option.some.inj h; subst h'; subst h2
      refine ⟨by simp at h1 ⊢; omega, ?_⟩
      simp only [setL, List.take_succ_cons, List.cons_append]
      rw [show n + 1 + ys.length = (n + ys.length) + 1 by omega, List.drop_succ_cons]
    · cases h
  | [], 0, y :: ys, r, h => by simp [setE] at h
  | [], n + 1, ys, r, h => by simp [setE] at h
def ksetE {α : Type} : List (Nat × α) → Nat → α → Option (List (Nat × α))
  | [], _, _ => none
  | (k, s) :: r, t, x => match Nat.beq k t with
    | true => some ((k, x) :: r)
    | false => match ksetE r t x with
      | some r' => some ((k, s) :: r')
      | none => none
theorem ksetE_get {α : Type} : ∀ {l r : List (Nat × α)} {t : Nat} {x : α}, ksetE l t x = some r → ∀ i, kget r i = if t = i then some x else kget l i
  | [], r, t, x, h, i => by simp [ksetE] at h
  | (k, s) :: l, r, t, x, h, i => by
    simp only [ksetE] at h
    split at h
    · rename_i hb
      have e := Nat.eq_of_beq_eq_true hb
      have h' := Option.some.inj h; subst h'
      simp only [kget_cons, e]
      split <;> rfl
    · rename_i hb
      have e := Nat.ne_of_beq_eq_false hb
      split at h
      · rename_i r' hr
        have h' := Option.some.inj h; subst h'
        simp only [kget_cons, ksetE_get hr i]
        by_cases hk : k = i
        · subst hk; rw [if_pos rfl, if_neg (fun e' => e e'.symm), if_pos rfl]
        · rw [if_neg hk, if_neg hk]
      · cases h
def oneE : SV → Bool
  | .v (.agg _) => false
  | .v (.tuple _) => false
  | .v (.int _ _) => true
  | .ag _ => false
  | .tu _ => false
  | _ => true
def onesE : List SV → Bool
  | [] => true
  | s :: r => match oneE s with
    | true => onesE r
    | false => false
theorem oneE_ok {s : SV} (β : Nat → Nat) (h : oneE s = true) : one (s.den β) = true := by
  cases s with
  | v x => cases x <;> first | rfl | (simp [oneE] at h; done)
  | p => rfl
  | ag => simp [oneE] at h
  | tu => simp [oneE] at h
  | fn => rfl
theorem onesE_ok (β : Nat → Nat) : ∀ {l : List SV}, onesE l = true → ∀ v ∈ SV.dens β l, one v = true
  | [], _, v, hv => by simp [SV.dens] at hv
  | s :: r, h, v, hv => by
    simp only [onesE] at h
    split at h
    · rename_i hs
      simp only [SV.dens, List.mem_cons] at hv
      rcases hv with rfl | hv
      · exact oneE_ok β hs
      · exact onesE_ok β h v hv
    · cases h
def zcells : List ZV → Option (List SV)
  | [] => some []
  | z :: r => match zcells r with
    | some l => some (.v z.val :: l)
    | none => none
theorem zcells_eq (β : Nat → Nat) (L : Lm) : ∀ {l : List ZV} {r : List SV}, zcells l = some r → SV.dens β r = l.map ZV.val ∧ SV.oks L r = true
  | [], r, h => by simp [zcells] at h; subst h; exact ⟨rfl, rfl⟩
  | z :: l, r, h => by
    simp only [zcells] at h
    split at h
    · rename_i l' hl
      have h' := Option.some.inj h; subst h'
      obtain ⟨h1, h2⟩ := zcells_eq β L hl
      exact ⟨by simp [SV.dens, SV.den, h1], by simp [SV.oks, SV.ok, h2]⟩
    · cases h
def lenIs {α : Type} : List α → Nat → Bool
  | [], 0 => true
  | _ :: r, n + 1 => lenIs r n
  | _, _ => false
theorem lenIs_eq {α : Type} : ∀ {l : List α} {n : Nat}, lenIs l n = true → l.length = n
  | [], 0, _ => rfl
  | _ :: r, n + 1, h => by simp [lenIs] at h; simp [lenIs_eq h]
  | [], n + 1, h => by simp [lenIs] at h
  | _ :: _, 0, h => by simp [lenIs] at h
/-- Blocks made, boxed, written: what the slot d then holds, and the blocks. -/
def hev (T : List (Nat × TI)) (tm : Tm) (L : Lm) (d : Nat) (op : Op) : Option (SV × Lm) :=
  match op with
  | .alloc t => match kget L d with
    | some _ => none
    | none => match kget T t with
      | none => none
      | some ti => match zcells ti.zero with
        | none => none
        | some cs => some (.p d 0, (d, ⟨none, cs, t⟩) :: L)
  | .box t x => match kget L d with
    | some _ => none
    | none => match kget T t with
      | none => none
      | some ti => match ev tm x with
        | none => none
        | some s => match cellsE ti.kind.agg s with
          | none => none
          | some cs => some (.p d 0, (d, ⟨none, cs, t⟩) :: L)
  | _ => none
def wev (T : List (Nat × TI)) (tm : Tm) (L : Lm) (op : Op) : Option Lm :=
  match op with
  | .store t x y => match kget T t with
    | none => none
    | some ti => match ev tm x with
      | some (.p i off) => match kget L i with
        | none => none
        | some ⟨nm, cells, ty⟩ => match ev tm y with
          | none => none
          | some s => match cellsE ti.kind.agg s with
            | none => none
            | some cs => match lenIs cs ti.size with
              | false => none
              | true => match onesE cs with
                | false => none
                | true => match setE cells off cs with
                  | none => none
                  | some r => ksetE L i ⟨nm, r, ty⟩
      | _ => none
  | _ => none
section
variable {P : Program} {T : List (Nat × TI)} {tm : Tm} {L : Lm} {n : FN} {N : World} {β : Nat → Nat} {u k : Hp} {a : Act} {w : World}
theorem cellsE_ok {g : Bool} {s : SV} {cs : List SV} (h : cellsE g s = some cs) (hs : s.ok L = true) : (s.den β).cells = (SV.dens β cs).toArray ∧ SV.oks L cs = true := by
  unfold cellsE at h
  split at h
  · have h' := Option.some.inj h; subst h'; exact ⟨rfl, hs⟩
  · cases h
  · split at h
    · cases h
    · split at h
      · cases h
      · cases h
      · have h' := Option.some.inj h; subst h'
        refine ⟨?_, by simp [SV.oks, hs]⟩
        cases s with
        | v x => cases x <;> first | rfl | (rename_i h1 h2; exact absurd rfl (h1 _)) | (rename_i h1 h2; exact absurd rfl (h2 _)) | skip
                 all_goals simp_all [SV.den, SV.dens, Value.cells]
        | p => rfl
        | ag => simp_all
        | tu => simp_all
        | fn => rfl
/-- One number more. -/
def bup (β : Nat → Nat) (d x : Nat) : Nat → Nat := fun i => if i = d then x else β i
theorem bup_here (β : Nat → Nat) (d x : Nat) : bup β d x d = x := by simp [bup]
theorem bup_old {β : Nat → Nat} {d x i : Nat} (h : i ≠ d) : bup β d x i = β i := by simp [bup, h]
/-- A new block. -/
theorem den_new {d : Nat} {B : Blk} (hB : B.name = none) (hk : SV.oks L B.cells = true) (hn : kget L d = none) (hd : Den β L u k N w) {o : Obj} (ho : o = .cells (SV.dens β B.cells).toArray B.ty (0, 0)) :
    Den (bup β d w.heap.size) ((d, B) :: L) u k N { w with heap := w.heap.push o } := by
  subst ho
  have hsame : ∀ i, (kget L i).isSome = true → (bup β d w.heap.size) i = β i := fun i hi => by
    have : i ≠ d := fun e => by subst e; rw [hn] at hi; cases hi
    exact bup_old this
  have hmore : ∀ i, (kget L i).isSome = true → (kget ((d, B) :: L) i).isSome = true := fun i hi => by rw [kget_cons]; split <;> simp_all
  have hlt : ∀ {x : Nat} {o : Obj}, w.heap[x]? = some o → x < w.heap.size := fun h => (Array.getElem?_eq_some_iff.1 h).1
  have hold : ∀ {x : Nat} {o : Obj}, w.heap[x]? = some o → ∀ y : Obj, (w.heap.push y)[x]? = some o := fun h y => by rw [Array.getElem?_push_lt (hlt h)]; rw [← h]; simp [hlt h]
  have hbl : ∀ i, (kget L i).isSome = true → β i < w.heap.size := fun i hi => by
    obtain ⟨B', hB'⟩ := Option.isSome_iff_exists.1 hi
    exact hlt (hd.loc i B' hB').1
  have hcase : ∀ i, (kget ((d, B) :: L) i).isSome = true → i = d ∨ (kget L i).isSome = true := fun i hi => by
    rw [kget_cons] at hi; split at hi
    · rename_i e; exact .inl e.symm
    · exact .inr hi
  refine ⟨fun i B' hB' => ?_, fun i j hi hj hij => ?_, fun b o hb => ⟨hold (hd.ext b o hb).1 _, fun i hi e => ?_⟩, fun b o hb => ⟨hold (hd.hid b o hb).1 _, (hd.hid b o hb).2.1, fun i hi e => ?_⟩, ⟨by simp; have := hd.size.size; omega, hd.size.os, hd.size.tape, hd.size.output, hd.size.drawn⟩⟩
  · rw [kget_cons] at hB'
    split at hB'
    · rename_i e; subst e
      have h' := Option.some.inj hB'; subst h'
      refine ⟨?_, fun b hb => (by rw [hB] at hb; cases hb), oks_more hmore _ hk⟩
      rw [bup_here, dens_same hsame _ hk]; simp
    · rename_i e
      obtain ⟨h1, h2, h3⟩ := hd.loc i B' hB'
      have hi : (kget L i).isSome = true := by rw [hB']; rfl
      refine ⟨?_, ?_, oks_more hmore _ h3⟩
      · rw [hsame i hi, dens_same hsame _ h3]; exact hold h1 _
      · rw [hsame i hi]; exact h2
  · rcases hcase i hi with rfl | hi' <;> rcases hcase j hj with rfl | hj'
    · rfl
    · have := hbl j hj'; rw [hsame j hj', bup_here] at hij; omega
    · have := hbl i hi'; rw [hsame i hi', bup_here] at hij; omega
    · rw [hsame i hi', hsame j hj'] at hij; exact hd.inj i j hi' hj' hij
  · have hb' := hlt (hd.ext b o hb).1
    rcases hcase i hi with rfl | hi'
    · rw [bup_here] at e; omega
    · rw [hsame i hi'] at e; exact (hd.ext b o hb).2 i hi' e
  · have hb' := hlt (hd.hid b o hb).1
    rcases hcase i hi with rfl | hi'
    · rw [bup_here] at e; omega
    · rw [hsame i hi'] at e; exact (hd.hid b o hb).2.2 i hi' e
theorem rel_new {d : Nat} {B : Blk} (hn : kget L d = none) (ht : RelT n L β tm a) (x : Nat) : RelT n ((d, B) :: L) (bup β d x) tm a := by
  have hsame : ∀ i, (kget L i).isSome = true → (bup β d x) i = β i := fun i hi => by
    have : i ≠ d := fun e => by subst e; rw [hn] at hi; cases hi
    exact bup_old this
  have hmore : ∀ i, (kget L i).isSome = true → (kget ((d, B) :: L) i).isSome = true := fun i hi => by rw [kget_cons]; split <;> simp_all
  refine ⟨ht.size, by rw [dvs_same hsame ht.dok]; exact ht.defers, dvs_more hmore ht.dok, fun t s hs => ?_⟩
  obtain ⟨h1, h2⟩ := ht.get t s hs
  exact ⟨by rw [den_same hsame s h2]; exact h1, ok_more hmore s h2⟩
theorem fence_new {F : Fr} {d : Nat} {B : Blk} (hn : kget L d = none) (hf : Fence F L β) (x : Nat) : Fence F ((d, B) :: L) (bup β d x) := fun i hi => by
  obtain ⟨h1, h2⟩ := hf i hi
  have : i ≠ d := fun e => by subst e; rw [hn] at h2; cases h2
  refine ⟨by rw [bup_old this]; exact h1, ?_⟩
  rw [kget_cons]; split <;> simp_all
/-- A block written. -/
theorem den_set {i : Nat} {B : Blk} {cs : List SV} {L' : Lm} {w' : World} (hB : kget L i = some B) (hc : SV.oks L cs = true) (hd : Den β L u k N w) (hL : ∀ j, kget L' j = if i = j then some ⟨B.name, cs, B.ty⟩ else kget L j)
    (hw : Upd1 w w' (β i) (.cells (SV.dens β cs).toArray B.ty (0, 0))) : Den β L' u k N w' := by
  have hsome : ∀ j, (kget L' j).isSome = (kget L j).isSome := fun j => by rw [hL]; split <;> simp_all
  have hmore : ∀ j, (kget L j).isSome = true → (kget L' j).isSome = true := fun j h => by rw [hsome]; exact h
  have hi : (kget L i).isSome = true := by rw [hB]; rfl
  refine ⟨fun j B' hB' => ?_, fun x y hx hy => hd.inj x y (by rwa [← hsome]) (by rwa [← hsome]), fun b o hb => ⟨?_, fun j hj => (hd.ext b o hb).2 j (by rwa [← hsome])⟩,
    fun b o hb => ⟨?_, (hd.hid b o hb).2.1, fun j hj => (hd.hid b o hb).2.2 j (by rwa [← hsome])⟩, hd.size.upd hw⟩
  · rw [hL] at hB'
    split at hB'
    · rename_i e; subst e
      have h' := Option.some.inj hB'; subst h'
      exact ⟨hw.here, (hd.loc i B hB).2.1, oks_more hmore _ hc⟩
    · rename_i e
      obtain ⟨h1, h2, h3⟩ := hd.loc j B' hB'
      refine ⟨?_, h2, oks_more hmore _ h3⟩
      rw [hw.other _ (fun e' => e (hd.inj j i (by rw [hB']; rfl) hi e').symm)]; exact h1
  · rw [hw.other _ (fun e => (hd.ext b o hb).2 i hi e.symm)]; exact (hd.ext b o hb).1
  · rw [hw.other _ (fun e => (hd.hid b o hb).2.2 i hi e.symm)]; exact (hd.hid b o hb).1
end
end Go.Sy
