/- The walk by a symbolic frame: the types, and the operations that compute. -/
import Derived.Test.YtkamfnmbidnhdaaDoorSyA
import Derived.Laws.Cells
set_option linter.unusedVariables false
set_option linter.unusedSimpArgs false
set_option linter.unusedSectionVars false
namespace Go.Sy
/-- A zero cell. -/
inductive ZV where
  | int (k : IntKind) | bool | str | ptr | sl | mp | fn | ifc
def ZV.val : ZV → Value
  | .int k => .int k 0
  | .bool => .bool false
  | .str => .string ⟨#[]⟩
  | .ptr => .pointer none
  | .sl => .slice none 0 0
  | .mp => .map none
  | .fn => .nilFunc
  | .ifc => .nilIface
def ZV.is : ZV → Value → Bool
  | .int k, .int k' n => decide (k = k') && decide (n = 0)
  | .bool, .bool b => !b
  | .str, .string s => s.data.toList.isEmpty
  | .ptr, .pointer a => a.isNone
  | .sl, .slice a n c => a.isNone && decide (n = 0) && decide (c = 0)
  | .mp, .map r => r.isNone
  | .fn, .nilFunc => true
  | .ifc, .nilIface => true
  | _, _ => false
theorem ZV.is_val {z : ZV} {v : Value} (h : z.is v = true) : v = z.val := by
  cases z <;> cases v <;> simp_all [ZV.is, ZV.val]
  rename_i s
  obtain ⟨⟨l⟩⟩ := s
  simp_all
def ZV.iss : List ZV → List Value → Bool
  | [], [] => true
  | z :: zs, v :: vs => z.is v && ZV.iss zs vs
  | _, _ => false
theorem ZV.iss_val : ∀ {zs : List ZV} {vs : List Value}, ZV.iss zs vs = true → vs = zs.map ZV.val
  | [], [], _ => rfl
  | z :: zs, v :: vs, h => by simp only [ZV.iss, Bool.and_eq_true] at h; rw [ZV.is_val h.1, ZV.iss_val h.2]; rfl
  | [], _ :: _, h => by simp [ZV.iss] at h
  | _ :: _, [], h => by simp [ZV.iss] at h
inductive TK where
  | int (k : IntKind) | bool | str | ptr | slice (e : TypeId) | map (k e : TypeId) | fn | ifc
  | struct (fs : List (Nat × Nat × Bool)) | arr (n : Nat) (e : TypeId)
  | cell
def TK.agg : TK → Bool
  | .struct _ => true
  | .arr _ _ => true
  | _ => false
/-- What the walk knows of a type. -/
structure TI where
  kind : TK
  size : Nat
  bytes : Nat
  zero : List ZV
def isAggB (P : Program) (t : TypeId) : Bool :=
  match P.underlying t with
  | some (.struct _) | some (.array _ _) => true
  | _ => false
def cells1 (P : Program) (t : TypeId) : Nat := ((P.info? t).map (·.size)).getD 0
def kfits (P : Program) : TK → TypeDesc → Bool
  | .int k, .int k' => decide (k = k')
  | .bool, .bool => true
  | .str, .string => true
  | .ptr, .pointer _ => true
  | .slice e, .slice e' => decide (e = e')
  | .map a b, .map c d => decide (a = c) && decide (b = d)
  | .fn, .func _ _ _ => true
  | .ifc, .interface _ => true
  | .struct fs, .struct fields => decide (fs = fields.toList.map fun f => (f.offset, cells1 P f.type, isAggB P f.type))
  | .arr n e, .array n' e' => decide (n = n') && decide (e = e')
  | _, _ => false
def chk (P : Program) (t : TypeId) (ti : TI) : Bool :=
  match P.info? t, P.underlying t with
  | some i, some d => decide (ti.zero.length = ti.size) && decide (i.size = ti.size) && decide (i.bytes = ti.bytes) && (match i.zero with | some z => ZV.iss ti.zero z.cells.toList | none => false) && kfits P ti.kind d
  | _, _ => false
/-- The table fits the program. -/
def TOK (P : Program) (T : List (Nat × TI)) : Prop := ∀ t ti, kget T t = some ti → chk P t ti = true
theorem TOK.of {P : Program} {T : List (Nat × TI)} (h : (T.all fun x => chk P x.1 x.2) = true) : TOK P T :=
  fun _ _ ht => List.all_eq_true.1 h _ (kget_mem ht)
section types
variable {P : Program} {t : TypeId} {ti : TI}
theorem chk_info (h : chk P t ti = true) : ∃ i z, P.info? t = some i ∧ i.size = ti.size ∧ i.bytes = ti.bytes ∧ i.zero = some z ∧ z.cells = (ti.zero.map ZV.val).toArray ∧ ti.zero.length = ti.size := by
  unfold chk at h
  split at h
  · rename_i i d hi hd
    simp only [Bool.and_eq_true, decide_eq_true_eq] at h
    obtain ⟨⟨⟨⟨h0, h1⟩, h2⟩, h3⟩, _⟩ := h
    split at h3
    · rename_i z hz
      refine ⟨i, z, hi, h1, h2, hz, ?_, h0⟩
      rw [← ZV.iss_val h3]
    · cases h3
  · cases h
theorem chk_desc (h : chk P t ti = true) : ∃ d, P.underlying t = some d ∧ kfits P ti.kind d = true := by
  unfold chk at h
  split at h
  · rename_i i d hi hd
    simp only [Bool.and_eq_true] at h
    exact ⟨d, hd, h.2⟩
  · cases h
theorem run_und {d : TypeDesc} (h : P.underlying t = some d) (w : World) : (underlying t).run P w = .ok d w := by simp [underlying, program, Sem.run, h]
theorem chk_agg (h : chk P t ti = true) : isAggB P t = ti.kind.agg := by
  obtain ⟨d, hd, hk⟩ := chk_desc h
  unfold isAggB
  rw [hd]
  cases hti : ti.kind <;> rw [hti] at hk <;> cases d <;> simp [kfits, TK.agg] at hk ⊢
theorem run_isAgg (w : World) : ∀ b, isAggB P t = b → (P.underlying t).isSome = true → (isAgg t).run P w = .ok b w := by
  intro b hb hs
  obtain ⟨d, hd⟩ := Option.isSome_iff_exists.1 hs
  subst hb
  unfold isAggB isAgg
  rw [Sem.run_bind, run_und hd, hd]
  cases d <;> rfl
theorem run_size (h : chk P t ti = true) (w : World) : (sizeOf t).run P w = .ok ti.size w := by
  obtain ⟨i, z, hi, h1, _⟩ := chk_info h
  simp [sizeOf, typeInfo, program, Sem.run, hi, h1]
theorem run_agg (h : chk P t ti = true) (w : World) : (isAgg t).run P w = .ok ti.kind.agg w := by
  obtain ⟨d, hd, _⟩ := chk_desc h
  exact run_isAgg w _ (chk_agg h) (by simp [hd])
theorem run_zero (h : chk P t ti = true) (w : World) : ∃ z, (zeroValue t).run P w = .ok z w ∧ z.cells = (ti.zero.map ZV.val).toArray := by
  obtain ⟨i, z, hi, _, _, hz, hc, _⟩ := chk_info h
  exact ⟨z, by simp [zeroValue, typeInfo, program, Sem.run, hi, hz], hc⟩
end types
end Go.Sy
