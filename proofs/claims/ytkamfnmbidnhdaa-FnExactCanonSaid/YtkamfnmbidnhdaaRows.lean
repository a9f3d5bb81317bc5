/-
  No cell of these rows narrows 'for every input' (looked for: loops, veiled, ifaces, maps, wideKeys, modest, calm, conditions, laid).
  DERIVED. THE GIVEN ROWS OF THIS SEAT. 9 by the template 'for every input the law returns true; each argument reads behind the call as it read before'; 0 by the template 'total and deterministic' (their statements: YtkamfnmbidnhdaaTotals.lean).
  GIVEN WITH THE SEED: the statements are not yours to turn. If you find one false, say at which input.
  Laid BY PROGRAM, IN A SANDBOX (cutbox-rows.mjs): the forced cells as the released guide's own fill.sh prints them over the translation 3f14b7344b7d2c8f… (all of the seat's roots in one cut). By AI agents, Wed Nov 11 2026. No macro, syntax, notation, axiom, sorry.
-/
import Derived.Test.YtkamfnmbidnhdaaChecked
import GoSem.Claim
import GoSem.ClaimJoined
import GoSem.ClaimMapViews
import Derived.JoinedTies
import Derived.KernelRfl
namespace Go.Proofs.Ytkamfnmbidnhdaa
/- THE CELL 'sum', in the pinned program and in every row, IS THE sha256 OF THE DUMP (.gsa) THAT YtkamfnmbidnhdaaProg.lean LOADS. Nothing in Lean hashes anything: it is a label: what it is worth is what the hold of that sum in a sandbox is worth. -/
noncomputable def Try.pinned : Pinned := { name := "ytkamfnmbidnhdaa", sum := "3f14b7344b7d2c8fcdb979a22f8e37cff123264913f218cddc4ff0006214ecd5", checked := Try.checked }
namespace Rows
def none {H : Type} : Left H := { results := [], args := [] }

/-- 'laws.FnExactConstants': WHATEVER THE INPUT: true; the input reads as it did. -/
def fnExactConstantsSpec : ChangeSpec := { name := "fnExactConstants", fn := fun _ => fun
  | [] => { results := [.lit (.bool true)], args := [] }
  | _ => none }
def fnExactConstantsRow : OpenClaim := { program := "ytkamfnmbidnhdaa", sum := "3f14b7344b7d2c8fcdb979a22f8e37cff123264913f218cddc4ff0006214ecd5", func := "loop.example/cloth/laws.FnExactConstants", spec := "fnExactConstants", plainKeys := false, apart := false }
def FnExactConstantsSaid : Prop := fnExactConstantsRow.holds Try.pinned (OpenSpec.ofChange fnExactConstantsSpec)

/-- ITS FALSE NEIGHBOUR: 'it returns false'. Refute it at one input. -/
def fnExactConstantsWrong : ChangeSpec := { name := "fnExactConstants", fn := fun _ => fun
  | [] => { results := [.lit (.bool false)], args := [] }
  | _ => none }
def FnExactConstantsWrongFalsely : Prop := fnExactConstantsRow.holds Try.pinned (OpenSpec.ofChange fnExactConstantsWrong)

/-- 'laws.FnExactMostAsked': WHATEVER THE INPUT: true; the input reads as it did. -/
def fnExactMostAskedSpec : ChangeSpec := { name := "fnExactMostAsked", fn := fun _ => fun
  | [d] => { results := [.lit (.bool true)], args := [d] }
  | _ => none }
def fnExactMostAskedRow : OpenClaim := { program := "ytkamfnmbidnhdaa", sum := "3f14b7344b7d2c8fcdb979a22f8e37cff123264913f218cddc4ff0006214ecd5", func := "loop.example/cloth/laws.FnExactMostAsked", spec := "fnExactMostAsked", plainKeys := false, apart := false }
def FnExactMostAskedSaid : Prop := fnExactMostAskedRow.holds Try.pinned (OpenSpec.ofChange fnExactMostAskedSpec)

/-- ITS FALSE NEIGHBOUR: 'it returns false'. Refute it at one input. -/
def fnExactMostAskedWrong : ChangeSpec := { name := "fnExactMostAsked", fn := fun _ => fun
  | [d] => { results := [.lit (.bool false)], args := [d] }
  | _ => none }
def FnExactMostAskedWrongFalsely : Prop := fnExactMostAskedRow.holds Try.pinned (OpenSpec.ofChange fnExactMostAskedWrong)

/-- 'laws.FnExactKeyOrder': WHATEVER THE INPUT: true; the input reads as it did. -/
def fnExactKeyOrderSpec : ChangeSpec := { name := "fnExactKeyOrder", fn := fun _ => fun
  | [d1, d2] => { results := [.lit (.bool true)], args := [d1, d2] }
  | _ => none }
def fnExactKeyOrderRow : OpenClaim := { program := "ytkamfnmbidnhdaa", sum := "3f14b7344b7d2c8fcdb979a22f8e37cff123264913f218cddc4ff0006214ecd5", func := "loop.example/cloth/laws.FnExactKeyOrder", spec := "fnExactKeyOrder", inPlace := ["internal/bytealg.abigen_runtime_cmpstring"], plainKeys := false, apart := false }
def FnExactKeyOrderSaid : Prop := fnExactKeyOrderRow.holds Try.pinned (OpenSpec.ofChange fnExactKeyOrderSpec)

/-- ITS FALSE NEIGHBOUR: 'it returns false'. Refute it at one input. -/
def fnExactKeyOrderWrong : ChangeSpec := { name := "fnExactKeyOrder", fn := fun _ => fun
  | [d1, d2] => { results := [.lit (.bool false)], args := [d1, d2] }
  | _ => none }
def FnExactKeyOrderWrongFalsely : Prop := fnExactKeyOrderRow.holds Try.pinned (OpenSpec.ofChange fnExactKeyOrderWrong)

/-- 'laws.FnExactRanked': WHATEVER THE INPUT: true; the input reads as it did. -/
def fnExactRankedSpec : ChangeSpec := { name := "fnExactRanked", fn := fun _ => fun
  | [d] => { results := [.lit (.bool true)], args := [d] }
  | _ => none }
def fnExactRankedRow : OpenClaim := { program := "ytkamfnmbidnhdaa", sum := "3f14b7344b7d2c8fcdb979a22f8e37cff123264913f218cddc4ff0006214ecd5", func := "loop.example/cloth/laws.FnExactRanked", spec := "fnExactRanked", plainKeys := false, apart := false }
def FnExactRankedSaid : Prop := fnExactRankedRow.holds Try.pinned (OpenSpec.ofChange fnExactRankedSpec)

/-- ITS FALSE NEIGHBOUR: 'it returns false'. Refute it at one input. -/
def fnExactRankedWrong : ChangeSpec := { name := "fnExactRanked", fn := fun _ => fun
  | [d] => { results := [.lit (.bool false)], args := [d] }
  | _ => none }
def FnExactRankedWrongFalsely : Prop := fnExactRankedRow.holds Try.pinned (OpenSpec.ofChange fnExactRankedWrong)

/-- 'laws.FnKeys': WHATEVER THE INPUT: true; the input reads as it did. -/
def fnKeysSpec : ChangeSpec := { name := "fnKeys", fn := fun _ => fun
  | [d] => { results := [.lit (.bool true)], args := [d] }
  | _ => none }
def fnKeysRow : OpenClaim := { program := "ytkamfnmbidnhdaa", sum := "3f14b7344b7d2c8fcdb979a22f8e37cff123264913f218cddc4ff0006214ecd5", func := "loop.example/cloth/laws.FnKeys", spec := "fnKeys", inPlace := ["internal/bytealg.abigen_runtime_cmpstring"], plainKeys := false, apart := false }
def FnKeysSaid : Prop := fnKeysRow.holds Try.pinned (OpenSpec.ofChange fnKeysSpec)

/-- ITS FALSE NEIGHBOUR: 'it returns false'. Refute it at one input. -/
def fnKeysWrong : ChangeSpec := { name := "fnKeys", fn := fun _ => fun
  | [d] => { results := [.lit (.bool false)], args := [d] }
  | _ => none }
def FnKeysWrongFalsely : Prop := fnKeysRow.holds Try.pinned (OpenSpec.ofChange fnKeysWrong)

/-- 'laws.FnExactGraphOk': WHATEVER THE INPUT: true; the input reads as it did. -/
def fnExactGraphOkSpec : ChangeSpec := { name := "fnExactGraphOk", fn := fun _ => fun
  | [d] => { results := [.lit (.bool true)], args := [d] }
  | _ => none }
def fnExactGraphOkRow : OpenClaim := { program := "ytkamfnmbidnhdaa", sum := "3f14b7344b7d2c8fcdb979a22f8e37cff123264913f218cddc4ff0006214ecd5", func := "loop.example/cloth/laws.FnExactGraphOk", spec := "fnExactGraphOk", plainKeys := false, apart := false }
def FnExactGraphOkSaid : Prop := fnExactGraphOkRow.holds Try.pinned (OpenSpec.ofChange fnExactGraphOkSpec)

/-- ITS FALSE NEIGHBOUR: 'it returns false'. Refute it at one input. -/
def fnExactGraphOkWrong : ChangeSpec := { name := "fnExactGraphOk", fn := fun _ => fun
  | [d] => { results := [.lit (.bool false)], args := [d] }
  | _ => none }
def FnExactGraphOkWrongFalsely : Prop := fnExactGraphOkRow.holds Try.pinned (OpenSpec.ofChange fnExactGraphOkWrong)

/-- 'laws.FnExactGet': WHATEVER THE INPUT: true; the input reads as it did. -/
def fnExactGetSpec : ChangeSpec := { name := "fnExactGet", fn := fun _ => fun
  | [d1, d2] => { results := [.lit (.bool true)], args := [d1, d2] }
  | _ => none }
def fnExactGetRow : OpenClaim := { program := "ytkamfnmbidnhdaa", sum := "3f14b7344b7d2c8fcdb979a22f8e37cff123264913f218cddc4ff0006214ecd5", func := "loop.example/cloth/laws.FnExactGet", spec := "fnExactGet", plainKeys := false, apart := false }
def FnExactGetSaid : Prop := fnExactGetRow.holds Try.pinned (OpenSpec.ofChange fnExactGetSpec)

/-- ITS FALSE NEIGHBOUR: 'it returns false'. Refute it at one input. -/
def fnExactGetWrong : ChangeSpec := { name := "fnExactGet", fn := fun _ => fun
  | [d1, d2] => { results := [.lit (.bool false)], args := [d1, d2] }
  | _ => none }
def FnExactGetWrongFalsely : Prop := fnExactGetRow.holds Try.pinned (OpenSpec.ofChange fnExactGetWrong)

/-- 'laws.FnExactCanon': WHATEVER THE INPUT: true; the input reads as it did. -/
def fnExactCanonSpec : ChangeSpec := { name := "fnExactCanon", fn := fun _ => fun
  | [d] => { results := [.lit (.bool true)], args := [d] }
  | _ => none }
def fnExactCanonRow : OpenClaim := { program := "ytkamfnmbidnhdaa", sum := "3f14b7344b7d2c8fcdb979a22f8e37cff123264913f218cddc4ff0006214ecd5", func := "loop.example/cloth/laws.FnExactCanon", spec := "fnExactCanon", unfollowed := true, recurses := true, plainKeys := false, apart := false }
def FnExactCanonSaid : Prop := fnExactCanonRow.holds Try.pinned (OpenSpec.ofChange fnExactCanonSpec)

/-- ITS FALSE NEIGHBOUR: 'it returns false'. Refute it at one input. -/
def fnExactCanonWrong : ChangeSpec := { name := "fnExactCanon", fn := fun _ => fun
  | [d] => { results := [.lit (.bool false)], args := [d] }
  | _ => none }
def FnExactCanonWrongFalsely : Prop := fnExactCanonRow.holds Try.pinned (OpenSpec.ofChange fnExactCanonWrong)

/-- 'laws.FnExactApart': WHATEVER THE INPUT: true; the input reads as it did. -/
def fnExactApartSpec : ChangeSpec := { name := "fnExactApart", fn := fun _ => fun
  | [d1, d2] => { results := [.lit (.bool true)], args := [d1, d2] }
  | _ => none }
def fnExactApartRow : OpenClaim := { program := "ytkamfnmbidnhdaa", sum := "3f14b7344b7d2c8fcdb979a22f8e37cff123264913f218cddc4ff0006214ecd5", func := "loop.example/cloth/laws.FnExactApart", spec := "fnExactApart", inPlace := ["internal/bytealg.abigen_runtime_cmpstring"], unfollowed := true, recurses := true, plainKeys := false, apart := false }
def FnExactApartSaid : Prop := fnExactApartRow.holds Try.pinned (OpenSpec.ofChange fnExactApartSpec)

/-- ITS FALSE NEIGHBOUR: 'it returns false'. Refute it at one input. -/
def fnExactApartWrong : ChangeSpec := { name := "fnExactApart", fn := fun _ => fun
  | [d1, d2] => { results := [.lit (.bool false)], args := [d1, d2] }
  | _ => none }
def FnExactApartWrongFalsely : Prop := fnExactApartRow.holds Try.pinned (OpenSpec.ofChange fnExactApartWrong)

/- THE SECOND FORM. 'bulk': how many values and letters a reading holds, each counted each time it is reached (what is shared counts as often as it is met; a slice's spare places count too). A statement '..UptoSaid' is the law's where the arguments, and the package variables that the reading takes, are together of bulk at most 1048576: NARROWER than '..Said'. Prove '..Said' where nothing that the law and all that it calls make is longer than what came in: it says more and counts as full. Else prove '..UptoSaid'. A law counts once. -/
mutual
def uptoBulk {H : Type} : DataW H → Nat
  | .lit (.string bytes) => bytes.length + 1
  | .lit _ => 1
  | .nil => 1
  | .ptr d => uptoBulk d + 1
  | .slice elems spare => uptoBulkAll elems + uptoBulkAll spare + 1
  | .agg parts => uptoBulkAll parts + 1
  | .iface _ d => uptoBulk d + 1
  | .map entries => uptoBulkEntries entries + 1
  | .held _ => 1
def uptoBulkAll {H : Type} : List (DataW H) → Nat
  | [] => 0
  | d :: r => uptoBulk d + uptoBulkAll r
def uptoBulkEntries {H : Type} : List (Lit × DataW H) → Nat
  | [] => 0
  | x :: r => uptoBulkEntry x + uptoBulkEntries r
def uptoBulkEntry {H : Type} : Lit × DataW H → Nat
  | (.string bytes, d) => bytes.length + uptoBulk d + 1
  | (_, d) => uptoBulk d + 1
 end
def uptoSmall : (H : Type) → List (DataW H) → Bool := fun _ ds => decide (uptoBulkAll ds ≤ 1048576)
def OpenSpec.upto (s : _root_.Go.ChangeSpec) : _root_.Go.OpenSpec := { _root_.Go.OpenSpec.ofChange s with cond := some uptoSmall }

/-- 'laws.FnExactConstants', WHERE WHAT IT READS IS OF BULK AT MOST 1048576: true; the input reads as it did. -/
def fnExactConstantsUptoRow : OpenClaim := { program := "ytkamfnmbidnhdaa", sum := "3f14b7344b7d2c8fcdb979a22f8e37cff123264913f218cddc4ff0006214ecd5", func := "loop.example/cloth/laws.FnExactConstants", spec := "fnExactConstants", plainKeys := false, apart := false, narrowed := true }
def FnExactConstantsUptoSaid : Prop := fnExactConstantsUptoRow.holds Try.pinned (OpenSpec.upto fnExactConstantsSpec)

/-- 'laws.FnExactMostAsked', WHERE WHAT IT READS IS OF BULK AT MOST 1048576: true; the input reads as it did. -/
def fnExactMostAskedUptoRow : OpenClaim := { program := "ytkamfnmbidnhdaa", sum := "3f14b7344b7d2c8fcdb979a22f8e37cff123264913f218cddc4ff0006214ecd5", func := "loop.example/cloth/laws.FnExactMostAsked", spec := "fnExactMostAsked", plainKeys := false, apart := false, narrowed := true }
def FnExactMostAskedUptoSaid : Prop := fnExactMostAskedUptoRow.holds Try.pinned (OpenSpec.upto fnExactMostAskedSpec)

/-- 'laws.FnExactKeyOrder', WHERE WHAT IT READS IS OF BULK AT MOST 1048576: true; the input reads as it did. -/
def fnExactKeyOrderUptoRow : OpenClaim := { program := "ytkamfnmbidnhdaa", sum := "3f14b7344b7d2c8fcdb979a22f8e37cff123264913f218cddc4ff0006214ecd5", func := "loop.example/cloth/laws.FnExactKeyOrder", spec := "fnExactKeyOrder", inPlace := ["internal/bytealg.abigen_runtime_cmpstring"], plainKeys := false, apart := false, narrowed := true }
def FnExactKeyOrderUptoSaid : Prop := fnExactKeyOrderUptoRow.holds Try.pinned (OpenSpec.upto fnExactKeyOrderSpec)

/-- 'laws.FnExactRanked', WHERE WHAT IT READS IS OF BULK AT MOST 1048576: true; the input reads as it did. -/
def fnExactRankedUptoRow : OpenClaim := { program := "ytkamfnmbidnhdaa", sum := "3f14b7344b7d2c8fcdb979a22f8e37cff123264913f218cddc4ff0006214ecd5", func := "loop.example/cloth/laws.FnExactRanked", spec := "fnExactRanked", plainKeys := false, apart := false, narrowed := true }
def FnExactRankedUptoSaid : Prop := fnExactRankedUptoRow.holds Try.pinned (OpenSpec.upto fnExactRankedSpec)

/-- 'laws.FnKeys', WHERE WHAT IT READS IS OF BULK AT MOST 1048576: true; the input reads as it did. -/
def fnKeysUptoRow : OpenClaim := { program := "ytkamfnmbidnhdaa", sum := "3f14b7344b7d2c8fcdb979a22f8e37cff123264913f218cddc4ff0006214ecd5", func := "loop.example/cloth/laws.FnKeys", spec := "fnKeys", inPlace := ["internal/bytealg.abigen_runtime_cmpstring"], plainKeys := false, apart := false, narrowed := true }
def FnKeysUptoSaid : Prop := fnKeysUptoRow.holds Try.pinned (OpenSpec.upto fnKeysSpec)

/-- 'laws.FnExactGraphOk', WHERE WHAT IT READS IS OF BULK AT MOST 1048576: true; the input reads as it did. -/
def fnExactGraphOkUptoRow : OpenClaim := { program := "ytkamfnmbidnhdaa", sum := "3f14b7344b7d2c8fcdb979a22f8e37cff123264913f218cddc4ff0006214ecd5", func := "loop.example/cloth/laws.FnExactGraphOk", spec := "fnExactGraphOk", plainKeys := false, apart := false, narrowed := true }
def FnExactGraphOkUptoSaid : Prop := fnExactGraphOkUptoRow.holds Try.pinned (OpenSpec.upto fnExactGraphOkSpec)

/-- 'laws.FnExactGet', WHERE WHAT IT READS IS OF BULK AT MOST 1048576: true; the input reads as it did. -/
def fnExactGetUptoRow : OpenClaim := { program := "ytkamfnmbidnhdaa", sum := "3f14b7344b7d2c8fcdb979a22f8e37cff123264913f218cddc4ff0006214ecd5", func := "loop.example/cloth/laws.FnExactGet", spec := "fnExactGet", plainKeys := false, apart := false, narrowed := true }
def FnExactGetUptoSaid : Prop := fnExactGetUptoRow.holds Try.pinned (OpenSpec.upto fnExactGetSpec)

/-- 'laws.FnExactCanon', WHERE WHAT IT READS IS OF BULK AT MOST 1048576: true; the input reads as it did. -/
def fnExactCanonUptoRow : OpenClaim := { program := "ytkamfnmbidnhdaa", sum := "3f14b7344b7d2c8fcdb979a22f8e37cff123264913f218cddc4ff0006214ecd5", func := "loop.example/cloth/laws.FnExactCanon", spec := "fnExactCanon", unfollowed := true, recurses := true, plainKeys := false, apart := false, narrowed := true }
def FnExactCanonUptoSaid : Prop := fnExactCanonUptoRow.holds Try.pinned (OpenSpec.upto fnExactCanonSpec)

/-- 'laws.FnExactApart', WHERE WHAT IT READS IS OF BULK AT MOST 1048576: true; the input reads as it did. -/
def fnExactApartUptoRow : OpenClaim := { program := "ytkamfnmbidnhdaa", sum := "3f14b7344b7d2c8fcdb979a22f8e37cff123264913f218cddc4ff0006214ecd5", func := "loop.example/cloth/laws.FnExactApart", spec := "fnExactApart", inPlace := ["internal/bytealg.abigen_runtime_cmpstring"], unfollowed := true, recurses := true, plainKeys := false, apart := false, narrowed := true }
def FnExactApartUptoSaid : Prop := fnExactApartUptoRow.holds Try.pinned (OpenSpec.upto fnExactApartSpec)

end Rows
end Go.Proofs.Ytkamfnmbidnhdaa
