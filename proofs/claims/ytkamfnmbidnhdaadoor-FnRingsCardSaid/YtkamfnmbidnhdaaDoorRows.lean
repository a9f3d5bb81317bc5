/-
  NARROWER THAN 'FOR EVERY INPUT', by the rows' own cells (each row's printed sentence says how): FnBound: ifaces, laid · FnSort: ifaces, laid · FnExactSort: ifaces, laid · FnExactFreeze: laid · FnRings: laid · FnExactSame: laid · FnExactClasses: laid · FnShrink: laid · FnExactShrink: laid.
  DERIVED. THE GIVEN ROWS OF THIS SEAT. 9 by the template 'for every input the law returns true; each argument reads behind the call as it read before'; 0 by the template 'total and deterministic' (their statements: YtkamfnmbidnhdaaDoorTotals.lean).
  GIVEN WITH THE SEED: the statements are not yours to turn. If you find one false, say at which input.
  Laid BY PROGRAM, IN A SANDBOX (cutbox-rows.mjs): the forced cells as the released guide's own fill.sh prints them over the translation e0b3a527096ca38a… (all of the seat's roots in one cut). By AI agents, Wed Nov 11 2026. No macro, syntax, notation, axiom, sorry.
-/
import Derived.Test.YtkamfnmbidnhdaaDoorChecked
import GoSem.Claim
import GoSem.ClaimJoined
import GoSem.ClaimMapViews
import Derived.JoinedTies
import Derived.KernelRfl
namespace Go.Proofs.YtkamfnmbidnhdaaDoor
/- THE CELL 'sum', in the pinned program and in every row, IS THE sha256 OF THE DUMP (.gsa) THAT YtkamfnmbidnhdaaDoorProg.lean LOADS. Nothing in Lean hashes anything: it is a label: what it is worth is what the hold of that sum in a sandbox is worth. -/
noncomputable def Tryd.pinned : Pinned := { name := "ytkamfnmbidnhdaadoor", sum := "e0b3a527096ca38a9f299267ec193e00e470e01e274350898b667c622e7a34ae", checked := Tryd.checked }
namespace Rows
def none {H : Type} : Left H := { results := [], args := [] }

/- WHAT THE LISTED PACKAGE-LEVEL VARIABLES READ AS WHEN THE CALL BEGINS. Each datum BY PROGRAM (the guide's laid-datum.mjs) off the statement by which the dump's own 'gosem.cut.vars' lays the variable. In a bare row this is a premise. The card (YtkamfnmbidnhdaaDoorCards.lean) ties it to the program's text. -/
def laid_loop_example_cloth_impl_errFails {H : Type} : DataW H := .iface "*errors.errorString" (.ptr (.agg [.lit (.string [116, 104, 101, 32, 115, 99, 114, 105, 112, 116, 32, 102, 97, 105, 108, 115])]))
def laid_math_bits_deBruijn32tab {H : Type} : DataW H := .agg [.lit (.int .u8 0), .lit (.int .u8 1), .lit (.int .u8 28), .lit (.int .u8 2), .lit (.int .u8 29), .lit (.int .u8 14), .lit (.int .u8 24), .lit (.int .u8 3), .lit (.int .u8 30), .lit (.int .u8 22), .lit (.int .u8 20), .lit (.int .u8 15), .lit (.int .u8 25), .lit (.int .u8 17), .lit (.int .u8 4), .lit (.int .u8 8), .lit (.int .u8 31), .lit (.int .u8 27), .lit (.int .u8 13), .lit (.int .u8 23), .lit (.int .u8 21), .lit (.int .u8 19), .lit (.int .u8 16), .lit (.int .u8 7), .lit (.int .u8 26), .lit (.int .u8 12), .lit (.int .u8 18), .lit (.int .u8 6), .lit (.int .u8 11), .lit (.int .u8 5), .lit (.int .u8 10), .lit (.int .u8 9)]
def laid_math_bits_deBruijn64tab {H : Type} : DataW H := .agg [.lit (.int .u8 0), .lit (.int .u8 1), .lit (.int .u8 56), .lit (.int .u8 2), .lit (.int .u8 57), .lit (.int .u8 49), .lit (.int .u8 28), .lit (.int .u8 3), .lit (.int .u8 61), .lit (.int .u8 58), .lit (.int .u8 42), .lit (.int .u8 50), .lit (.int .u8 38), .lit (.int .u8 29), .lit (.int .u8 17), .lit (.int .u8 4), .lit (.int .u8 62), .lit (.int .u8 47), .lit (.int .u8 59), .lit (.int .u8 36), .lit (.int .u8 45), .lit (.int .u8 43), .lit (.int .u8 51), .lit (.int .u8 22), .lit (.int .u8 53), .lit (.int .u8 39), .lit (.int .u8 33), .lit (.int .u8 30), .lit (.int .u8 24), .lit (.int .u8 18), .lit (.int .u8 12), .lit (.int .u8 5), .lit (.int .u8 63), .lit (.int .u8 55), .lit (.int .u8 48), .lit (.int .u8 27), .lit (.int .u8 60), .lit (.int .u8 41), .lit (.int .u8 37), .lit (.int .u8 16), .lit (.int .u8 46), .lit (.int .u8 35), .lit (.int .u8 44), .lit (.int .u8 21), .lit (.int .u8 52), .lit (.int .u8 32), .lit (.int .u8 23), .lit (.int .u8 11), .lit (.int .u8 54), .lit (.int .u8 26), .lit (.int .u8 40), .lit (.int .u8 15), .lit (.int .u8 34), .lit (.int .u8 20), .lit (.int .u8 31), .lit (.int .u8 10), .lit (.int .u8 25), .lit (.int .u8 14), .lit (.int .u8 19), .lit (.int .u8 9), .lit (.int .u8 13), .lit (.int .u8 8), .lit (.int .u8 7), .lit (.int .u8 6)]
def laid_internal_strconv_uint64pow10 {H : Type} : DataW H := .agg [.lit (.int .u64 1), .lit (.int .u64 10), .lit (.int .u64 100), .lit (.int .u64 1000), .lit (.int .u64 10000), .lit (.int .u64 100000), .lit (.int .u64 1000000), .lit (.int .u64 10000000), .lit (.int .u64 100000000), .lit (.int .u64 1000000000), .lit (.int .u64 10000000000), .lit (.int .u64 100000000000), .lit (.int .u64 1000000000000), .lit (.int .u64 10000000000000), .lit (.int .u64 100000000000000), .lit (.int .u64 1000000000000000), .lit (.int .u64 10000000000000000), .lit (.int .u64 100000000000000000), .lit (.int .u64 1000000000000000000), .lit (.int .u64 10000000000000000000)]

/-- 'laws.FnBound': WHATEVER THE INPUT: true; the input reads as it did. -/
def fnBoundSpec : ChangeSpec := { name := "fnBound", vars := ["loop.example/cloth/impl.errFails"], fn := fun _ => fun
  | [d, g1] => { results := [.lit (.bool true)], args := [d], vars := [g1] }
  | _ => none }
def fnBoundRow : OpenClaim := { program := "ytkamfnmbidnhdaadoor", sum := "e0b3a527096ca38a9f299267ec193e00e470e01e274350898b667c622e7a34ae", func := "loop.example/cloth/laws.FnBound", spec := "fnBound", unfollowed := true, recurses := true, named := ["loop.example/cloth/impl.errFails"], ifaces := true, plainKeys := false, apart := false, laid := [("loop.example/cloth/impl.errFails", laid_loop_example_cloth_impl_errFails)] }
def FnBoundSaid : Prop := fnBoundRow.holds Tryd.pinned (OpenSpec.ofChange fnBoundSpec)

/-- ITS FALSE NEIGHBOUR: 'it returns false'. Refute it at one input. -/
def fnBoundWrong : ChangeSpec := { name := "fnBound", vars := ["loop.example/cloth/impl.errFails"], fn := fun _ => fun
  | [d, g1] => { results := [.lit (.bool false)], args := [d], vars := [g1] }
  | _ => none }
def FnBoundWrongFalsely : Prop := fnBoundRow.holds Tryd.pinned (OpenSpec.ofChange fnBoundWrong)

/-- 'laws.FnSort': WHATEVER THE INPUT: true; the input reads as it did. -/
def fnSortSpec : ChangeSpec := { name := "fnSort", vars := ["loop.example/cloth/impl.errFails"], fn := fun _ => fun
  | [d, g1] => { results := [.lit (.bool true)], args := [d], vars := [g1] }
  | _ => none }
def fnSortRow : OpenClaim := { program := "ytkamfnmbidnhdaadoor", sum := "e0b3a527096ca38a9f299267ec193e00e470e01e274350898b667c622e7a34ae", func := "loop.example/cloth/laws.FnSort", spec := "fnSort", unfollowed := true, recurses := true, named := ["loop.example/cloth/impl.errFails"], ifaces := true, plainKeys := false, apart := false, laid := [("loop.example/cloth/impl.errFails", laid_loop_example_cloth_impl_errFails)] }
def FnSortSaid : Prop := fnSortRow.holds Tryd.pinned (OpenSpec.ofChange fnSortSpec)

/-- ITS FALSE NEIGHBOUR: 'it returns false'. Refute it at one input. -/
def fnSortWrong : ChangeSpec := { name := "fnSort", vars := ["loop.example/cloth/impl.errFails"], fn := fun _ => fun
  | [d, g1] => { results := [.lit (.bool false)], args := [d], vars := [g1] }
  | _ => none }
def FnSortWrongFalsely : Prop := fnSortRow.holds Tryd.pinned (OpenSpec.ofChange fnSortWrong)

/-- 'laws.FnExactSort': WHATEVER THE INPUT: true; the input reads as it did. -/
def fnExactSortSpec : ChangeSpec := { name := "fnExactSort", vars := ["loop.example/cloth/impl.errFails"], fn := fun _ => fun
  | [d, g1] => { results := [.lit (.bool true)], args := [d], vars := [g1] }
  | _ => none }
def fnExactSortRow : OpenClaim := { program := "ytkamfnmbidnhdaadoor", sum := "e0b3a527096ca38a9f299267ec193e00e470e01e274350898b667c622e7a34ae", func := "loop.example/cloth/laws.FnExactSort", spec := "fnExactSort", unfollowed := true, recurses := true, named := ["loop.example/cloth/impl.errFails"], ifaces := true, plainKeys := false, apart := false, laid := [("loop.example/cloth/impl.errFails", laid_loop_example_cloth_impl_errFails)] }
def FnExactSortSaid : Prop := fnExactSortRow.holds Tryd.pinned (OpenSpec.ofChange fnExactSortSpec)

/-- ITS FALSE NEIGHBOUR: 'it returns false'. Refute it at one input. -/
def fnExactSortWrong : ChangeSpec := { name := "fnExactSort", vars := ["loop.example/cloth/impl.errFails"], fn := fun _ => fun
  | [d, g1] => { results := [.lit (.bool false)], args := [d], vars := [g1] }
  | _ => none }
def FnExactSortWrongFalsely : Prop := fnExactSortRow.holds Tryd.pinned (OpenSpec.ofChange fnExactSortWrong)

/-- 'laws.FnExactFreeze': WHATEVER THE INPUT: true; the input reads as it did. -/
def fnExactFreezeSpec : ChangeSpec := { name := "fnExactFreeze", fn := fun _ => fun
  | [d] => { results := [.lit (.bool true)], args := [d] }
  | _ => none }
def fnExactFreezeRow : OpenClaim := { program := "ytkamfnmbidnhdaadoor", sum := "e0b3a527096ca38a9f299267ec193e00e470e01e274350898b667c622e7a34ae", func := "loop.example/cloth/laws.FnExactFreeze", spec := "fnExactFreeze", inPlace := ["internal/abi.NoEscape"], unfollowed := true, recurses := true, named := ["internal/strconv.uint64pow10", "math/bits.deBruijn32tab", "math/bits.deBruijn64tab"], plainKeys := false, apart := false, laid := [("math/bits.deBruijn32tab", laid_math_bits_deBruijn32tab), ("math/bits.deBruijn64tab", laid_math_bits_deBruijn64tab), ("internal/strconv.uint64pow10", laid_internal_strconv_uint64pow10)] }
def FnExactFreezeSaid : Prop := fnExactFreezeRow.holds Tryd.pinned (OpenSpec.ofChange fnExactFreezeSpec)

/-- ITS FALSE NEIGHBOUR: 'it returns false'. Refute it at one input. -/
def fnExactFreezeWrong : ChangeSpec := { name := "fnExactFreeze", fn := fun _ => fun
  | [d] => { results := [.lit (.bool false)], args := [d] }
  | _ => none }
def FnExactFreezeWrongFalsely : Prop := fnExactFreezeRow.holds Tryd.pinned (OpenSpec.ofChange fnExactFreezeWrong)

/-- 'laws.FnRings': WHATEVER THE INPUT: true; the input reads as it did. -/
def fnRingsSpec : ChangeSpec := { name := "fnRings", fn := fun _ => fun
  | [d] => { results := [.lit (.bool true)], args := [d] }
  | _ => none }
def fnRingsRow : OpenClaim := { program := "ytkamfnmbidnhdaadoor", sum := "e0b3a527096ca38a9f299267ec193e00e470e01e274350898b667c622e7a34ae", func := "loop.example/cloth/laws.FnRings", spec := "fnRings", inPlace := ["internal/bytealg.abigen_runtime_cmpstring", "internal/abi.NoEscape"], unfollowed := true, recurses := true, named := ["internal/strconv.uint64pow10", "math/bits.deBruijn32tab", "math/bits.deBruijn64tab"], plainKeys := false, apart := false, laid := [("math/bits.deBruijn32tab", laid_math_bits_deBruijn32tab), ("math/bits.deBruijn64tab", laid_math_bits_deBruijn64tab), ("internal/strconv.uint64pow10", laid_internal_strconv_uint64pow10)] }
def FnRingsSaid : Prop := fnRingsRow.holds Tryd.pinned (OpenSpec.ofChange fnRingsSpec)

/-- ITS FALSE NEIGHBOUR: 'it returns false'. Refute it at one input. -/
def fnRingsWrong : ChangeSpec := { name := "fnRings", fn := fun _ => fun
  | [d] => { results := [.lit (.bool false)], args := [d] }
  | _ => none }
def FnRingsWrongFalsely : Prop := fnRingsRow.holds Tryd.pinned (OpenSpec.ofChange fnRingsWrong)

/-- 'laws.FnExactSame': WHATEVER THE INPUT: true; the input reads as it did. -/
def fnExactSameSpec : ChangeSpec := { name := "fnExactSame", fn := fun _ => fun
  | [d1, d2] => { results := [.lit (.bool true)], args := [d1, d2] }
  | _ => none }
def fnExactSameRow : OpenClaim := { program := "ytkamfnmbidnhdaadoor", sum := "e0b3a527096ca38a9f299267ec193e00e470e01e274350898b667c622e7a34ae", func := "loop.example/cloth/laws.FnExactSame", spec := "fnExactSame", inPlace := ["internal/bytealg.abigen_runtime_cmpstring", "internal/abi.NoEscape"], unfollowed := true, recurses := true, named := ["internal/strconv.uint64pow10", "math/bits.deBruijn32tab", "math/bits.deBruijn64tab"], plainKeys := false, apart := false, laid := [("math/bits.deBruijn32tab", laid_math_bits_deBruijn32tab), ("math/bits.deBruijn64tab", laid_math_bits_deBruijn64tab), ("internal/strconv.uint64pow10", laid_internal_strconv_uint64pow10)] }
def FnExactSameSaid : Prop := fnExactSameRow.holds Tryd.pinned (OpenSpec.ofChange fnExactSameSpec)

/-- ITS FALSE NEIGHBOUR: 'it returns false'. Refute it at one input. -/
def fnExactSameWrong : ChangeSpec := { name := "fnExactSame", fn := fun _ => fun
  | [d1, d2] => { results := [.lit (.bool false)], args := [d1, d2] }
  | _ => none }
def FnExactSameWrongFalsely : Prop := fnExactSameRow.holds Tryd.pinned (OpenSpec.ofChange fnExactSameWrong)

/-- 'laws.FnExactClasses': WHATEVER THE INPUT: true; the input reads as it did. -/
def fnExactClassesSpec : ChangeSpec := { name := "fnExactClasses", fn := fun _ => fun
  | [d] => { results := [.lit (.bool true)], args := [d] }
  | _ => none }
def fnExactClassesRow : OpenClaim := { program := "ytkamfnmbidnhdaadoor", sum := "e0b3a527096ca38a9f299267ec193e00e470e01e274350898b667c622e7a34ae", func := "loop.example/cloth/laws.FnExactClasses", spec := "fnExactClasses", inPlace := ["internal/bytealg.abigen_runtime_cmpstring", "internal/abi.NoEscape"], unfollowed := true, recurses := true, named := ["internal/strconv.uint64pow10", "math/bits.deBruijn32tab", "math/bits.deBruijn64tab"], plainKeys := false, apart := false, laid := [("math/bits.deBruijn32tab", laid_math_bits_deBruijn32tab), ("math/bits.deBruijn64tab", laid_math_bits_deBruijn64tab), ("internal/strconv.uint64pow10", laid_internal_strconv_uint64pow10)] }
def FnExactClassesSaid : Prop := fnExactClassesRow.holds Tryd.pinned (OpenSpec.ofChange fnExactClassesSpec)

/-- ITS FALSE NEIGHBOUR: 'it returns false'. Refute it at one input. -/
def fnExactClassesWrong : ChangeSpec := { name := "fnExactClasses", fn := fun _ => fun
  | [d] => { results := [.lit (.bool false)], args := [d] }
  | _ => none }
def FnExactClassesWrongFalsely : Prop := fnExactClassesRow.holds Tryd.pinned (OpenSpec.ofChange fnExactClassesWrong)

/-- 'laws.FnShrink': WHATEVER THE INPUT: true; the input reads as it did. -/
def fnShrinkSpec : ChangeSpec := { name := "fnShrink", fn := fun _ => fun
  | [d1, d2] => { results := [.lit (.bool true)], args := [d1, d2] }
  | _ => none }
def fnShrinkRow : OpenClaim := { program := "ytkamfnmbidnhdaadoor", sum := "e0b3a527096ca38a9f299267ec193e00e470e01e274350898b667c622e7a34ae", func := "loop.example/cloth/laws.FnShrink", spec := "fnShrink", inPlace := ["internal/bytealg.abigen_runtime_cmpstring", "internal/abi.NoEscape"], unfollowed := true, recurses := true, named := ["internal/strconv.uint64pow10", "math/bits.deBruijn32tab", "math/bits.deBruijn64tab"], plainKeys := false, apart := false, laid := [("math/bits.deBruijn32tab", laid_math_bits_deBruijn32tab), ("math/bits.deBruijn64tab", laid_math_bits_deBruijn64tab), ("internal/strconv.uint64pow10", laid_internal_strconv_uint64pow10)] }
def FnShrinkSaid : Prop := fnShrinkRow.holds Tryd.pinned (OpenSpec.ofChange fnShrinkSpec)

/-- ITS FALSE NEIGHBOUR: 'it returns false'. Refute it at one input. -/
def fnShrinkWrong : ChangeSpec := { name := "fnShrink", fn := fun _ => fun
  | [d1, d2] => { results := [.lit (.bool false)], args := [d1, d2] }
  | _ => none }
def FnShrinkWrongFalsely : Prop := fnShrinkRow.holds Tryd.pinned (OpenSpec.ofChange fnShrinkWrong)

/-- 'laws.FnExactShrink': WHATEVER THE INPUT: true; the input reads as it did. -/
def fnExactShrinkSpec : ChangeSpec := { name := "fnExactShrink", fn := fun _ => fun
  | [d] => { results := [.lit (.bool true)], args := [d] }
  | _ => none }
def fnExactShrinkRow : OpenClaim := { program := "ytkamfnmbidnhdaadoor", sum := "e0b3a527096ca38a9f299267ec193e00e470e01e274350898b667c622e7a34ae", func := "loop.example/cloth/laws.FnExactShrink", spec := "fnExactShrink", inPlace := ["internal/bytealg.abigen_runtime_cmpstring", "internal/abi.NoEscape"], unfollowed := true, recurses := true, named := ["internal/strconv.uint64pow10", "math/bits.deBruijn32tab", "math/bits.deBruijn64tab"], plainKeys := false, apart := false, laid := [("math/bits.deBruijn32tab", laid_math_bits_deBruijn32tab), ("math/bits.deBruijn64tab", laid_math_bits_deBruijn64tab), ("internal/strconv.uint64pow10", laid_internal_strconv_uint64pow10)] }
def FnExactShrinkSaid : Prop := fnExactShrinkRow.holds Tryd.pinned (OpenSpec.ofChange fnExactShrinkSpec)

/-- ITS FALSE NEIGHBOUR: 'it returns false'. Refute it at one input. -/
def fnExactShrinkWrong : ChangeSpec := { name := "fnExactShrink", fn := fun _ => fun
  | [d] => { results := [.lit (.bool false)], args := [d] }
  | _ => none }
def FnExactShrinkWrongFalsely : Prop := fnExactShrinkRow.holds Tryd.pinned (OpenSpec.ofChange fnExactShrinkWrong)

/- THE SECOND FORM. 'bulk': how many values and letters a reading holds, each counted each time it is reached (what is shared counts as often as it is met; a slice's spare places count too). A statement '..UptoSaid' is the law's where the arguments, and the package variables that the reading takes, are together of bulk at most 1048576: NARROWER than '..Said'. Prove '..Said' where nothing that the law and all that it calls make is longer than what came in: it says more and counts as full. Else prove '..UptoSaid'. A law counts once. -/
mutual
def uptoBulk {H : Type} : DataW H → Nat
  | .lit (.string bytes) => bytes.length + 1
  | .lit _ => 1
  | .nil => 1
  | .ptr d => uptoBulk d + 1
  | .slice elems spare => uptoBulkAll elems + uptoBulkAll spare + 1
  | .agg parts => uptoBulkAll parts + 1
  | .iface _ d => uptoBulk d + 1
  | .map entries => uptoBulkEntries entries + 1
  | .held _ => 1
def uptoBulkAll {H : Type} : List (DataW H) → Nat
  | [] => 0
  | d :: r => uptoBulk d + uptoBulkAll r
def uptoBulkEntries {H : Type} : List (Lit × DataW H) → Nat
  | [] => 0
  | x :: r => uptoBulkEntry x + uptoBulkEntries r
def uptoBulkEntry {H : Type} : Lit × DataW H → Nat
  | (.string bytes, d) => bytes.length + uptoBulk d + 1
  | (_, d) => uptoBulk d + 1
 end
def uptoSmall : (H : Type) → List (DataW H) → Bool := fun _ ds => decide (uptoBulkAll ds ≤ 1048576)
def OpenSpec.upto (s : _root_.Go.ChangeSpec) : _root_.Go.OpenSpec := { _root_.Go.OpenSpec.ofChange s with cond := some uptoSmall }

/-- 'laws.FnBound', WHERE WHAT IT READS IS OF BULK AT MOST 1048576: true; the input reads as it did. -/
def fnBoundUptoRow : OpenClaim := { program := "ytkamfnmbidnhdaadoor", sum := "e0b3a527096ca38a9f299267ec193e00e470e01e274350898b667c622e7a34ae", func := "loop.example/cloth/laws.FnBound", spec := "fnBound", unfollowed := true, recurses := true, named := ["loop.example/cloth/impl.errFails"], ifaces := true, plainKeys := false, apart := false, laid := [("loop.example/cloth/impl.errFails", laid_loop_example_cloth_impl_errFails)], narrowed := true }
def FnBoundUptoSaid : Prop := fnBoundUptoRow.holds Tryd.pinned (OpenSpec.upto fnBoundSpec)

/-- 'laws.FnSort', WHERE WHAT IT READS IS OF BULK AT MOST 1048576: true; the input reads as it did. -/
def fnSortUptoRow : OpenClaim := { program := "ytkamfnmbidnhdaadoor", sum := "e0b3a527096ca38a9f299267ec193e00e470e01e274350898b667c622e7a34ae", func := "loop.example/cloth/laws.FnSort", spec := "fnSort", unfollowed := true, recurses := true, named := ["loop.example/cloth/impl.errFails"], ifaces := true, plainKeys := false, apart := false, laid := [("loop.example/cloth/impl.errFails", laid_loop_example_cloth_impl_errFails)], narrowed := true }
def FnSortUptoSaid : Prop := fnSortUptoRow.holds Tryd.pinned (OpenSpec.upto fnSortSpec)

/-- 'laws.FnExactSort', WHERE WHAT IT READS IS OF BULK AT MOST 1048576: true; the input reads as it did. -/
def fnExactSortUptoRow : OpenClaim := { program := "ytkamfnmbidnhdaadoor", sum := "e0b3a527096ca38a9f299267ec193e00e470e01e274350898b667c622e7a34ae", func := "loop.example/cloth/laws.FnExactSort", spec := "fnExactSort", unfollowed := true, recurses := true, named := ["loop.example/cloth/impl.errFails"], ifaces := true, plainKeys := false, apart := false, laid := [("loop.example/cloth/impl.errFails", laid_loop_example_cloth_impl_errFails)], narrowed := true }
def FnExactSortUptoSaid : Prop := fnExactSortUptoRow.holds Tryd.pinned (OpenSpec.upto fnExactSortSpec)

/-- 'laws.FnExactFreeze', WHERE WHAT IT READS IS OF BULK AT MOST 1048576: true; the input reads as it did. -/
def fnExactFreezeUptoRow : OpenClaim := { program := "ytkamfnmbidnhdaadoor", sum := "e0b3a527096ca38a9f299267ec193e00e470e01e274350898b667c622e7a34ae", func := "loop.example/cloth/laws.FnExactFreeze", spec := "fnExactFreeze", inPlace := ["internal/abi.NoEscape"], unfollowed := true, recurses := true, named := ["internal/strconv.uint64pow10", "math/bits.deBruijn32tab", "math/bits.deBruijn64tab"], plainKeys := false, apart := false, laid := [("math/bits.deBruijn32tab", laid_math_bits_deBruijn32tab), ("math/bits.deBruijn64tab", laid_math_bits_deBruijn64tab), ("internal/strconv.uint64pow10", laid_internal_strconv_uint64pow10)], narrowed := true }
def FnExactFreezeUptoSaid : Prop := fnExactFreezeUptoRow.holds Tryd.pinned (OpenSpec.upto fnExactFreezeSpec)

/-- 'laws.FnRings', WHERE WHAT IT READS IS OF BULK AT MOST 1048576: true; the input reads as it did. -/
def fnRingsUptoRow : OpenClaim := { program := "ytkamfnmbidnhdaadoor", sum := "e0b3a527096ca38a9f299267ec193e00e470e01e274350898b667c622e7a34ae", func := "loop.example/cloth/laws.FnRings", spec := "fnRings", inPlace := ["internal/bytealg.abigen_runtime_cmpstring", "internal/abi.NoEscape"], unfollowed := true, recurses := true, named := ["internal/strconv.uint64pow10", "math/bits.deBruijn32tab", "math/bits.deBruijn64tab"], plainKeys := false, apart := false, laid := [("math/bits.deBruijn32tab", laid_math_bits_deBruijn32tab), ("math/bits.deBruijn64tab", laid_math_bits_deBruijn64tab), ("internal/strconv.uint64pow10", laid_internal_strconv_uint64pow10)], narrowed := true }
def FnRingsUptoSaid : Prop := fnRingsUptoRow.holds Tryd.pinned (OpenSpec.upto fnRingsSpec)

/-- 'laws.FnExactSame', WHERE WHAT IT READS IS OF BULK AT MOST 1048576: true; the input reads as it did. -/
def fnExactSameUptoRow : OpenClaim := { program := "ytkamfnmbidnhdaadoor", sum := "e0b3a527096ca38a9f299267ec193e00e470e01e274350898b667c622e7a34ae", func := "loop.example/cloth/laws.FnExactSame", spec := "fnExactSame", inPlace := ["internal/bytealg.abigen_runtime_cmpstring", "internal/abi.NoEscape"], unfollowed := true, recurses := true, named := ["internal/strconv.uint64pow10", "math/bits.deBruijn32tab", "math/bits.deBruijn64tab"], plainKeys := false, apart := false, laid := [("math/bits.deBruijn32tab", laid_math_bits_deBruijn32tab), ("math/bits.deBruijn64tab", laid_math_bits_deBruijn64tab), ("internal/strconv.uint64pow10", laid_internal_strconv_uint64pow10)], narrowed := true }
def FnExactSameUptoSaid : Prop := fnExactSameUptoRow.holds Tryd.pinned (OpenSpec.upto fnExactSameSpec)

/-- 'laws.FnExactClasses', WHERE WHAT IT READS IS OF BULK AT MOST 1048576: true; the input reads as it did. -/
def fnExactClassesUptoRow : OpenClaim := { program := "ytkamfnmbidnhdaadoor", sum := "e0b3a527096ca38a9f299267ec193e00e470e01e274350898b667c622e7a34ae", func := "loop.example/cloth/laws.FnExactClasses", spec := "fnExactClasses", inPlace := ["internal/bytealg.abigen_runtime_cmpstring", "internal/abi.NoEscape"], unfollowed := true, recurses := true, named := ["internal/strconv.uint64pow10", "math/bits.deBruijn32tab", "math/bits.deBruijn64tab"], plainKeys := false, apart := false, laid := [("math/bits.deBruijn32tab", laid_math_bits_deBruijn32tab), ("math/bits.deBruijn64tab", laid_math_bits_deBruijn64tab), ("internal/strconv.uint64pow10", laid_internal_strconv_uint64pow10)], narrowed := true }
def FnExactClassesUptoSaid : Prop := fnExactClassesUptoRow.holds Tryd.pinned (OpenSpec.upto fnExactClassesSpec)

/-- 'laws.FnShrink', WHERE WHAT IT READS IS OF BULK AT MOST 1048576: true; the input reads as it did. -/
def fnShrinkUptoRow : OpenClaim := { program := "ytkamfnmbidnhdaadoor", sum := "e0b3a527096ca38a9f299267ec193e00e470e01e274350898b667c622e7a34ae", func := "loop.example/cloth/laws.FnShrink", spec := "fnShrink", inPlace := ["internal/bytealg.abigen_runtime_cmpstring", "internal/abi.NoEscape"], unfollowed := true, recurses := true, named := ["internal/strconv.uint64pow10", "math/bits.deBruijn32tab", "math/bits.deBruijn64tab"], plainKeys := false, apart := false, laid := [("math/bits.deBruijn32tab", laid_math_bits_deBruijn32tab), ("math/bits.deBruijn64tab", laid_math_bits_deBruijn64tab), ("internal/strconv.uint64pow10", laid_internal_strconv_uint64pow10)], narrowed := true }
def FnShrinkUptoSaid : Prop := fnShrinkUptoRow.holds Tryd.pinned (OpenSpec.upto fnShrinkSpec)

/-- 'laws.FnExactShrink', WHERE WHAT IT READS IS OF BULK AT MOST 1048576: true; the input reads as it did. -/
def fnExactShrinkUptoRow : OpenClaim := { program := "ytkamfnmbidnhdaadoor", sum := "e0b3a527096ca38a9f299267ec193e00e470e01e274350898b667c622e7a34ae", func := "loop.example/cloth/laws.FnExactShrink", spec := "fnExactShrink", inPlace := ["internal/bytealg.abigen_runtime_cmpstring", "internal/abi.NoEscape"], unfollowed := true, recurses := true, named := ["internal/strconv.uint64pow10", "math/bits.deBruijn32tab", "math/bits.deBruijn64tab"], plainKeys := false, apart := false, laid := [("math/bits.deBruijn32tab", laid_math_bits_deBruijn32tab), ("math/bits.deBruijn64tab", laid_math_bits_deBruijn64tab), ("internal/strconv.uint64pow10", laid_internal_strconv_uint64pow10)], narrowed := true }
def FnExactShrinkUptoSaid : Prop := fnExactShrinkUptoRow.holds Tryd.pinned (OpenSpec.upto fnExactShrinkSpec)

end Rows
end Go.Proofs.YtkamfnmbidnhdaaDoor
