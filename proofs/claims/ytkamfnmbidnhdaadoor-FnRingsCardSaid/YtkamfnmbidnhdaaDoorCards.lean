/-
  DERIVED. GIVEN WITH THE SEED: THE CARDS: each row of YtkamfnmbidnhdaaDoorRows.lean that lists a variable, with what it lists TIED to the program's text (the seventh form; the later family's looks); each row that meets fmt, with fmt's text TOLD by the authors' own Lean function (tested against real Go, not proved from fmt's source: count such statements apart). THE CARD IS WHAT COUNTS. Prove the row's statement (the work); the ties are given (YtkamfnmbidnhdaaDoorTie.lean); close each card by the builder's one call (the guide's Derived/Test/ToyasCard.lean, 'card_holds'). Laid BY PROGRAM, IN A SANDBOX (cutbox-door.mjs). By AI agents, Wed Nov 11 2026. No macro, syntax, notation, axiom, sorry.
-/
import Derived.Test.YtkamfnmbidnhdaaDoorRows
import GoSem.ClaimSeven
namespace Go.Proofs.YtkamfnmbidnhdaaDoor
namespace Rows

/-- THE TIED CARD OF 'laws.FnBound'. -/
def fnBoundCard : Claim7 := { stood := { row := fnBoundRow, standIns := [], harness := (true, "4305c0219f5bb2ceb5ebe177df44c9a4afe681e3c68b3a32f6752f9744c8eca1"), looks := true }, kinds := [], alts := [], laidByText := true, laidKinds := [.sentinel], laidTests := true, laidLooks := .later }
def FnBoundCardSaid : Prop := Claim7.holds Tryd.pinned (.plain (OpenSpec.ofChange fnBoundSpec)) fnBoundCard

/-- THE TIED CARD OF 'laws.FnSort'. -/
def fnSortCard : Claim7 := { stood := { row := fnSortRow, standIns := [], harness := (true, "4305c0219f5bb2ceb5ebe177df44c9a4afe681e3c68b3a32f6752f9744c8eca1"), looks := true }, kinds := [], alts := [], laidByText := true, laidKinds := [.sentinel], laidTests := true, laidLooks := .later }
def FnSortCardSaid : Prop := Claim7.holds Tryd.pinned (.plain (OpenSpec.ofChange fnSortSpec)) fnSortCard

/-- THE TIED CARD OF 'laws.FnExactSort'. -/
def fnExactSortCard : Claim7 := { stood := { row := fnExactSortRow, standIns := [], harness := (true, "4305c0219f5bb2ceb5ebe177df44c9a4afe681e3c68b3a32f6752f9744c8eca1"), looks := true }, kinds := [], alts := [], laidByText := true, laidKinds := [.sentinel], laidTests := true, laidLooks := .later }
def FnExactSortCardSaid : Prop := Claim7.holds Tryd.pinned (.plain (OpenSpec.ofChange fnExactSortSpec)) fnExactSortCard

/-- THE TIED CARD OF 'laws.FnExactFreeze'. -/
def fnExactFreezeCard : Claim7 := { stood := { row := fnExactFreezeRow, standIns := [], harness := (true, "4305c0219f5bb2ceb5ebe177df44c9a4afe681e3c68b3a32f6752f9744c8eca1"), looks := true }, kinds := [], alts := [], laidByText := true, laidKinds := [.data, .data, .data], laidTests := true, laidLooks := .later }
def FnExactFreezeCardSaid : Prop := Claim7.holds Tryd.pinned (.plain (OpenSpec.ofChange fnExactFreezeSpec)) fnExactFreezeCard

/-- THE TIED CARD OF 'laws.FnRings'. -/
def fnRingsCard : Claim7 := { stood := { row := fnRingsRow, standIns := [], harness := (true, "4305c0219f5bb2ceb5ebe177df44c9a4afe681e3c68b3a32f6752f9744c8eca1"), looks := true }, kinds := [], alts := [], laidByText := true, laidKinds := [.data, .data, .data], laidTests := true, laidLooks := .later }
def FnRingsCardSaid : Prop := Claim7.holds Tryd.pinned (.plain (OpenSpec.ofChange fnRingsSpec)) fnRingsCard

/-- THE TIED CARD OF 'laws.FnExactSame'. -/
def fnExactSameCard : Claim7 := { stood := { row := fnExactSameRow, standIns := [], harness := (true, "4305c0219f5bb2ceb5ebe177df44c9a4afe681e3c68b3a32f6752f9744c8eca1"), looks := true }, kinds := [], alts := [], laidByText := true, laidKinds := [.data, .data, .data], laidTests := true, laidLooks := .later }
def FnExactSameCardSaid : Prop := Claim7.holds Tryd.pinned (.plain (OpenSpec.ofChange fnExactSameSpec)) fnExactSameCard

/-- THE TIED CARD OF 'laws.FnExactClasses'. -/
def fnExactClassesCard : Claim7 := { stood := { row := fnExactClassesRow, standIns := [], harness := (true, "4305c0219f5bb2ceb5ebe177df44c9a4afe681e3c68b3a32f6752f9744c8eca1"), looks := true }, kinds := [], alts := [], laidByText := true, laidKinds := [.data, .data, .data], laidTests := true, laidLooks := .later }
def FnExactClassesCardSaid : Prop := Claim7.holds Tryd.pinned (.plain (OpenSpec.ofChange fnExactClassesSpec)) fnExactClassesCard

/-- THE TIED CARD OF 'laws.FnShrink'. -/
def fnShrinkCard : Claim7 := { stood := { row := fnShrinkRow, standIns := [], harness := (true, "4305c0219f5bb2ceb5ebe177df44c9a4afe681e3c68b3a32f6752f9744c8eca1"), looks := true }, kinds := [], alts := [], laidByText := true, laidKinds := [.data, .data, .data], laidTests := true, laidLooks := .later }
def FnShrinkCardSaid : Prop := Claim7.holds Tryd.pinned (.plain (OpenSpec.ofChange fnShrinkSpec)) fnShrinkCard

/-- THE TIED CARD OF 'laws.FnExactShrink'. -/
def fnExactShrinkCard : Claim7 := { stood := { row := fnExactShrinkRow, standIns := [], harness := (true, "4305c0219f5bb2ceb5ebe177df44c9a4afe681e3c68b3a32f6752f9744c8eca1"), looks := true }, kinds := [], alts := [], laidByText := true, laidKinds := [.data, .data, .data], laidTests := true, laidLooks := .later }
def FnExactShrinkCardSaid : Prop := Claim7.holds Tryd.pinned (.plain (OpenSpec.ofChange fnExactShrinkSpec)) fnExactShrinkCard

/-- THE SECOND FORM's CARD OF 'laws.FnBound'. -/
def fnBoundUptoCard : Claim7 := { stood := { row := fnBoundUptoRow, standIns := [], harness := (true, "4305c0219f5bb2ceb5ebe177df44c9a4afe681e3c68b3a32f6752f9744c8eca1"), looks := true }, kinds := [], alts := [], laidByText := true, laidKinds := [.sentinel], laidTests := true, laidLooks := .later }
def FnBoundUptoCardSaid : Prop := Claim7.holds Tryd.pinned (.plain (OpenSpec.upto fnBoundSpec)) fnBoundUptoCard

/-- THE SECOND FORM's CARD OF 'laws.FnSort'. -/
def fnSortUptoCard : Claim7 := { stood := { row := fnSortUptoRow, standIns := [], harness := (true, "4305c0219f5bb2ceb5ebe177df44c9a4afe681e3c68b3a32f6752f9744c8eca1"), looks := true }, kinds := [], alts := [], laidByText := true, laidKinds := [.sentinel], laidTests := true, laidLooks := .later }
def FnSortUptoCardSaid : Prop := Claim7.holds Tryd.pinned (.plain (OpenSpec.upto fnSortSpec)) fnSortUptoCard

/-- THE SECOND FORM's CARD OF 'laws.FnExactSort'. -/
def fnExactSortUptoCard : Claim7 := { stood := { row := fnExactSortUptoRow, standIns := [], harness := (true, "4305c0219f5bb2ceb5ebe177df44c9a4afe681e3c68b3a32f6752f9744c8eca1"), looks := true }, kinds := [], alts := [], laidByText := true, laidKinds := [.sentinel], laidTests := true, laidLooks := .later }
def FnExactSortUptoCardSaid : Prop := Claim7.holds Tryd.pinned (.plain (OpenSpec.upto fnExactSortSpec)) fnExactSortUptoCard

/-- THE SECOND FORM's CARD OF 'laws.FnExactFreeze'. -/
def fnExactFreezeUptoCard : Claim7 := { stood := { row := fnExactFreezeUptoRow, standIns := [], harness := (true, "4305c0219f5bb2ceb5ebe177df44c9a4afe681e3c68b3a32f6752f9744c8eca1"), looks := true }, kinds := [], alts := [], laidByText := true, laidKinds := [.data, .data, .data], laidTests := true, laidLooks := .later }
def FnExactFreezeUptoCardSaid : Prop := Claim7.holds Tryd.pinned (.plain (OpenSpec.upto fnExactFreezeSpec)) fnExactFreezeUptoCard

/-- THE SECOND FORM's CARD OF 'laws.FnRings'. -/
def fnRingsUptoCard : Claim7 := { stood := { row := fnRingsUptoRow, standIns := [], harness := (true, "4305c0219f5bb2ceb5ebe177df44c9a4afe681e3c68b3a32f6752f9744c8eca1"), looks := true }, kinds := [], alts := [], laidByText := true, laidKinds := [.data, .data, .data], laidTests := true, laidLooks := .later }
def FnRingsUptoCardSaid : Prop := Claim7.holds Tryd.pinned (.plain (OpenSpec.upto fnRingsSpec)) fnRingsUptoCard

/-- THE SECOND FORM's CARD OF 'laws.FnExactSame'. -/
def fnExactSameUptoCard : Claim7 := { stood := { row := fnExactSameUptoRow, standIns := [], harness := (true, "4305c0219f5bb2ceb5ebe177df44c9a4afe681e3c68b3a32f6752f9744c8eca1"), looks := true }, kinds := [], alts := [], laidByText := true, laidKinds := [.data, .data, .data], laidTests := true, laidLooks := .later }
def FnExactSameUptoCardSaid : Prop := Claim7.holds Tryd.pinned (.plain (OpenSpec.upto fnExactSameSpec)) fnExactSameUptoCard

/-- THE SECOND FORM's CARD OF 'laws.FnExactClasses'. -/
def fnExactClassesUptoCard : Claim7 := { stood := { row := fnExactClassesUptoRow, standIns := [], harness := (true, "4305c0219f5bb2ceb5ebe177df44c9a4afe681e3c68b3a32f6752f9744c8eca1"), looks := true }, kinds := [], alts := [], laidByText := true, laidKinds := [.data, .data, .data], laidTests := true, laidLooks := .later }
def FnExactClassesUptoCardSaid : Prop := Claim7.holds Tryd.pinned (.plain (OpenSpec.upto fnExactClassesSpec)) fnExactClassesUptoCard

/-- THE SECOND FORM's CARD OF 'laws.FnShrink'. -/
def fnShrinkUptoCard : Claim7 := { stood := { row := fnShrinkUptoRow, standIns := [], harness := (true, "4305c0219f5bb2ceb5ebe177df44c9a4afe681e3c68b3a32f6752f9744c8eca1"), looks := true }, kinds := [], alts := [], laidByText := true, laidKinds := [.data, .data, .data], laidTests := true, laidLooks := .later }
def FnShrinkUptoCardSaid : Prop := Claim7.holds Tryd.pinned (.plain (OpenSpec.upto fnShrinkSpec)) fnShrinkUptoCard

/-- THE SECOND FORM's CARD OF 'laws.FnExactShrink'. -/
def fnExactShrinkUptoCard : Claim7 := { stood := { row := fnExactShrinkUptoRow, standIns := [], harness := (true, "4305c0219f5bb2ceb5ebe177df44c9a4afe681e3c68b3a32f6752f9744c8eca1"), looks := true }, kinds := [], alts := [], laidByText := true, laidKinds := [.data, .data, .data], laidTests := true, laidLooks := .later }
def FnExactShrinkUptoCardSaid : Prop := Claim7.holds Tryd.pinned (.plain (OpenSpec.upto fnExactShrinkSpec)) fnExactShrinkUptoCard
end Rows
end Go.Proofs.YtkamfnmbidnhdaaDoor
