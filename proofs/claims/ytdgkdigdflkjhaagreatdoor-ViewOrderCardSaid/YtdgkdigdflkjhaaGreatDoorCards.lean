/-
  DERIVED. GIVEN WITH THE SEED: THE CARDS: each row of YtdgkdigdflkjhaaGreatDoorRows.lean that lists a variable, with what it lists TIED to the program's text (the seventh form; the later family's looks); each row that meets fmt, with fmt's text TOLD by the authors' own Lean function (tested against real Go, not proved from fmt's source: count such statements apart). THE CARD IS WHAT COUNTS. Prove the row's statement (the work); the ties are given (YtdgkdigdflkjhaaGreatDoorTie.lean); close each card by the builder's one call (the guide's Derived/Test/ToyasCard.lean, 'card_holds'). Laid BY PROGRAM, IN A SANDBOX (cutbox-door.mjs). By AI agents, Wed Nov 11 2026. No macro, syntax, notation, axiom, sorry.
-/
import Derived.Test.YtdgkdigdflkjhaaGreatDoorRows
import GoSem.ClaimSeven
namespace Go.Proofs.YtdgkdigdflkjhaaGreatDoor
namespace Rows

/-- THE TIED CARD OF 'recensionlaw16.ViewOrder'. -/
def viewOrderCard : Claim7 := { stood := { row := viewOrderRow, standIns := [], harness := (true, "dc282b4bcb442580b74d133591fb4f187d08e9304dc1e74d5d138f2201d2280e"), looks := false }, kinds := [], alts := [], laidByText := true, laidKinds := [.data, .data, .data, .data, .pinned], laidTests := true, laidLooks := .later }
def ViewOrderCardSaid : Prop := Claim7.holds Tryz.pinned (.plain (OpenSpec.ofChange viewOrderSpec)) viewOrderCard

/-- THE TIED CARD OF 'recensionlaw16.ViewUndoes'. -/
def viewUndoesCard : Claim7 := { stood := { row := viewUndoesRow, standIns := [], harness := (true, "dc282b4bcb442580b74d133591fb4f187d08e9304dc1e74d5d138f2201d2280e"), looks := false }, kinds := [], alts := [], laidByText := true, laidKinds := [.data, .data, .data, .data, .pinned], laidTests := true, laidLooks := .later }
def ViewUndoesCardSaid : Prop := Claim7.holds Tryz.pinned (.plain (OpenSpec.ofChange viewUndoesSpec)) viewUndoesCard

/-- THE TIED CARD OF 'recensionlaw16.ViewNothing'. -/
def viewNothingCard : Claim7 := { stood := { row := viewNothingRow, standIns := [], harness := (true, "dc282b4bcb442580b74d133591fb4f187d08e9304dc1e74d5d138f2201d2280e"), looks := false }, kinds := [], alts := [], laidByText := true, laidKinds := [.data, .data, .data, .data, .pinned], laidTests := true, laidLooks := .later }
def ViewNothingCardSaid : Prop := Claim7.holds Tryz.pinned (.plain (OpenSpec.ofChange viewNothingSpec)) viewNothingCard

/-- THE TIED CARD OF 'recensionlaw16.ViewFree'. -/
def viewFreeCard : Claim7 := { stood := { row := viewFreeRow, standIns := [], harness := (true, "dc282b4bcb442580b74d133591fb4f187d08e9304dc1e74d5d138f2201d2280e"), looks := false }, kinds := [], alts := [], laidByText := true, laidKinds := [.data, .data, .data, .data, .pinned], laidTests := true, laidLooks := .later }
def ViewFreeCardSaid : Prop := Claim7.holds Tryz.pinned (.plain (OpenSpec.ofChange viewFreeSpec)) viewFreeCard

/-- THE TIED CARD OF 'recensionlaw16.ViewSmall'. -/
def viewSmallCard : Claim7 := { stood := { row := viewSmallRow, standIns := [], harness := (true, "dc282b4bcb442580b74d133591fb4f187d08e9304dc1e74d5d138f2201d2280e"), looks := false }, kinds := [], alts := [], laidByText := true, laidKinds := [.data, .data, .data, .data, .pinned], laidTests := true, laidLooks := .later }
def ViewSmallCardSaid : Prop := Claim7.holds Tryz.pinned (.plain (OpenSpec.ofChange viewSmallSpec)) viewSmallCard

/-- THE SECOND FORM's CARD OF 'recensionlaw16.ViewOrder'. -/
def viewOrderUptoCard : Claim7 := { stood := { row := viewOrderUptoRow, standIns := [], harness := (true, "dc282b4bcb442580b74d133591fb4f187d08e9304dc1e74d5d138f2201d2280e"), looks := false }, kinds := [], alts := [], laidByText := true, laidKinds := [.data, .data, .data, .data, .pinned], laidTests := true, laidLooks := .later }
def ViewOrderUptoCardSaid : Prop := Claim7.holds Tryz.pinned (.plain (OpenSpec.upto viewOrderSpec)) viewOrderUptoCard

/-- THE SECOND FORM's CARD OF 'recensionlaw16.ViewUndoes'. -/
def viewUndoesUptoCard : Claim7 := { stood := { row := viewUndoesUptoRow, standIns := [], harness := (true, "dc282b4bcb442580b74d133591fb4f187d08e9304dc1e74d5d138f2201d2280e"), looks := false }, kinds := [], alts := [], laidByText := true, laidKinds := [.data, .data, .data, .data, .pinned], laidTests := true, laidLooks := .later }
def ViewUndoesUptoCardSaid : Prop := Claim7.holds Tryz.pinned (.plain (OpenSpec.upto viewUndoesSpec)) viewUndoesUptoCard

/-- THE SECOND FORM's CARD OF 'recensionlaw16.ViewNothing'. -/
def viewNothingUptoCard : Claim7 := { stood := { row := viewNothingUptoRow, standIns := [], harness := (true, "dc282b4bcb442580b74d133591fb4f187d08e9304dc1e74d5d138f2201d2280e"), looks := false }, kinds := [], alts := [], laidByText := true, laidKinds := [.data, .data, .data, .data, .pinned], laidTests := true, laidLooks := .later }
def ViewNothingUptoCardSaid : Prop := Claim7.holds Tryz.pinned (.plain (OpenSpec.upto viewNothingSpec)) viewNothingUptoCard

/-- THE SECOND FORM's CARD OF 'recensionlaw16.ViewFree'. -/
def viewFreeUptoCard : Claim7 := { stood := { row := viewFreeUptoRow, standIns := [], harness := (true, "dc282b4bcb442580b74d133591fb4f187d08e9304dc1e74d5d138f2201d2280e"), looks := false }, kinds := [], alts := [], laidByText := true, laidKinds := [.data, .data, .data, .data, .pinned], laidTests := true, laidLooks := .later }
def ViewFreeUptoCardSaid : Prop := Claim7.holds Tryz.pinned (.plain (OpenSpec.upto viewFreeSpec)) viewFreeUptoCard

/-- THE SECOND FORM's CARD OF 'recensionlaw16.ViewSmall'. -/
def viewSmallUptoCard : Claim7 := { stood := { row := viewSmallUptoRow, standIns := [], harness := (true, "dc282b4bcb442580b74d133591fb4f187d08e9304dc1e74d5d138f2201d2280e"), looks := false }, kinds := [], alts := [], laidByText := true, laidKinds := [.data, .data, .data, .data, .pinned], laidTests := true, laidLooks := .later }
def ViewSmallUptoCardSaid : Prop := Claim7.holds Tryz.pinned (.plain (OpenSpec.upto viewSmallSpec)) viewSmallUptoCard
end Rows
end Go.Proofs.YtdgkdigdflkjhaaGreatDoor
