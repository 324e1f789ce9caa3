/-
  DERIVED. GIVEN WITH THE SEED: THE CARDS: each row of YtgkbhgcgnjdnnaaDoorRows.lean that lists a variable, with what it lists TIED to the program's text (the seventh form; the later family's looks); each row that meets fmt, with fmt's text TOLD by the authors' own Lean function (tested against real Go, not proved from fmt's source: count such statements apart). THE CARD IS WHAT COUNTS. Prove the row's statement (the work); the ties are given (YtgkbhgcgnjdnnaaDoorTie.lean); close each card by the builder's one call (the guide's Derived/Test/ToyasCard.lean, 'card_holds'). Laid BY PROGRAM, IN A SANDBOX (cutbox-door.mjs). By AI agents, Wed Nov 11 2026. No macro, syntax, notation, axiom, sorry.
-/
import Derived.Test.YtgkbhgcgnjdnnaaDoorRows
import GoSem.ClaimSeven
namespace Go.Proofs.YtgkbhgcgnjdnnaaDoor
namespace Rows

/-- THE TIED CARD OF 'recensionlaw05.StampTexts'. -/
def stampTextsCard : Claim7 := { stood := { row := stampTextsRow, standIns := [], harness := (true, "d6923e4ed379cb68bae6e953917814b1658dc5e0e9da2f326a0190d30627099e"), looks := true }, kinds := [], alts := [], laidByText := true, laidKinds := [.data, .data, .data, .data, .sentinel, .sentinel, .pinned], laidTests := true, laidLooks := .later }
def StampTextsCardSaid : Prop := Claim7.holds Tryd.pinned (.plain (OpenSpec.ofChange stampTextsSpec)) stampTextsCard

/-- THE TIED CARD OF 'recensionlaw05.StampBack'. -/
def stampBackCard : Claim7 := { stood := { row := stampBackRow, standIns := [], harness := (true, "d6923e4ed379cb68bae6e953917814b1658dc5e0e9da2f326a0190d30627099e"), looks := true }, kinds := [], alts := [], laidByText := true, laidKinds := [.data, .data, .data, .data, .sentinel, .sentinel, .pinned], laidTests := true, laidLooks := .later }
def StampBackCardSaid : Prop := Claim7.holds Tryd.pinned (.plain (OpenSpec.ofChange stampBackSpec)) stampBackCard

/-- THE TIED CARD OF 'recensionlaw05.StampBounds'. -/
def stampBoundsCard : Claim7 := { stood := { row := stampBoundsRow, standIns := [], harness := (true, "d6923e4ed379cb68bae6e953917814b1658dc5e0e9da2f326a0190d30627099e"), looks := true }, kinds := [], alts := [], laidByText := true, laidKinds := [.data, .data, .data, .data, .sentinel, .sentinel, .pinned], laidTests := true, laidLooks := .later }
def StampBoundsCardSaid : Prop := Claim7.holds Tryd.pinned (.plain (OpenSpec.ofChange stampBoundsSpec)) stampBoundsCard

/-- THE TIED CARD OF 'recensionlaw05.StampSame'. -/
def stampSameCard : Claim7 := { stood := { row := stampSameRow, standIns := [], harness := (true, "d6923e4ed379cb68bae6e953917814b1658dc5e0e9da2f326a0190d30627099e"), looks := true }, kinds := [], alts := [], laidByText := true, laidKinds := [.data, .data, .data, .data, .sentinel, .sentinel, .pinned], laidTests := true, laidLooks := .later }
def StampSameCardSaid : Prop := Claim7.holds Tryd.pinned (.plain (OpenSpec.ofChange stampSameSpec)) stampSameCard

/-- THE TIED CARD OF 'recensionlaw05.StampVectors'. -/
def stampVectorsCard : Claim7 := { stood := { row := stampVectorsRow, standIns := [], harness := (true, "d6923e4ed379cb68bae6e953917814b1658dc5e0e9da2f326a0190d30627099e"), looks := true }, kinds := [], alts := [], laidByText := true, laidKinds := [.data, .data, .data, .data, .sentinel, .sentinel, .pinned], laidTests := true, laidLooks := .later }
def StampVectorsCardSaid : Prop := Claim7.holds Tryd.pinned (.plain (OpenSpec.ofChange stampVectorsSpec)) stampVectorsCard

/-- THE TIED CARD OF 'recensionlaw05.StampCmps'. -/
def stampCmpsCard : Claim7 := { stood := { row := stampCmpsRow, standIns := [], harness := (true, "d6923e4ed379cb68bae6e953917814b1658dc5e0e9da2f326a0190d30627099e"), looks := true }, kinds := [], alts := [], laidByText := true, laidKinds := [.data, .data, .data, .data, .sentinel, .sentinel, .pinned], laidTests := true, laidLooks := .later }
def StampCmpsCardSaid : Prop := Claim7.holds Tryd.pinned (.plain (OpenSpec.ofChange stampCmpsSpec)) stampCmpsCard

/-- THE TIED CARD OF 'recensionlaw05.StampOrder'. -/
def stampOrderCard : Claim7 := { stood := { row := stampOrderRow, standIns := [], harness := (true, "d6923e4ed379cb68bae6e953917814b1658dc5e0e9da2f326a0190d30627099e"), looks := true }, kinds := [], alts := [], laidByText := true, laidKinds := [.data, .data, .data, .data, .sentinel, .sentinel, .pinned], laidTests := true, laidLooks := .later }
def StampOrderCardSaid : Prop := Claim7.holds Tryd.pinned (.plain (OpenSpec.ofChange stampOrderSpec)) stampOrderCard

/-- THE SECOND FORM's CARD OF 'recensionlaw05.StampTexts'. -/
def stampTextsUptoCard : Claim7 := { stood := { row := stampTextsUptoRow, standIns := [], harness := (true, "d6923e4ed379cb68bae6e953917814b1658dc5e0e9da2f326a0190d30627099e"), looks := true }, kinds := [], alts := [], laidByText := true, laidKinds := [.data, .data, .data, .data, .sentinel, .sentinel, .pinned], laidTests := true, laidLooks := .later }
def StampTextsUptoCardSaid : Prop := Claim7.holds Tryd.pinned (.plain (OpenSpec.upto stampTextsSpec)) stampTextsUptoCard

/-- THE SECOND FORM's CARD OF 'recensionlaw05.StampBack'. -/
def stampBackUptoCard : Claim7 := { stood := { row := stampBackUptoRow, standIns := [], harness := (true, "d6923e4ed379cb68bae6e953917814b1658dc5e0e9da2f326a0190d30627099e"), looks := true }, kinds := [], alts := [], laidByText := true, laidKinds := [.data, .data, .data, .data, .sentinel, .sentinel, .pinned], laidTests := true, laidLooks := .later }
def StampBackUptoCardSaid : Prop := Claim7.holds Tryd.pinned (.plain (OpenSpec.upto stampBackSpec)) stampBackUptoCard

/-- THE SECOND FORM's CARD OF 'recensionlaw05.StampBounds'. -/
def stampBoundsUptoCard : Claim7 := { stood := { row := stampBoundsUptoRow, standIns := [], harness := (true, "d6923e4ed379cb68bae6e953917814b1658dc5e0e9da2f326a0190d30627099e"), looks := true }, kinds := [], alts := [], laidByText := true, laidKinds := [.data, .data, .data, .data, .sentinel, .sentinel, .pinned], laidTests := true, laidLooks := .later }
def StampBoundsUptoCardSaid : Prop := Claim7.holds Tryd.pinned (.plain (OpenSpec.upto stampBoundsSpec)) stampBoundsUptoCard

/-- THE SECOND FORM's CARD OF 'recensionlaw05.StampSame'. -/
def stampSameUptoCard : Claim7 := { stood := { row := stampSameUptoRow, standIns := [], harness := (true, "d6923e4ed379cb68bae6e953917814b1658dc5e0e9da2f326a0190d30627099e"), looks := true }, kinds := [], alts := [], laidByText := true, laidKinds := [.data, .data, .data, .data, .sentinel, .sentinel, .pinned], laidTests := true, laidLooks := .later }
def StampSameUptoCardSaid : Prop := Claim7.holds Tryd.pinned (.plain (OpenSpec.upto stampSameSpec)) stampSameUptoCard

/-- THE SECOND FORM's CARD OF 'recensionlaw05.StampVectors'. -/
def stampVectorsUptoCard : Claim7 := { stood := { row := stampVectorsUptoRow, standIns := [], harness := (true, "d6923e4ed379cb68bae6e953917814b1658dc5e0e9da2f326a0190d30627099e"), looks := true }, kinds := [], alts := [], laidByText := true, laidKinds := [.data, .data, .data, .data, .sentinel, .sentinel, .pinned], laidTests := true, laidLooks := .later }
def StampVectorsUptoCardSaid : Prop := Claim7.holds Tryd.pinned (.plain (OpenSpec.upto stampVectorsSpec)) stampVectorsUptoCard

/-- THE SECOND FORM's CARD OF 'recensionlaw05.StampCmps'. -/
def stampCmpsUptoCard : Claim7 := { stood := { row := stampCmpsUptoRow, standIns := [], harness := (true, "d6923e4ed379cb68bae6e953917814b1658dc5e0e9da2f326a0190d30627099e"), looks := true }, kinds := [], alts := [], laidByText := true, laidKinds := [.data, .data, .data, .data, .sentinel, .sentinel, .pinned], laidTests := true, laidLooks := .later }
def StampCmpsUptoCardSaid : Prop := Claim7.holds Tryd.pinned (.plain (OpenSpec.upto stampCmpsSpec)) stampCmpsUptoCard

/-- THE SECOND FORM's CARD OF 'recensionlaw05.StampOrder'. -/
def stampOrderUptoCard : Claim7 := { stood := { row := stampOrderUptoRow, standIns := [], harness := (true, "d6923e4ed379cb68bae6e953917814b1658dc5e0e9da2f326a0190d30627099e"), looks := true }, kinds := [], alts := [], laidByText := true, laidKinds := [.data, .data, .data, .data, .sentinel, .sentinel, .pinned], laidTests := true, laidLooks := .later }
def StampOrderUptoCardSaid : Prop := Claim7.holds Tryd.pinned (.plain (OpenSpec.upto stampOrderSpec)) stampOrderUptoCard
end Rows
end Go.Proofs.YtgkbhgcgnjdnnaaDoor
