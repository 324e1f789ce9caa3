/-
  DERIVED. GIVEN WITH THE SEED: THE CARDS: each row of YthaoefcijckofaaDoorRows.lean that lists a variable, with what it lists TIED to the program's text (the seventh form; the later family's looks); each row that meets fmt, with fmt's text TOLD by the authors' own Lean function (tested against real Go, not proved from fmt's source: count such statements apart). THE CARD IS WHAT COUNTS. Prove the row's statement (the work); the ties are given (YthaoefcijckofaaDoorTie.lean); close each card by the builder's one call (the guide's Derived/Test/ToyasCard.lean, 'card_holds'). Laid BY PROGRAM, IN A SANDBOX (cutbox-door.mjs). By AI agents, Wed Nov 11 2026. No macro, syntax, notation, axiom, sorry.
-/
import Derived.Test.YthaoefcijckofaaDoorRows
import GoSem.ClaimSeven
namespace Go.Proofs.YthaoefcijckofaaDoor
namespace Rows

/-- THE TIED CARD OF 'recensionlaw05.StampTexts'. -/
def stampTextsCard : Claim7 := { stood := { row := stampTextsRow, standIns := [], harness := (true, "f9de9c76a8de30475b2c8b05dcabcf259b38426108a69a21a774b9fed072e3d0"), looks := true }, kinds := [], alts := [], laidByText := true, laidKinds := [.data, .data, .data, .data, .sentinel, .sentinel, .pinned], laidTests := true, laidLooks := .later }
def StampTextsCardSaid : Prop := Claim7.holds Tryd.pinned (.plain (OpenSpec.ofChange stampTextsSpec)) stampTextsCard

/-- THE TIED CARD OF 'recensionlaw05.StampBack'. -/
def stampBackCard : Claim7 := { stood := { row := stampBackRow, standIns := [], harness := (true, "f9de9c76a8de30475b2c8b05dcabcf259b38426108a69a21a774b9fed072e3d0"), looks := true }, kinds := [], alts := [], laidByText := true, laidKinds := [.data, .data, .data, .data, .sentinel, .sentinel, .pinned], laidTests := true, laidLooks := .later }
def StampBackCardSaid : Prop := Claim7.holds Tryd.pinned (.plain (OpenSpec.ofChange stampBackSpec)) stampBackCard

/-- THE TIED CARD OF 'recensionlaw05.StampBounds'. -/
def stampBoundsCard : Claim7 := { stood := { row := stampBoundsRow, standIns := [], harness := (true, "f9de9c76a8de30475b2c8b05dcabcf259b38426108a69a21a774b9fed072e3d0"), looks := true }, kinds := [], alts := [], laidByText := true, laidKinds := [.data, .data, .data, .data, .sentinel, .sentinel, .pinned], laidTests := true, laidLooks := .later }
def StampBoundsCardSaid : Prop := Claim7.holds Tryd.pinned (.plain (OpenSpec.ofChange stampBoundsSpec)) stampBoundsCard

/-- THE TIED CARD OF 'recensionlaw05.StampSame'. -/
def stampSameCard : Claim7 := { stood := { row := stampSameRow, standIns := [], harness := (true, "f9de9c76a8de30475b2c8b05dcabcf259b38426108a69a21a774b9fed072e3d0"), looks := true }, kinds := [], alts := [], laidByText := true, laidKinds := [.data, .data, .data, .data, .sentinel, .sentinel, .pinned], laidTests := true, laidLooks := .later }
def StampSameCardSaid : Prop := Claim7.holds Tryd.pinned (.plain (OpenSpec.ofChange stampSameSpec)) stampSameCard

/-- THE TIED CARD OF 'recensionlaw05.StampVectors'. -/
def stampVectorsCard : Claim7 := { stood := { row := stampVectorsRow, standIns := [], harness := (true, "f9de9c76a8de30475b2c8b05dcabcf259b38426108a69a21a774b9fed072e3d0"), looks := true }, kinds := [], alts := [], laidByText := true, laidKinds := [.data, .data, .data, .data, .sentinel, .sentinel, .pinned], laidTests := true, laidLooks := .later }
def StampVectorsCardSaid : Prop := Claim7.holds Tryd.pinned (.plain (OpenSpec.ofChange stampVectorsSpec)) stampVectorsCard

/-- THE TIED CARD OF 'recensionlaw07.PathnameNames'. -/
def pathnameNamesCard : Claim7 := { stood := { row := pathnameNamesRow, standIns := [], harness := (true, "f9de9c76a8de30475b2c8b05dcabcf259b38426108a69a21a774b9fed072e3d0"), looks := true }, kinds := [], alts := [], laidByText := true, laidKinds := [.data, .data, .data, .data, .sentinel, .sentinel, .pinned], laidTests := true, laidLooks := .later }
def PathnameNamesCardSaid : Prop := Claim7.holds Tryd.pinned (.plain (OpenSpec.ofChange pathnameNamesSpec)) pathnameNamesCard

/-- THE TIED CARD OF 'recensionlaw07.PathnamePaths'. -/
def pathnamePathsCard : Claim7 := { stood := { row := pathnamePathsRow, standIns := [], harness := (true, "f9de9c76a8de30475b2c8b05dcabcf259b38426108a69a21a774b9fed072e3d0"), looks := true }, kinds := [], alts := [], laidByText := true, laidKinds := [.data, .data, .data, .data, .sentinel, .sentinel, .pinned], laidTests := true, laidLooks := .later }
def PathnamePathsCardSaid : Prop := Claim7.holds Tryd.pinned (.plain (OpenSpec.ofChange pathnamePathsSpec)) pathnamePathsCard

/-- THE TIED CARD OF 'recensionlaw07.PathnameBack'. -/
def pathnameBackCard : Claim7 := { stood := { row := pathnameBackRow, standIns := [], harness := (true, "f9de9c76a8de30475b2c8b05dcabcf259b38426108a69a21a774b9fed072e3d0"), looks := true }, kinds := [], alts := [], laidByText := true, laidKinds := [.data, .data, .data, .data, .sentinel, .sentinel, .pinned], laidTests := true, laidLooks := .later }
def PathnameBackCardSaid : Prop := Claim7.holds Tryd.pinned (.plain (OpenSpec.ofChange pathnameBackSpec)) pathnameBackCard

/-- THE TIED CARD OF 'recensionlaw07.PathnameClashes'. -/
def pathnameClashesCard : Claim7 := { stood := { row := pathnameClashesRow, standIns := [], harness := (true, "f9de9c76a8de30475b2c8b05dcabcf259b38426108a69a21a774b9fed072e3d0"), looks := true }, kinds := [], alts := [], laidByText := true, laidKinds := [.data, .data, .data, .data, .sentinel, .sentinel, .pinned], laidTests := true, laidLooks := .later }
def PathnameClashesCardSaid : Prop := Claim7.holds Tryd.pinned (.plain (OpenSpec.ofChange pathnameClashesSpec)) pathnameClashesCard

/-- THE TIED CARD OF 'recensionlaw17.ArchiveBack'. -/
def archiveBackCard : Claim7 := { stood := { row := archiveBackRow, standIns := [], harness := (true, "f9de9c76a8de30475b2c8b05dcabcf259b38426108a69a21a774b9fed072e3d0"), looks := true }, kinds := [], alts := [], laidByText := true, laidKinds := [.data, .data, .data, .data, .sentinel, .sentinel, .pinned], laidTests := true, laidLooks := .later }
def ArchiveBackCardSaid : Prop := Claim7.holds Tryd.pinned (.plain (OpenSpec.ofChange archiveBackSpec)) archiveBackCard

/-- THE SECOND FORM's CARD OF 'recensionlaw05.StampTexts'. -/
def stampTextsUptoCard : Claim7 := { stood := { row := stampTextsUptoRow, standIns := [], harness := (true, "f9de9c76a8de30475b2c8b05dcabcf259b38426108a69a21a774b9fed072e3d0"), looks := true }, kinds := [], alts := [], laidByText := true, laidKinds := [.data, .data, .data, .data, .sentinel, .sentinel, .pinned], laidTests := true, laidLooks := .later }
def StampTextsUptoCardSaid : Prop := Claim7.holds Tryd.pinned (.plain (OpenSpec.upto stampTextsSpec)) stampTextsUptoCard

/-- THE SECOND FORM's CARD OF 'recensionlaw05.StampBack'. -/
def stampBackUptoCard : Claim7 := { stood := { row := stampBackUptoRow, standIns := [], harness := (true, "f9de9c76a8de30475b2c8b05dcabcf259b38426108a69a21a774b9fed072e3d0"), looks := true }, kinds := [], alts := [], laidByText := true, laidKinds := [.data, .data, .data, .data, .sentinel, .sentinel, .pinned], laidTests := true, laidLooks := .later }
def StampBackUptoCardSaid : Prop := Claim7.holds Tryd.pinned (.plain (OpenSpec.upto stampBackSpec)) stampBackUptoCard

/-- THE SECOND FORM's CARD OF 'recensionlaw05.StampBounds'. -/
def stampBoundsUptoCard : Claim7 := { stood := { row := stampBoundsUptoRow, standIns := [], harness := (true, "f9de9c76a8de30475b2c8b05dcabcf259b38426108a69a21a774b9fed072e3d0"), looks := true }, kinds := [], alts := [], laidByText := true, laidKinds := [.data, .data, .data, .data, .sentinel, .sentinel, .pinned], laidTests := true, laidLooks := .later }
def StampBoundsUptoCardSaid : Prop := Claim7.holds Tryd.pinned (.plain (OpenSpec.upto stampBoundsSpec)) stampBoundsUptoCard

/-- THE SECOND FORM's CARD OF 'recensionlaw05.StampSame'. -/
def stampSameUptoCard : Claim7 := { stood := { row := stampSameUptoRow, standIns := [], harness := (true, "f9de9c76a8de30475b2c8b05dcabcf259b38426108a69a21a774b9fed072e3d0"), looks := true }, kinds := [], alts := [], laidByText := true, laidKinds := [.data, .data, .data, .data, .sentinel, .sentinel, .pinned], laidTests := true, laidLooks := .later }
def StampSameUptoCardSaid : Prop := Claim7.holds Tryd.pinned (.plain (OpenSpec.upto stampSameSpec)) stampSameUptoCard

/-- THE SECOND FORM's CARD OF 'recensionlaw05.StampVectors'. -/
def stampVectorsUptoCard : Claim7 := { stood := { row := stampVectorsUptoRow, standIns := [], harness := (true, "f9de9c76a8de30475b2c8b05dcabcf259b38426108a69a21a774b9fed072e3d0"), looks := true }, kinds := [], alts := [], laidByText := true, laidKinds := [.data, .data, .data, .data, .sentinel, .sentinel, .pinned], laidTests := true, laidLooks := .later }
def StampVectorsUptoCardSaid : Prop := Claim7.holds Tryd.pinned (.plain (OpenSpec.upto stampVectorsSpec)) stampVectorsUptoCard

/-- THE SECOND FORM's CARD OF 'recensionlaw07.PathnameNames'. -/
def pathnameNamesUptoCard : Claim7 := { stood := { row := pathnameNamesUptoRow, standIns := [], harness := (true, "f9de9c76a8de30475b2c8b05dcabcf259b38426108a69a21a774b9fed072e3d0"), looks := true }, kinds := [], alts := [], laidByText := true, laidKinds := [.data, .data, .data, .data, .sentinel, .sentinel, .pinned], laidTests := true, laidLooks := .later }
def PathnameNamesUptoCardSaid : Prop := Claim7.holds Tryd.pinned (.plain (OpenSpec.upto pathnameNamesSpec)) pathnameNamesUptoCard

/-- THE SECOND FORM's CARD OF 'recensionlaw07.PathnamePaths'. -/
def pathnamePathsUptoCard : Claim7 := { stood := { row := pathnamePathsUptoRow, standIns := [], harness := (true, "f9de9c76a8de30475b2c8b05dcabcf259b38426108a69a21a774b9fed072e3d0"), looks := true }, kinds := [], alts := [], laidByText := true, laidKinds := [.data, .data, .data, .data, .sentinel, .sentinel, .pinned], laidTests := true, laidLooks := .later }
def PathnamePathsUptoCardSaid : Prop := Claim7.holds Tryd.pinned (.plain (OpenSpec.upto pathnamePathsSpec)) pathnamePathsUptoCard

/-- THE SECOND FORM's CARD OF 'recensionlaw07.PathnameBack'. -/
def pathnameBackUptoCard : Claim7 := { stood := { row := pathnameBackUptoRow, standIns := [], harness := (true, "f9de9c76a8de30475b2c8b05dcabcf259b38426108a69a21a774b9fed072e3d0"), looks := true }, kinds := [], alts := [], laidByText := true, laidKinds := [.data, .data, .data, .data, .sentinel, .sentinel, .pinned], laidTests := true, laidLooks := .later }
def PathnameBackUptoCardSaid : Prop := Claim7.holds Tryd.pinned (.plain (OpenSpec.upto pathnameBackSpec)) pathnameBackUptoCard

/-- THE SECOND FORM's CARD OF 'recensionlaw07.PathnameClashes'. -/
def pathnameClashesUptoCard : Claim7 := { stood := { row := pathnameClashesUptoRow, standIns := [], harness := (true, "f9de9c76a8de30475b2c8b05dcabcf259b38426108a69a21a774b9fed072e3d0"), looks := true }, kinds := [], alts := [], laidByText := true, laidKinds := [.data, .data, .data, .data, .sentinel, .sentinel, .pinned], laidTests := true, laidLooks := .later }
def PathnameClashesUptoCardSaid : Prop := Claim7.holds Tryd.pinned (.plain (OpenSpec.upto pathnameClashesSpec)) pathnameClashesUptoCard

/-- THE SECOND FORM's CARD OF 'recensionlaw17.ArchiveBack'. -/
def archiveBackUptoCard : Claim7 := { stood := { row := archiveBackUptoRow, standIns := [], harness := (true, "f9de9c76a8de30475b2c8b05dcabcf259b38426108a69a21a774b9fed072e3d0"), looks := true }, kinds := [], alts := [], laidByText := true, laidKinds := [.data, .data, .data, .data, .sentinel, .sentinel, .pinned], laidTests := true, laidLooks := .later }
def ArchiveBackUptoCardSaid : Prop := Claim7.holds Tryd.pinned (.plain (OpenSpec.upto archiveBackSpec)) archiveBackUptoCard
end Rows
end Go.Proofs.YthaoefcijckofaaDoor
