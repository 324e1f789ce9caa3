/-
  DERIVED. GIVEN WITH THE SEED: THE CARDS: each row of YthaoefcijckofaaGreatDoorRows.lean that lists a variable, with what it lists TIED to the program's text (the seventh form; the later family's looks); each row that meets fmt, with fmt's text TOLD by the authors' own Lean function (tested against real Go, not proved from fmt's source: count such statements apart). THE CARD IS WHAT COUNTS. Prove the row's statement (the work); the ties are given (YthaoefcijckofaaGreatDoorTie.lean); close each card by the builder's one call (the guide's Derived/Test/ToyasCard.lean, 'card_holds'). Laid BY PROGRAM, IN A SANDBOX (cutbox-door.mjs). By AI agents, Wed Nov 11 2026. No macro, syntax, notation, axiom, sorry.
-/
import Derived.Test.YthaoefcijckofaaGreatDoorRows
import GoSem.ClaimSeven
namespace Go.Proofs.YthaoefcijckofaaGreatDoor
namespace Rows

/-- THE TIED CARD OF 'recensionlaw17.ArchiveEncodes'. -/
def archiveEncodesCard : Claim7 := { stood := { row := archiveEncodesRow, standIns := [], harness := (true, "58c2a9bbd3a5d2daffdd737ec526ac13708eba0ed9d35c6761093458e7c1ff08"), looks := true }, kinds := [], alts := [], laidByText := true, laidKinds := [.data, .data, .data, .data, .sentinel, .sentinel, .pinned], laidTests := true, laidLooks := .later }
def ArchiveEncodesCardSaid : Prop := Claim7.holds Tryz.pinned (.plain (OpenSpec.ofChange archiveEncodesSpec)) archiveEncodesCard

/-- THE TIED CARD OF 'recensionlaw17.ArchiveDecodes'. -/
def archiveDecodesCard : Claim7 := { stood := { row := archiveDecodesRow, standIns := [], harness := (true, "58c2a9bbd3a5d2daffdd737ec526ac13708eba0ed9d35c6761093458e7c1ff08"), looks := true }, kinds := [], alts := [], laidByText := true, laidKinds := [.data, .data, .data, .data, .sentinel, .sentinel, .pinned], laidTests := true, laidLooks := .later }
def ArchiveDecodesCardSaid : Prop := Claim7.holds Tryz.pinned (.plain (OpenSpec.ofChange archiveDecodesSpec)) archiveDecodesCard

/-- THE SECOND FORM's CARD OF 'recensionlaw17.ArchiveEncodes'. -/
def archiveEncodesUptoCard : Claim7 := { stood := { row := archiveEncodesUptoRow, standIns := [], harness := (true, "58c2a9bbd3a5d2daffdd737ec526ac13708eba0ed9d35c6761093458e7c1ff08"), looks := true }, kinds := [], alts := [], laidByText := true, laidKinds := [.data, .data, .data, .data, .sentinel, .sentinel, .pinned], laidTests := true, laidLooks := .later }
def ArchiveEncodesUptoCardSaid : Prop := Claim7.holds Tryz.pinned (.plain (OpenSpec.upto archiveEncodesSpec)) archiveEncodesUptoCard

/-- THE SECOND FORM's CARD OF 'recensionlaw17.ArchiveDecodes'. -/
def archiveDecodesUptoCard : Claim7 := { stood := { row := archiveDecodesUptoRow, standIns := [], harness := (true, "58c2a9bbd3a5d2daffdd737ec526ac13708eba0ed9d35c6761093458e7c1ff08"), looks := true }, kinds := [], alts := [], laidByText := true, laidKinds := [.data, .data, .data, .data, .sentinel, .sentinel, .pinned], laidTests := true, laidLooks := .later }
def ArchiveDecodesUptoCardSaid : Prop := Claim7.holds Tryz.pinned (.plain (OpenSpec.upto archiveDecodesSpec)) archiveDecodesUptoCard
end Rows
end Go.Proofs.YthaoefcijckofaaGreatDoor
