/-
  DERIVED. GIVEN WITH THE SEED: THE CARDS: each row of YtfelfooeclnbiaaGreatDoorRows.lean that lists a variable, with what it lists TIED to the program's text (the seventh form; the later family's looks); each row that meets fmt, with fmt's text TOLD by the authors' own Lean function (tested against real Go, not proved from fmt's source: count such statements apart). THE CARD IS WHAT COUNTS. Prove the row's statement (the work); the ties are given (YtfelfooeclnbiaaGreatDoorTie.lean); close each card by the builder's one call (the guide's Derived/Test/ToyasCard.lean, 'card_holds'). Laid BY PROGRAM, IN A SANDBOX (cutbox-door.mjs). By AI agents, Wed Nov 11 2026. No macro, syntax, notation, axiom, sorry.
-/
import Derived.Test.YtfelfooeclnbiaaGreatDoorRows
import GoSem.ClaimSeven
namespace Go.Proofs.YtfelfooeclnbiaaGreatDoor
namespace Rows

/-- THE TIED CARD OF 'recensionlaw17.ArchiveViews'. -/
def archiveViewsCard : Claim7 := { stood := { row := archiveViewsRow, standIns := [], harness := (true, "a40d99eaa7934c1f49f6e0dbb35c28bbd42a8b14fa3c13c548747bb5a22f6a40"), looks := true }, kinds := [], alts := [], laidByText := true, laidKinds := [.data, .data, .data, .data, .sentinel, .sentinel, .pinned], laidTests := true, laidLooks := .later }
def ArchiveViewsCardSaid : Prop := Claim7.holds Tryz.pinned (.plain (OpenSpec.ofChange archiveViewsSpec)) archiveViewsCard

/-- THE SECOND FORM's CARD OF 'recensionlaw17.ArchiveViews'. -/
def archiveViewsUptoCard : Claim7 := { stood := { row := archiveViewsUptoRow, standIns := [], harness := (true, "a40d99eaa7934c1f49f6e0dbb35c28bbd42a8b14fa3c13c548747bb5a22f6a40"), looks := true }, kinds := [], alts := [], laidByText := true, laidKinds := [.data, .data, .data, .data, .sentinel, .sentinel, .pinned], laidTests := true, laidLooks := .later }
def ArchiveViewsUptoCardSaid : Prop := Claim7.holds Tryz.pinned (.plain (OpenSpec.upto archiveViewsSpec)) archiveViewsUptoCard
end Rows
end Go.Proofs.YtfelfooeclnbiaaGreatDoor
