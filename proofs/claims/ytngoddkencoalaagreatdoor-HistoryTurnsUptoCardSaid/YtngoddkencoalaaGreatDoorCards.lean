/-
  DERIVED. GIVEN WITH THE SEED: THE CARDS: each row of YtngoddkencoalaaGreatDoorRows.lean that lists a variable, with what it lists TIED to the program's text (the seventh form; the later family's looks); each row that meets fmt, with fmt's text TOLD by the authors' own Lean function (tested against real Go, not proved from fmt's source: count such statements apart). THE CARD IS WHAT COUNTS. Prove the row's statement (the work); the ties are given (YtngoddkencoalaaGreatDoorTie.lean); close each card by the builder's one call (the guide's Derived/Test/ToyasCard.lean, 'card_holds'). Laid BY PROGRAM, IN A SANDBOX (cutbox-door.mjs). By AI agents, Wed Nov 11 2026. No macro, syntax, notation, axiom, sorry.
-/
import Derived.Test.YtngoddkencoalaaGreatDoorRows
import GoSem.ClaimSeven
namespace Go.Proofs.YtngoddkencoalaaGreatDoor
namespace Rows

/-- THE TIED CARD OF 'recensionlaw20.HistoryAny'. -/
def historyAnyCard : Claim7 := { stood := { row := historyAnyRow, standIns := [], harness := (true, "264adaf13f57e276748cb0d74e56198ae19cf09491782a7a9721014bc23c5865"), looks := false }, kinds := [], alts := [], laidByText := true, laidKinds := [.data, .pinned], laidTests := true, laidLooks := .later }
def HistoryAnyCardSaid : Prop := Claim7.holds Tryz.pinned (.plain (OpenSpec.ofChange historyAnySpec)) historyAnyCard

/-- THE TIED CARD OF 'recensionlaw20.HistorySmall'. -/
def historySmallCard : Claim7 := { stood := { row := historySmallRow, standIns := [], harness := (true, "264adaf13f57e276748cb0d74e56198ae19cf09491782a7a9721014bc23c5865"), looks := false }, kinds := [], alts := [], laidByText := true, laidKinds := [.data, .pinned], laidTests := true, laidLooks := .later }
def HistorySmallCardSaid : Prop := Claim7.holds Tryz.pinned (.plain (OpenSpec.ofChange historySmallSpec)) historySmallCard

/-- THE TIED CARD OF 'recensionlaw20.HistoryNext'. -/
def historyNextCard : Claim7 := { stood := { row := historyNextRow, standIns := [], harness := (true, "264adaf13f57e276748cb0d74e56198ae19cf09491782a7a9721014bc23c5865"), looks := false }, kinds := [], alts := [], laidByText := true, laidKinds := [.data, .pinned], laidTests := true, laidLooks := .later }
def HistoryNextCardSaid : Prop := Claim7.holds Tryz.pinned (.plain (OpenSpec.ofChange historyNextSpec)) historyNextCard

/-- THE TIED CARD OF 'recensionlaw20.HistoryTurns'. -/
def historyTurnsCard : Claim7 := { stood := { row := historyTurnsRow, standIns := [], harness := (true, "264adaf13f57e276748cb0d74e56198ae19cf09491782a7a9721014bc23c5865"), looks := false }, kinds := [], alts := [], laidByText := true, laidKinds := [.data, .pinned], laidTests := true, laidLooks := .later }
def HistoryTurnsCardSaid : Prop := Claim7.holds Tryz.pinned (.plain (OpenSpec.ofChange historyTurnsSpec)) historyTurnsCard

/-- THE TIED CARD OF 'recensionlaw20.HistoryNew'. -/
def historyNewCard : Claim7 := { stood := { row := historyNewRow, standIns := [], harness := (true, "264adaf13f57e276748cb0d74e56198ae19cf09491782a7a9721014bc23c5865"), looks := false }, kinds := [], alts := [], laidByText := true, laidKinds := [.data, .pinned], laidTests := true, laidLooks := .later }
def HistoryNewCardSaid : Prop := Claim7.holds Tryz.pinned (.plain (OpenSpec.ofChange historyNewSpec)) historyNewCard

/-- THE SECOND FORM's CARD OF 'recensionlaw20.HistoryAny'. -/
def historyAnyUptoCard : Claim7 := { stood := { row := historyAnyUptoRow, standIns := [], harness := (true, "264adaf13f57e276748cb0d74e56198ae19cf09491782a7a9721014bc23c5865"), looks := false }, kinds := [], alts := [], laidByText := true, laidKinds := [.data, .pinned], laidTests := true, laidLooks := .later }
def HistoryAnyUptoCardSaid : Prop := Claim7.holds Tryz.pinned (.plain (OpenSpec.upto historyAnySpec)) historyAnyUptoCard

/-- THE SECOND FORM's CARD OF 'recensionlaw20.HistorySmall'. -/
def historySmallUptoCard : Claim7 := { stood := { row := historySmallUptoRow, standIns := [], harness := (true, "264adaf13f57e276748cb0d74e56198ae19cf09491782a7a9721014bc23c5865"), looks := false }, kinds := [], alts := [], laidByText := true, laidKinds := [.data, .pinned], laidTests := true, laidLooks := .later }
def HistorySmallUptoCardSaid : Prop := Claim7.holds Tryz.pinned (.plain (OpenSpec.upto historySmallSpec)) historySmallUptoCard

/-- THE SECOND FORM's CARD OF 'recensionlaw20.HistoryNext'. -/
def historyNextUptoCard : Claim7 := { stood := { row := historyNextUptoRow, standIns := [], harness := (true, "264adaf13f57e276748cb0d74e56198ae19cf09491782a7a9721014bc23c5865"), looks := false }, kinds := [], alts := [], laidByText := true, laidKinds := [.data, .pinned], laidTests := true, laidLooks := .later }
def HistoryNextUptoCardSaid : Prop := Claim7.holds Tryz.pinned (.plain (OpenSpec.upto historyNextSpec)) historyNextUptoCard

/-- THE SECOND FORM's CARD OF 'recensionlaw20.HistoryTurns'. -/
def historyTurnsUptoCard : Claim7 := { stood := { row := historyTurnsUptoRow, standIns := [], harness := (true, "264adaf13f57e276748cb0d74e56198ae19cf09491782a7a9721014bc23c5865"), looks := false }, kinds := [], alts := [], laidByText := true, laidKinds := [.data, .pinned], laidTests := true, laidLooks := .later }
def HistoryTurnsUptoCardSaid : Prop := Claim7.holds Tryz.pinned (.plain (OpenSpec.upto historyTurnsSpec)) historyTurnsUptoCard

/-- THE SECOND FORM's CARD OF 'recensionlaw20.HistoryNew'. -/
def historyNewUptoCard : Claim7 := { stood := { row := historyNewUptoRow, standIns := [], harness := (true, "264adaf13f57e276748cb0d74e56198ae19cf09491782a7a9721014bc23c5865"), looks := false }, kinds := [], alts := [], laidByText := true, laidKinds := [.data, .pinned], laidTests := true, laidLooks := .later }
def HistoryNewUptoCardSaid : Prop := Claim7.holds Tryz.pinned (.plain (OpenSpec.upto historyNewSpec)) historyNewUptoCard
end Rows
end Go.Proofs.YtngoddkencoalaaGreatDoor
