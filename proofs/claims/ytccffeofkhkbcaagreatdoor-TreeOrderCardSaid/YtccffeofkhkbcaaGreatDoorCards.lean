/-
  DERIVED. GIVEN WITH THE SEED: THE CARDS: each row of YtccffeofkhkbcaaGreatDoorRows.lean that lists a variable, with what it lists TIED to the program's text (the seventh form; the later family's looks); each row that meets fmt, with fmt's text TOLD by the authors' own Lean function (tested against real Go, not proved from fmt's source: count such statements apart). THE CARD IS WHAT COUNTS. Prove the row's statement (the work); the ties are given (YtccffeofkhkbcaaGreatDoorTie.lean); close each card by the builder's one call (the guide's Derived/Test/ToyasCard.lean, 'card_holds'). Laid BY PROGRAM, IN A SANDBOX (cutbox-door.mjs). By AI agents, Wed Nov 11 2026. No macro, syntax, notation, axiom, sorry.
-/
import Derived.Test.YtccffeofkhkbcaaGreatDoorRows
import GoSem.ClaimSeven
namespace Go.Proofs.YtccffeofkhkbcaaGreatDoor
namespace Rows

/-- THE TIED CARD OF 'recensionlaw15.TreeItems'. -/
def treeItemsCard : Claim7 := { stood := { row := treeItemsRow, standIns := [], harness := (true, "99a6f769837edadae92aa23a4a561f32a8ecb0e2f292d6de4b6492bcb07811ac"), looks := false }, kinds := [], alts := [], laidByText := true, laidKinds := [.data, .data, .data, .data, .pinned], laidTests := true, laidLooks := .later }
def TreeItemsCardSaid : Prop := Claim7.holds Tryz.pinned (.plain (OpenSpec.ofChange treeItemsSpec)) treeItemsCard

/-- THE TIED CARD OF 'recensionlaw15.TreeFinds'. -/
def treeFindsCard : Claim7 := { stood := { row := treeFindsRow, standIns := [], harness := (true, "99a6f769837edadae92aa23a4a561f32a8ecb0e2f292d6de4b6492bcb07811ac"), looks := false }, kinds := [], alts := [], laidByText := true, laidKinds := [.data, .data, .data, .data, .pinned], laidTests := true, laidLooks := .later }
def TreeFindsCardSaid : Prop := Claim7.holds Tryz.pinned (.plain (OpenSpec.ofChange treeFindsSpec)) treeFindsCard

/-- THE TIED CARD OF 'recensionlaw15.TreeSmall'. -/
def treeSmallCard : Claim7 := { stood := { row := treeSmallRow, standIns := [], harness := (true, "99a6f769837edadae92aa23a4a561f32a8ecb0e2f292d6de4b6492bcb07811ac"), looks := false }, kinds := [], alts := [], laidByText := true, laidKinds := [.data, .data, .data, .data, .pinned], laidTests := true, laidLooks := .later }
def TreeSmallCardSaid : Prop := Claim7.holds Tryz.pinned (.plain (OpenSpec.ofChange treeSmallSpec)) treeSmallCard

/-- THE TIED CARD OF 'recensionlaw15.TreePaths'. -/
def treePathsCard : Claim7 := { stood := { row := treePathsRow, standIns := [], harness := (true, "99a6f769837edadae92aa23a4a561f32a8ecb0e2f292d6de4b6492bcb07811ac"), looks := false }, kinds := [], alts := [], laidByText := true, laidKinds := [.data, .data, .data, .data, .pinned], laidTests := true, laidLooks := .later }
def TreePathsCardSaid : Prop := Claim7.holds Tryz.pinned (.plain (OpenSpec.ofChange treePathsSpec)) treePathsCard

/-- THE TIED CARD OF 'recensionlaw15.TreePathsSmall'. -/
def treePathsSmallCard : Claim7 := { stood := { row := treePathsSmallRow, standIns := [], harness := (true, "99a6f769837edadae92aa23a4a561f32a8ecb0e2f292d6de4b6492bcb07811ac"), looks := false }, kinds := [], alts := [], laidByText := true, laidKinds := [.data, .data, .data, .data, .pinned], laidTests := true, laidLooks := .later }
def TreePathsSmallCardSaid : Prop := Claim7.holds Tryz.pinned (.plain (OpenSpec.ofChange treePathsSmallSpec)) treePathsSmallCard

/-- THE TIED CARD OF 'recensionlaw15.TreeOrder'. -/
def treeOrderCard : Claim7 := { stood := { row := treeOrderRow, standIns := [], harness := (true, "99a6f769837edadae92aa23a4a561f32a8ecb0e2f292d6de4b6492bcb07811ac"), looks := false }, kinds := [], alts := [], laidByText := true, laidKinds := [.data, .data, .data, .data, .pinned], laidTests := true, laidLooks := .later }
def TreeOrderCardSaid : Prop := Claim7.holds Tryz.pinned (.plain (OpenSpec.ofChange treeOrderSpec)) treeOrderCard

/-- THE TIED CARD OF 'recensionlaw15.TreeClash'. -/
def treeClashCard : Claim7 := { stood := { row := treeClashRow, standIns := [], harness := (true, "99a6f769837edadae92aa23a4a561f32a8ecb0e2f292d6de4b6492bcb07811ac"), looks := false }, kinds := [], alts := [], laidByText := true, laidKinds := [.data, .data, .data, .data, .pinned], laidTests := true, laidLooks := .later }
def TreeClashCardSaid : Prop := Claim7.holds Tryz.pinned (.plain (OpenSpec.ofChange treeClashSpec)) treeClashCard

/-- THE SECOND FORM's CARD OF 'recensionlaw15.TreeItems'. -/
def treeItemsUptoCard : Claim7 := { stood := { row := treeItemsUptoRow, standIns := [], harness := (true, "99a6f769837edadae92aa23a4a561f32a8ecb0e2f292d6de4b6492bcb07811ac"), looks := false }, kinds := [], alts := [], laidByText := true, laidKinds := [.data, .data, .data, .data, .pinned], laidTests := true, laidLooks := .later }
def TreeItemsUptoCardSaid : Prop := Claim7.holds Tryz.pinned (.plain (OpenSpec.upto treeItemsSpec)) treeItemsUptoCard

/-- THE SECOND FORM's CARD OF 'recensionlaw15.TreeFinds'. -/
def treeFindsUptoCard : Claim7 := { stood := { row := treeFindsUptoRow, standIns := [], harness := (true, "99a6f769837edadae92aa23a4a561f32a8ecb0e2f292d6de4b6492bcb07811ac"), looks := false }, kinds := [], alts := [], laidByText := true, laidKinds := [.data, .data, .data, .data, .pinned], laidTests := true, laidLooks := .later }
def TreeFindsUptoCardSaid : Prop := Claim7.holds Tryz.pinned (.plain (OpenSpec.upto treeFindsSpec)) treeFindsUptoCard

/-- THE SECOND FORM's CARD OF 'recensionlaw15.TreeSmall'. -/
def treeSmallUptoCard : Claim7 := { stood := { row := treeSmallUptoRow, standIns := [], harness := (true, "99a6f769837edadae92aa23a4a561f32a8ecb0e2f292d6de4b6492bcb07811ac"), looks := false }, kinds := [], alts := [], laidByText := true, laidKinds := [.data, .data, .data, .data, .pinned], laidTests := true, laidLooks := .later }
def TreeSmallUptoCardSaid : Prop := Claim7.holds Tryz.pinned (.plain (OpenSpec.upto treeSmallSpec)) treeSmallUptoCard

/-- THE SECOND FORM's CARD OF 'recensionlaw15.TreePaths'. -/
def treePathsUptoCard : Claim7 := { stood := { row := treePathsUptoRow, standIns := [], harness := (true, "99a6f769837edadae92aa23a4a561f32a8ecb0e2f292d6de4b6492bcb07811ac"), looks := false }, kinds := [], alts := [], laidByText := true, laidKinds := [.data, .data, .data, .data, .pinned], laidTests := true, laidLooks := .later }
def TreePathsUptoCardSaid : Prop := Claim7.holds Tryz.pinned (.plain (OpenSpec.upto treePathsSpec)) treePathsUptoCard

/-- THE SECOND FORM's CARD OF 'recensionlaw15.TreePathsSmall'. -/
def treePathsSmallUptoCard : Claim7 := { stood := { row := treePathsSmallUptoRow, standIns := [], harness := (true, "99a6f769837edadae92aa23a4a561f32a8ecb0e2f292d6de4b6492bcb07811ac"), looks := false }, kinds := [], alts := [], laidByText := true, laidKinds := [.data, .data, .data, .data, .pinned], laidTests := true, laidLooks := .later }
def TreePathsSmallUptoCardSaid : Prop := Claim7.holds Tryz.pinned (.plain (OpenSpec.upto treePathsSmallSpec)) treePathsSmallUptoCard

/-- THE SECOND FORM's CARD OF 'recensionlaw15.TreeOrder'. -/
def treeOrderUptoCard : Claim7 := { stood := { row := treeOrderUptoRow, standIns := [], harness := (true, "99a6f769837edadae92aa23a4a561f32a8ecb0e2f292d6de4b6492bcb07811ac"), looks := false }, kinds := [], alts := [], laidByText := true, laidKinds := [.data, .data, .data, .data, .pinned], laidTests := true, laidLooks := .later }
def TreeOrderUptoCardSaid : Prop := Claim7.holds Tryz.pinned (.plain (OpenSpec.upto treeOrderSpec)) treeOrderUptoCard

/-- THE SECOND FORM's CARD OF 'recensionlaw15.TreeClash'. -/
def treeClashUptoCard : Claim7 := { stood := { row := treeClashUptoRow, standIns := [], harness := (true, "99a6f769837edadae92aa23a4a561f32a8ecb0e2f292d6de4b6492bcb07811ac"), looks := false }, kinds := [], alts := [], laidByText := true, laidKinds := [.data, .data, .data, .data, .pinned], laidTests := true, laidLooks := .later }
def TreeClashUptoCardSaid : Prop := Claim7.holds Tryz.pinned (.plain (OpenSpec.upto treeClashSpec)) treeClashUptoCard
end Rows
end Go.Proofs.YtccffeofkhkbcaaGreatDoor
