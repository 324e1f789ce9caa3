/-
  NARROWER THAN 'FOR EVERY INPUT', by the rows' own cells (each row's printed sentence says how): HistoryAny: laid · HistorySmall: laid · HistoryNext: laid · HistoryTurns: laid · HistoryNew: laid.
  DERIVED. THE GIVEN ROWS OF THIS SEAT. 5 by the template 'for every input the law returns true; each argument reads behind the call as it read before'; 0 by the template 'total and deterministic' (their statements: YtngoddkencoalaaGreatDoorTotals.lean).
  GIVEN WITH THE SEED: the statements are not yours to turn. If you find one false, say at which input.
  Laid BY PROGRAM, IN A SANDBOX (cutbox-rows.mjs): the forced cells as the released guide's own fill.sh prints them over the translation 65f127dcd7cbd907… (all of the seat's roots in one cut). By AI agents, Wed Nov 11 2026. No macro, syntax, notation, axiom, sorry.
-/
import Derived.Test.YtngoddkencoalaaGreatDoorChecked
import GoSem.PinnedTables
import GoSem.Claim
import GoSem.ClaimJoined
import GoSem.ClaimMapViews
import Derived.JoinedTies
import Derived.KernelRfl
namespace Go.Proofs.YtngoddkencoalaaGreatDoor
/- THE CELL 'sum', in the pinned program and in every row, IS THE sha256 OF THE DUMP (.gsa) THAT YtngoddkencoalaaGreatDoorProg.lean LOADS. Nothing in Lean hashes anything: it is a label: what it is worth is what the hold of that sum in a sandbox is worth. -/
noncomputable def Tryz.pinned : Pinned := { name := "ytngoddkencoalaagreatdoor", sum := "65f127dcd7cbd9076e3d3c6e39f156d621ceb792ee1d3c5be65144ae10324d9e", checked := Tryz.checked }
namespace Rows
def none {H : Type} : Left H := { results := [], args := [] }

/- WHAT THE LISTED PACKAGE-LEVEL VARIABLES READ AS WHEN THE CALL BEGINS. Each datum BY PROGRAM (the guide's laid-datum.mjs) off the statement by which the dump's own 'gosem.cut.vars' lays the variable. In a bare row this is a premise. The card (YtngoddkencoalaaGreatDoorCards.lean) ties it to the program's text. -/
def laid_unicode_utf8_acceptRanges {H : Type} : DataW H := .agg [.agg [.lit (.int .u8 128), .lit (.int .u8 191)], .agg [.lit (.int .u8 160), .lit (.int .u8 191)], .agg [.lit (.int .u8 128), .lit (.int .u8 159)], .agg [.lit (.int .u8 144), .lit (.int .u8 191)], .agg [.lit (.int .u8 128), .lit (.int .u8 143)], .agg [.lit (.int .u8 0), .lit (.int .u8 0)], .agg [.lit (.int .u8 0), .lit (.int .u8 0)], .agg [.lit (.int .u8 0), .lit (.int .u8 0)], .agg [.lit (.int .u8 0), .lit (.int .u8 0)], .agg [.lit (.int .u8 0), .lit (.int .u8 0)], .agg [.lit (.int .u8 0), .lit (.int .u8 0)], .agg [.lit (.int .u8 0), .lit (.int .u8 0)], .agg [.lit (.int .u8 0), .lit (.int .u8 0)], .agg [.lit (.int .u8 0), .lit (.int .u8 0)], .agg [.lit (.int .u8 0), .lit (.int .u8 0)], .agg [.lit (.int .u8 0), .lit (.int .u8 0)]]
/-- One of Go's own tables, pinned by name: the form's constant. -/
def laid_unicode_utf8_first : DataW Unit := Go.Pinned.utf8First

/-- 'recensionlaw20.HistoryAny': WHATEVER THE INPUT: true; the input reads as it did. -/
def historyAnySpec : ChangeSpec := { name := "historyAny", fn := fun _ => fun
  | [d1, d2] => { results := [.lit (.bool true)], args := [d1, d2] }
  | _ => none }
def historyAnyRow : OpenClaim := { program := "ytngoddkencoalaagreatdoor", sum := "65f127dcd7cbd9076e3d3c6e39f156d621ceb792ee1d3c5be65144ae10324d9e", func := "recension/recensionlaw20.HistoryAny", spec := "historyAny", inPlace := ["internal/bytealg.IndexByteString", "internal/bytealg.IndexString"], unfollowed := true, recurses := true, named := ["unicode/utf8.first", "unicode/utf8.acceptRanges", "internal/bytealg.MaxLen"], plainKeys := false, apart := false, laid := [("unicode/utf8.acceptRanges", laid_unicode_utf8_acceptRanges), ("unicode/utf8.first", laid_unicode_utf8_first)] }
def HistoryAnySaid : Prop := historyAnyRow.holds Tryz.pinned (OpenSpec.ofChange historyAnySpec)

/-- ITS FALSE NEIGHBOUR: 'it returns false'. Refute it at one input. -/
def historyAnyWrong : ChangeSpec := { name := "historyAny", fn := fun _ => fun
  | [d1, d2] => { results := [.lit (.bool false)], args := [d1, d2] }
  | _ => none }
def HistoryAnyWrongFalsely : Prop := historyAnyRow.holds Tryz.pinned (OpenSpec.ofChange historyAnyWrong)

/-- 'recensionlaw20.HistorySmall': WHATEVER THE INPUT: true; the input reads as it did. -/
def historySmallSpec : ChangeSpec := { name := "historySmall", fn := fun _ => fun
  | [d1, d2] => { results := [.lit (.bool true)], args := [d1, d2] }
  | _ => none }
def historySmallRow : OpenClaim := { program := "ytngoddkencoalaagreatdoor", sum := "65f127dcd7cbd9076e3d3c6e39f156d621ceb792ee1d3c5be65144ae10324d9e", func := "recension/recensionlaw20.HistorySmall", spec := "historySmall", inPlace := ["internal/bytealg.IndexByteString", "internal/bytealg.IndexString"], unfollowed := true, recurses := true, named := ["unicode/utf8.first", "unicode/utf8.acceptRanges", "internal/bytealg.MaxLen"], plainKeys := false, apart := false, laid := [("unicode/utf8.acceptRanges", laid_unicode_utf8_acceptRanges), ("unicode/utf8.first", laid_unicode_utf8_first)] }
def HistorySmallSaid : Prop := historySmallRow.holds Tryz.pinned (OpenSpec.ofChange historySmallSpec)

/-- ITS FALSE NEIGHBOUR: 'it returns false'. Refute it at one input. -/
def historySmallWrong : ChangeSpec := { name := "historySmall", fn := fun _ => fun
  | [d1, d2] => { results := [.lit (.bool false)], args := [d1, d2] }
  | _ => none }
def HistorySmallWrongFalsely : Prop := historySmallRow.holds Tryz.pinned (OpenSpec.ofChange historySmallWrong)

/-- 'recensionlaw20.HistoryNext': WHATEVER THE INPUT: true; the input reads as it did. -/
def historyNextSpec : ChangeSpec := { name := "historyNext", fn := fun _ => fun
  | [d1, d2] => { results := [.lit (.bool true)], args := [d1, d2] }
  | _ => none }
def historyNextRow : OpenClaim := { program := "ytngoddkencoalaagreatdoor", sum := "65f127dcd7cbd9076e3d3c6e39f156d621ceb792ee1d3c5be65144ae10324d9e", func := "recension/recensionlaw20.HistoryNext", spec := "historyNext", inPlace := ["internal/bytealg.IndexByteString", "internal/bytealg.IndexString"], unfollowed := true, recurses := true, named := ["unicode/utf8.first", "unicode/utf8.acceptRanges", "internal/bytealg.MaxLen"], plainKeys := false, apart := false, laid := [("unicode/utf8.acceptRanges", laid_unicode_utf8_acceptRanges), ("unicode/utf8.first", laid_unicode_utf8_first)] }
def HistoryNextSaid : Prop := historyNextRow.holds Tryz.pinned (OpenSpec.ofChange historyNextSpec)

/-- ITS FALSE NEIGHBOUR: 'it returns false'. Refute it at one input. -/
def historyNextWrong : ChangeSpec := { name := "historyNext", fn := fun _ => fun
  | [d1, d2] => { results := [.lit (.bool false)], args := [d1, d2] }
  | _ => none }
def HistoryNextWrongFalsely : Prop := historyNextRow.holds Tryz.pinned (OpenSpec.ofChange historyNextWrong)

/-- 'recensionlaw20.HistoryTurns': WHATEVER THE INPUT: true; the input reads as it did. -/
def historyTurnsSpec : ChangeSpec := { name := "historyTurns", fn := fun _ => fun
  | [d1, d2] => { results := [.lit (.bool true)], args := [d1, d2] }
  | _ => none }
def historyTurnsRow : OpenClaim := { program := "ytngoddkencoalaagreatdoor", sum := "65f127dcd7cbd9076e3d3c6e39f156d621ceb792ee1d3c5be65144ae10324d9e", func := "recension/recensionlaw20.HistoryTurns", spec := "historyTurns", inPlace := ["internal/bytealg.IndexByteString", "internal/bytealg.IndexString"], unfollowed := true, recurses := true, named := ["unicode/utf8.first", "unicode/utf8.acceptRanges", "internal/bytealg.MaxLen"], plainKeys := false, apart := false, laid := [("unicode/utf8.acceptRanges", laid_unicode_utf8_acceptRanges), ("unicode/utf8.first", laid_unicode_utf8_first)] }
def HistoryTurnsSaid : Prop := historyTurnsRow.holds Tryz.pinned (OpenSpec.ofChange historyTurnsSpec)

/-- ITS FALSE NEIGHBOUR: 'it returns false'. Refute it at one input. -/
def historyTurnsWrong : ChangeSpec := { name := "historyTurns", fn := fun _ => fun
  | [d1, d2] => { results := [.lit (.bool false)], args := [d1, d2] }
  | _ => none }
def HistoryTurnsWrongFalsely : Prop := historyTurnsRow.holds Tryz.pinned (OpenSpec.ofChange historyTurnsWrong)

/-- 'recensionlaw20.HistoryNew': WHATEVER THE INPUT: true; the input reads as it did. -/
def historyNewSpec : ChangeSpec := { name := "historyNew", fn := fun _ => fun
  | [d1, d2] => { results := [.lit (.bool true)], args := [d1, d2] }
  | _ => none }
def historyNewRow : OpenClaim := { program := "ytngoddkencoalaagreatdoor", sum := "65f127dcd7cbd9076e3d3c6e39f156d621ceb792ee1d3c5be65144ae10324d9e", func := "recension/recensionlaw20.HistoryNew", spec := "historyNew", inPlace := ["internal/bytealg.IndexByteString", "internal/bytealg.IndexString"], unfollowed := true, recurses := true, named := ["unicode/utf8.first", "unicode/utf8.acceptRanges", "internal/bytealg.MaxLen"], plainKeys := false, apart := false, laid := [("unicode/utf8.acceptRanges", laid_unicode_utf8_acceptRanges), ("unicode/utf8.first", laid_unicode_utf8_first)] }
def HistoryNewSaid : Prop := historyNewRow.holds Tryz.pinned (OpenSpec.ofChange historyNewSpec)

/-- ITS FALSE NEIGHBOUR: 'it returns false'. Refute it at one input. -/
def historyNewWrong : ChangeSpec := { name := "historyNew", fn := fun _ => fun
  | [d1, d2] => { results := [.lit (.bool false)], args := [d1, d2] }
  | _ => none }
def HistoryNewWrongFalsely : Prop := historyNewRow.holds Tryz.pinned (OpenSpec.ofChange historyNewWrong)

/- THE SECOND FORM. 'bulk': how many values and letters a reading holds, each counted each time it is reached (what is shared counts as often as it is met; a slice's spare places count too). A statement '..UptoSaid' is the law's where the arguments, and the package variables that the reading takes, are together of bulk at most 1048576: NARROWER than '..Said'. Prove '..Said' where nothing that the law and all that it calls make is longer than what came in: it says more and counts as full. Else prove '..UptoSaid'. A law counts once. -/
mutual
def uptoBulk {H : Type} : DataW H → Nat
  | .lit (.string bytes) => bytes.length + 1
  | .lit _ => 1
  | .nil => 1
  | .ptr d => uptoBulk d + 1
  | .slice elems spare => uptoBulkAll elems + uptoBulkAll spare + 1
  | .agg parts => uptoBulkAll parts + 1
  | .iface _ d => uptoBulk d + 1
  | .map entries => uptoBulkEntries entries + 1
  | .held _ => 1
def uptoBulkAll {H : Type} : List (DataW H) → Nat
  | [] => 0
  | d :: r => uptoBulk d + uptoBulkAll r
def uptoBulkEntries {H : Type} : List (Lit × DataW H) → Nat
  | [] => 0
  | x :: r => uptoBulkEntry x + uptoBulkEntries r
def uptoBulkEntry {H : Type} : Lit × DataW H → Nat
  | (.string bytes, d) => bytes.length + uptoBulk d + 1
  | (_, d) => uptoBulk d + 1
 end
def uptoSmall : (H : Type) → List (DataW H) → Bool := fun _ ds => decide (uptoBulkAll ds ≤ 1048576)
def OpenSpec.upto (s : _root_.Go.ChangeSpec) : _root_.Go.OpenSpec := { _root_.Go.OpenSpec.ofChange s with cond := some uptoSmall }

/-- 'recensionlaw20.HistoryAny', WHERE WHAT IT READS IS OF BULK AT MOST 1048576: true; the input reads as it did. -/
def historyAnyUptoRow : OpenClaim := { program := "ytngoddkencoalaagreatdoor", sum := "65f127dcd7cbd9076e3d3c6e39f156d621ceb792ee1d3c5be65144ae10324d9e", func := "recension/recensionlaw20.HistoryAny", spec := "historyAny", inPlace := ["internal/bytealg.IndexByteString", "internal/bytealg.IndexString"], unfollowed := true, recurses := true, named := ["unicode/utf8.first", "unicode/utf8.acceptRanges", "internal/bytealg.MaxLen"], plainKeys := false, apart := false, laid := [("unicode/utf8.acceptRanges", laid_unicode_utf8_acceptRanges), ("unicode/utf8.first", laid_unicode_utf8_first)], narrowed := true }
def HistoryAnyUptoSaid : Prop := historyAnyUptoRow.holds Tryz.pinned (OpenSpec.upto historyAnySpec)

/-- 'recensionlaw20.HistorySmall', WHERE WHAT IT READS IS OF BULK AT MOST 1048576: true; the input reads as it did. -/
def historySmallUptoRow : OpenClaim := { program := "ytngoddkencoalaagreatdoor", sum := "65f127dcd7cbd9076e3d3c6e39f156d621ceb792ee1d3c5be65144ae10324d9e", func := "recension/recensionlaw20.HistorySmall", spec := "historySmall", inPlace := ["internal/bytealg.IndexByteString", "internal/bytealg.IndexString"], unfollowed := true, recurses := true, named := ["unicode/utf8.first", "unicode/utf8.acceptRanges", "internal/bytealg.MaxLen"], plainKeys := false, apart := false, laid := [("unicode/utf8.acceptRanges", laid_unicode_utf8_acceptRanges), ("unicode/utf8.first", laid_unicode_utf8_first)], narrowed := true }
def HistorySmallUptoSaid : Prop := historySmallUptoRow.holds Tryz.pinned (OpenSpec.upto historySmallSpec)

/-- 'recensionlaw20.HistoryNext', WHERE WHAT IT READS IS OF BULK AT MOST 1048576: true; the input reads as it did. -/
def historyNextUptoRow : OpenClaim := { program := "ytngoddkencoalaagreatdoor", sum := "65f127dcd7cbd9076e3d3c6e39f156d621ceb792ee1d3c5be65144ae10324d9e", func := "recension/recensionlaw20.HistoryNext", spec := "historyNext", inPlace := ["internal/bytealg.IndexByteString", "internal/bytealg.IndexString"], unfollowed := true, recurses := true, named := ["unicode/utf8.first", "unicode/utf8.acceptRanges", "internal/bytealg.MaxLen"], plainKeys := false, apart := false, laid := [("unicode/utf8.acceptRanges", laid_unicode_utf8_acceptRanges), ("unicode/utf8.first", laid_unicode_utf8_first)], narrowed := true }
def HistoryNextUptoSaid : Prop := historyNextUptoRow.holds Tryz.pinned (OpenSpec.upto historyNextSpec)

/-- 'recensionlaw20.HistoryTurns', WHERE WHAT IT READS IS OF BULK AT MOST 1048576: true; the input reads as it did. -/
def historyTurnsUptoRow : OpenClaim := { program := "ytngoddkencoalaagreatdoor", sum := "65f127dcd7cbd9076e3d3c6e39f156d621ceb792ee1d3c5be65144ae10324d9e", func := "recension/recensionlaw20.HistoryTurns", spec := "historyTurns", inPlace := ["internal/bytealg.IndexByteString", "internal/bytealg.IndexString"], unfollowed := true, recurses := true, named := ["unicode/utf8.first", "unicode/utf8.acceptRanges", "internal/bytealg.MaxLen"], plainKeys := false, apart := false, laid := [("unicode/utf8.acceptRanges", laid_unicode_utf8_acceptRanges), ("unicode/utf8.first", laid_unicode_utf8_first)], narrowed := true }
def HistoryTurnsUptoSaid : Prop := historyTurnsUptoRow.holds Tryz.pinned (OpenSpec.upto historyTurnsSpec)

/-- 'recensionlaw20.HistoryNew', WHERE WHAT IT READS IS OF BULK AT MOST 1048576: true; the input reads as it did. -/
def historyNewUptoRow : OpenClaim := { program := "ytngoddkencoalaagreatdoor", sum := "65f127dcd7cbd9076e3d3c6e39f156d621ceb792ee1d3c5be65144ae10324d9e", func := "recension/recensionlaw20.HistoryNew", spec := "historyNew", inPlace := ["internal/bytealg.IndexByteString", "internal/bytealg.IndexString"], unfollowed := true, recurses := true, named := ["unicode/utf8.first", "unicode/utf8.acceptRanges", "internal/bytealg.MaxLen"], plainKeys := false, apart := false, laid := [("unicode/utf8.acceptRanges", laid_unicode_utf8_acceptRanges), ("unicode/utf8.first", laid_unicode_utf8_first)], narrowed := true }
def HistoryNewUptoSaid : Prop := historyNewUptoRow.holds Tryz.pinned (OpenSpec.upto historyNewSpec)

end Rows
end Go.Proofs.YtngoddkencoalaaGreatDoor
