/-
  No cell of these rows narrows 'for every input' (looked for: loops, veiled, ifaces, maps, wideKeys, modest, calm, conditions, laid).
  DERIVED. THE GIVEN ROWS OF THIS SEAT. 5 by the template 'for every input the law returns true; each argument reads behind the call as it read before'; 0 by the template 'total and deterministic' (their statements: YtpiohccneeblhaaTotals.lean).
  GIVEN WITH THE SEED: the statements are not yours to turn. If you find one false, say at which input.
  Laid BY PROGRAM, IN A SANDBOX (cutbox-rows.mjs): the forced cells as the released guide's own fill.sh prints them over the translation abd8b649b2bcf902… (all of the seat's roots in one cut). By AI agents, Wed Nov 11 2026. No macro, syntax, notation, axiom, sorry.
-/
import Derived.Test.YtpiohccneeblhaaChecked
import GoSem.Claim
import GoSem.ClaimJoined
import GoSem.ClaimMapViews
import Derived.JoinedTies
import Derived.KernelRfl
namespace Go.Proofs.Ytpiohccneeblhaa
/- THE CELL 'sum', in the pinned program and in every row, IS THE sha256 OF THE DUMP (.gsa) THAT YtpiohccneeblhaaProg.lean LOADS. Nothing in Lean hashes anything: it is a label: what it is worth is what the hold of that sum in a sandbox is worth. -/
noncomputable def Try.pinned : Pinned := { name := "ytpiohccneeblhaa", sum := "abd8b649b2bcf902f689c0d74d2535fe55f50ef89bcbd8b363184de53501e8c1", checked := Try.checked }
namespace Rows
def none {H : Type} : Left H := { results := [], args := [] }

/-- 'recensionlaw22.FragmentCuts': WHATEVER THE INPUT: true; the input reads as it did. -/
def fragmentCutsSpec : ChangeSpec := { name := "fragmentCuts", fn := fun _ => fun
  | [d1, d2, d3, d4] => { results := [.lit (.bool true)], args := [d1, d2, d3, d4] }
  | _ => none }
def fragmentCutsRow : OpenClaim := { program := "ytpiohccneeblhaa", sum := "abd8b649b2bcf902f689c0d74d2535fe55f50ef89bcbd8b363184de53501e8c1", func := "recension/recensionlaw22.FragmentCuts", spec := "fragmentCuts", inPlace := ["internal/abi.NoEscape", "internal/bytealg.MakeNoZero"], plainKeys := false, apart := false }
def FragmentCutsSaid : Prop := fragmentCutsRow.holds Try.pinned (OpenSpec.ofChange fragmentCutsSpec)

/-- ITS FALSE NEIGHBOUR: 'it returns false'. Refute it at one input. -/
def fragmentCutsWrong : ChangeSpec := { name := "fragmentCuts", fn := fun _ => fun
  | [d1, d2, d3, d4] => { results := [.lit (.bool false)], args := [d1, d2, d3, d4] }
  | _ => none }
def FragmentCutsWrongFalsely : Prop := fragmentCutsRow.holds Try.pinned (OpenSpec.ofChange fragmentCutsWrong)

/-- 'recensionlaw22.FragmentTakes': WHATEVER THE INPUT: true; the input reads as it did. -/
def fragmentTakesSpec : ChangeSpec := { name := "fragmentTakes", fn := fun _ => fun
  | [d] => { results := [.lit (.bool true)], args := [d] }
  | _ => none }
def fragmentTakesRow : OpenClaim := { program := "ytpiohccneeblhaa", sum := "abd8b649b2bcf902f689c0d74d2535fe55f50ef89bcbd8b363184de53501e8c1", func := "recension/recensionlaw22.FragmentTakes", spec := "fragmentTakes", inPlace := ["internal/abi.NoEscape", "internal/bytealg.MakeNoZero"], plainKeys := false, apart := false }
def FragmentTakesSaid : Prop := fragmentTakesRow.holds Try.pinned (OpenSpec.ofChange fragmentTakesSpec)

/-- ITS FALSE NEIGHBOUR: 'it returns false'. Refute it at one input. -/
def fragmentTakesWrong : ChangeSpec := { name := "fragmentTakes", fn := fun _ => fun
  | [d] => { results := [.lit (.bool false)], args := [d] }
  | _ => none }
def FragmentTakesWrongFalsely : Prop := fragmentTakesRow.holds Try.pinned (OpenSpec.ofChange fragmentTakesWrong)

/-- 'recensionlaw22.FragmentSmall': WHATEVER THE INPUT: true; the input reads as it did. -/
def fragmentSmallSpec : ChangeSpec := { name := "fragmentSmall", fn := fun _ => fun
  | [d1, d2] => { results := [.lit (.bool true)], args := [d1, d2] }
  | _ => none }
def fragmentSmallRow : OpenClaim := { program := "ytpiohccneeblhaa", sum := "abd8b649b2bcf902f689c0d74d2535fe55f50ef89bcbd8b363184de53501e8c1", func := "recension/recensionlaw22.FragmentSmall", spec := "fragmentSmall", inPlace := ["internal/abi.NoEscape", "internal/bytealg.MakeNoZero"], plainKeys := false, apart := false }
def FragmentSmallSaid : Prop := fragmentSmallRow.holds Try.pinned (OpenSpec.ofChange fragmentSmallSpec)

/-- ITS FALSE NEIGHBOUR: 'it returns false'. Refute it at one input. -/
def fragmentSmallWrong : ChangeSpec := { name := "fragmentSmall", fn := fun _ => fun
  | [d1, d2] => { results := [.lit (.bool false)], args := [d1, d2] }
  | _ => none }
def FragmentSmallWrongFalsely : Prop := fragmentSmallRow.holds Try.pinned (OpenSpec.ofChange fragmentSmallWrong)

/-- 'recensionlaw22.FragmentBack': WHATEVER THE INPUT: true; the input reads as it did. -/
def fragmentBackSpec : ChangeSpec := { name := "fragmentBack", fn := fun _ => fun
  | [d1, d2, d3] => { results := [.lit (.bool true)], args := [d1, d2, d3] }
  | _ => none }
def fragmentBackRow : OpenClaim := { program := "ytpiohccneeblhaa", sum := "abd8b649b2bcf902f689c0d74d2535fe55f50ef89bcbd8b363184de53501e8c1", func := "recension/recensionlaw22.FragmentBack", spec := "fragmentBack", inPlace := ["internal/abi.NoEscape", "internal/bytealg.MakeNoZero"], plainKeys := false, apart := false }
def FragmentBackSaid : Prop := fragmentBackRow.holds Try.pinned (OpenSpec.ofChange fragmentBackSpec)

/-- ITS FALSE NEIGHBOUR: 'it returns false'. Refute it at one input. -/
def fragmentBackWrong : ChangeSpec := { name := "fragmentBack", fn := fun _ => fun
  | [d1, d2, d3] => { results := [.lit (.bool false)], args := [d1, d2, d3] }
  | _ => none }
def FragmentBackWrongFalsely : Prop := fragmentBackRow.holds Try.pinned (OpenSpec.ofChange fragmentBackWrong)

/-- 'recensionlaw22.FragmentApart': WHATEVER THE INPUT: true; the input reads as it did. -/
def fragmentApartSpec : ChangeSpec := { name := "fragmentApart", fn := fun _ => fun
  | [d1, d2, d3] => { results := [.lit (.bool true)], args := [d1, d2, d3] }
  | _ => none }
def fragmentApartRow : OpenClaim := { program := "ytpiohccneeblhaa", sum := "abd8b649b2bcf902f689c0d74d2535fe55f50ef89bcbd8b363184de53501e8c1", func := "recension/recensionlaw22.FragmentApart", spec := "fragmentApart", inPlace := ["internal/abi.NoEscape", "internal/bytealg.MakeNoZero"], plainKeys := false, apart := false }
def FragmentApartSaid : Prop := fragmentApartRow.holds Try.pinned (OpenSpec.ofChange fragmentApartSpec)

/-- ITS FALSE NEIGHBOUR: 'it returns false'. Refute it at one input. -/
def fragmentApartWrong : ChangeSpec := { name := "fragmentApart", fn := fun _ => fun
  | [d1, d2, d3] => { results := [.lit (.bool false)], args := [d1, d2, d3] }
  | _ => none }
def FragmentApartWrongFalsely : Prop := fragmentApartRow.holds Try.pinned (OpenSpec.ofChange fragmentApartWrong)

/- THE SECOND FORM. 'bulk': how many values and letters a reading holds, each counted each time it is reached (what is shared counts as often as it is met; a slice's spare places count too). A statement '..UptoSaid' is the law's where the arguments, and the package variables that the reading takes, are together of bulk at most 1048576: NARROWER than '..Said'. Prove '..Said' where nothing that the law and all that it calls make is longer than what came in: it says more and counts as full. Else prove '..UptoSaid'. A law counts once. -/
mutual
def uptoBulk {H : Type} : DataW H → Nat
  | .lit (.string bytes) => bytes.length + 1
  | .lit _ => 1
  | .nil => 1
  | .ptr d => uptoBulk d + 1
  | .slice elems spare => uptoBulkAll elems + uptoBulkAll spare + 1
  | .agg parts => uptoBulkAll parts + 1
  | .iface _ d => uptoBulk d + 1
  | .map entries => uptoBulkEntries entries + 1
  | .held _ => 1
def uptoBulkAll {H : Type} : List (DataW H) → Nat
  | [] => 0
  | d :: r => uptoBulk d + uptoBulkAll r
def uptoBulkEntries {H : Type} : List (Lit × DataW H) → Nat
  | [] => 0
  | x :: r => uptoBulkEntry x + uptoBulkEntries r
def uptoBulkEntry {H : Type} : Lit × DataW H → Nat
  | (.string bytes, d) => bytes.length + uptoBulk d + 1
  | (_, d) => uptoBulk d + 1
 end
def uptoSmall : (H : Type) → List (DataW H) → Bool := fun _ ds => decide (uptoBulkAll ds ≤ 1048576)
def OpenSpec.upto (s : _root_.Go.ChangeSpec) : _root_.Go.OpenSpec := { _root_.Go.OpenSpec.ofChange s with cond := some uptoSmall }

/-- 'recensionlaw22.FragmentCuts', WHERE WHAT IT READS IS OF BULK AT MOST 1048576: true; the input reads as it did. -/
def fragmentCutsUptoRow : OpenClaim := { program := "ytpiohccneeblhaa", sum := "abd8b649b2bcf902f689c0d74d2535fe55f50ef89bcbd8b363184de53501e8c1", func := "recension/recensionlaw22.FragmentCuts", spec := "fragmentCuts", inPlace := ["internal/abi.NoEscape", "internal/bytealg.MakeNoZero"], plainKeys := false, apart := false, narrowed := true }
def FragmentCutsUptoSaid : Prop := fragmentCutsUptoRow.holds Try.pinned (OpenSpec.upto fragmentCutsSpec)

/-- 'recensionlaw22.FragmentTakes', WHERE WHAT IT READS IS OF BULK AT MOST 1048576: true; the input reads as it did. -/
def fragmentTakesUptoRow : OpenClaim := { program := "ytpiohccneeblhaa", sum := "abd8b649b2bcf902f689c0d74d2535fe55f50ef89bcbd8b363184de53501e8c1", func := "recension/recensionlaw22.FragmentTakes", spec := "fragmentTakes", inPlace := ["internal/abi.NoEscape", "internal/bytealg.MakeNoZero"], plainKeys := false, apart := false, narrowed := true }
def FragmentTakesUptoSaid : Prop := fragmentTakesUptoRow.holds Try.pinned (OpenSpec.upto fragmentTakesSpec)

/-- 'recensionlaw22.FragmentSmall', WHERE WHAT IT READS IS OF BULK AT MOST 1048576: true; the input reads as it did. -/
def fragmentSmallUptoRow : OpenClaim := { program := "ytpiohccneeblhaa", sum := "abd8b649b2bcf902f689c0d74d2535fe55f50ef89bcbd8b363184de53501e8c1", func := "recension/recensionlaw22.FragmentSmall", spec := "fragmentSmall", inPlace := ["internal/abi.NoEscape", "internal/bytealg.MakeNoZero"], plainKeys := false, apart := false, narrowed := true }
def FragmentSmallUptoSaid : Prop := fragmentSmallUptoRow.holds Try.pinned (OpenSpec.upto fragmentSmallSpec)

/-- 'recensionlaw22.FragmentBack', WHERE WHAT IT READS IS OF BULK AT MOST 1048576: true; the input reads as it did. -/
def fragmentBackUptoRow : OpenClaim := { program := "ytpiohccneeblhaa", sum := "abd8b649b2bcf902f689c0d74d2535fe55f50ef89bcbd8b363184de53501e8c1", func := "recension/recensionlaw22.FragmentBack", spec := "fragmentBack", inPlace := ["internal/abi.NoEscape", "internal/bytealg.MakeNoZero"], plainKeys := false, apart := false, narrowed := true }
def FragmentBackUptoSaid : Prop := fragmentBackUptoRow.holds Try.pinned (OpenSpec.upto fragmentBackSpec)

/-- 'recensionlaw22.FragmentApart', WHERE WHAT IT READS IS OF BULK AT MOST 1048576: true; the input reads as it did. -/
def fragmentApartUptoRow : OpenClaim := { program := "ytpiohccneeblhaa", sum := "abd8b649b2bcf902f689c0d74d2535fe55f50ef89bcbd8b363184de53501e8c1", func := "recension/recensionlaw22.FragmentApart", spec := "fragmentApart", inPlace := ["internal/abi.NoEscape", "internal/bytealg.MakeNoZero"], plainKeys := false, apart := false, narrowed := true }
def FragmentApartUptoSaid : Prop := fragmentApartUptoRow.holds Try.pinned (OpenSpec.upto fragmentApartSpec)

end Rows
end Go.Proofs.Ytpiohccneeblhaa
