/- Stamp: the world that a row's condition gives. -/
import Derived.Test.YtgkbhgcgnjdnnaaDoorStA
import Derived.Lib.LaidTab
import Derived.Stop.LaidErr
import Derived.Shelf.Vars
import Derived.Lay
import Derived.Deep.DeepHandedRow
import Derived.SevenTiedAt
import Derived.ProofKit
import Derived.Test.YtgkbhgcgnjdnnaaDoorRows
namespace Pi
open Go Go.Proofs Go.RowKit Go.Proofs.YtgkbhgcgnjdnnaaDoor
set_option maxRecDepth 100000

abbrev laidL : List (String × DataW Unit) := [("math/bits.deBruijn32tab", Rows.laid_math_bits_deBruijn32tab), ("math/bits.deBruijn64tab", Rows.laid_math_bits_deBruijn64tab), ("internal/strconv.uint64pow10", Rows.laid_internal_strconv_uint64pow10), ("unicode/utf8.acceptRanges", Rows.laid_unicode_utf8_acceptRanges), ("strconv.ErrRange", Rows.laid_strconv_ErrRange), ("strconv.ErrSyntax", Rows.laid_strconv_ErrSyntax), ("unicode/utf8.first", Rows.laid_unicode_utf8_first)]

theorem gES : Tryd.prog.globalNamed "strconv.ErrSyntax" = some 0 := by kernel_rfl
theorem gER : Tryd.prog.globalNamed "strconv.ErrRange" = some 1 := by kernel_rfl
theorem gP : Tryd.prog.globalNamed "internal/strconv.uint64pow10" = some 3 := by kernel_rfl
theorem tES : (Tryd.prog.globals[0]?).map (·.type) = some 52 := by kernel_rfl
theorem tER : (Tryd.prog.globals[1]?).map (·.type) = some 52 := by kernel_rfl
theorem tP : (Tryd.prog.globals[3]?).map (·.type) = some 102 := by kernel_rfl
theorem starN : "*" ++ "errors.errorString" = "*errors.errorString" := by decide
theorem row98 (u : TypeId) (h : Tryd.prog.typeName? 3 u = some "*errors.errorString") : u = 98 :=
  typeName_ptr_named (nm := "errors.errorString") (by rw [starN]; kernel_rfl) (by kernel_rfl) (by decide) u (by rw [starN]; exact h)
theorem laidL_plain (w : World) (h : laidMetH Tryd.prog laidL w) : laidMet Tryd.prog laidL w := by
  unfold laidMetH at h
  have e : (laidL.filter fun x => x.2.handleName?.isSome) = [] := by kernel_rfl
  rw [e] at h
  exact h
theorem laidL_H (w : World) (h : laidMet Tryd.prog laidL w) : laidMetH Tryd.prog laidL w := by
  unfold laidMetH
  have e : (laidL.filter fun x => x.2.handleName?.isSome) = [] := by kernel_rfl
  rw [e]
  exact h
theorem laidP : (Rows.laid_internal_strconv_uint64pow10 : DataW Unit) = Lib.tabData .u64 Lib.pow10Tab := by kernel_rfl
theorem stW_of {W : World} (h0 : laidMetH Tryd.prog laidL W) (hs : W.ShapedOpen Tryd.prog) : StW W := by
  have h := laidL_plain W h0
  have h3 := h.tail.tail
  have h5 := h3.tail.tail
  have h6 := h5.tail
  obtain ⟨a1, s1, hv1, _, _, _⟩ := laid_sentinel h5 gER tER Tryd.underlying52 row98 Tryd.underlying98 Tryd.underlying100 rfl rfl Tryd.underlying9 (by kernel_rfl) (by kernel_rfl)
  obtain ⟨a0, s0, hv0, _, _, _⟩ := laid_sentinel h6 gES tES Tryd.underlying52 row98 Tryd.underlying98 Tryd.underlying100 rfl rfl Tryd.underlying9 (by kernel_rfl) (by kernel_rfl)
  have htab : Lib.TabIs Tryd.prog W "internal/strconv.uint64pow10" .u64 Lib.pow10Tab :=
    Lib.tabIs_of_head (k := .u64) (zs := Lib.pow10Tab) gP tP Tryd.underlying102 Tryd.underlying82 (by kernel_rfl) (by kernel_rfl) (by rw [← laidP]; exact h3)
  refine ⟨?_, ⟨_, by have := World.var?_cell gES hv0 0; simpa using this, .inr ⟨_, _, rfl⟩⟩, ⟨_, by have := World.var?_cell gER hv1 0; simpa using this, .inr ⟨_, _, rfl⟩⟩, fun w hw => ?_⟩
  · exact cell_of_shapedOpen_int (zero := #[.int .i64 0]) (t := 3) hs (Nat.le_of_ble_eq_true (by kernel_rfl)) (by kernel_rfl) rfl (by kernel_rfl) (by kernel_rfl) Tryd.underlying3
  · unfold Lib.TabIs World.var? at htab ⊢
    rw [gP] at htab ⊢
    simp only [Option.bind_some] at htab ⊢
    by_cases hb : 3 < W.heap.size
    · rw [hw 3 hb]
      exact htab
    · rw [Array.getElem?_eq_none (by omega)] at htab
      cases htab

/-- A world that meets the condition. -/
noncomputable def wL (os : Os) : World := World.laidAll Tryd.prog os laidL
theorem wL_met (os : Os) (args : Array Value) : laidMet Tryd.prog laidL ((wL os).forCall (fun _ _ => 0) ⟨#[], args, []⟩).memory :=
  laidMet_laidAll _ (by kernel_rfl) (by kernel_rfl)
end Pi
