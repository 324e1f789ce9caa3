/- The texts StL2H W3 W3U. -/
import Derived.Test.YthaoefcijckofaaDoorPiBulk
import Derived.Lib.LaidTab
import Derived.Stop.LaidErr
import Derived.Shelf.Vars
import Derived.Lay
import Derived.Deep.DeepHandedRow
import Derived.SevenTiedAt
import Derived.ProofKit
import Derived.Test.YthaoefcijckofaaDoorRows
/- Stamp: the laws on texts. -/
namespace Pi
open Go Go.Proofs
set_option maxRecDepth 100000
section
variable {X : XF}
theorem splitOk {s : List UInt8} (h : s.length ≤ 2000000) : SplitOk s := by
  have hc : s.count 46 ≤ s.length := List.count_le_length
  refine ⟨by omega, ?_, ?_, fun x hx => ?_⟩
  · rw [split_by, splitBy_len, Lib.count_one]
  · rw [Lib.count_one]; omega
  · rw [split_by] at hx
    have := splitBy_each 46 s x hx
    omega
theorem textId_len (t r i : Int) : (textId t r i).length ≤ 2000000 := by
  unfold textId
  split
  · rename_i h
    simp only [rightId, decide_eq_true_eq] at h
    have l1 := itoa_len21 (n := t) (by omega) (by omega)
    have l2 := itoa_len21 (n := r) (by omega) (by omega)
    have l3 := itoa_len21 (n := i) (by omega) (by omega)
    simp [textS]; omega
  · simp
theorem fitId {m : Nat} {x : D} (h : FitE PR (m + 3) 25 x) : ∃ t r i, x = idD t r i ∧ (Lit.int .i64 t).wf = true ∧ (Lit.int .i64 r).wf = true ∧ (Lit.int .i64 i).wf = true := by
  obtain ⟨cs, rfl, hl, hf⟩ := fitE_struct (k := 3) Tryd.underlying25 (by kernel_rfl) h
  obtain ⟨a, b, c, rfl⟩ : ∃ a b c, cs = [a, b, c] := by
    match cs, hl with
    | [a, b, c], _ => exact ⟨a, b, c, rfl⟩
  have c23 : PR.cellsOf 23 = 2 := by kernel_rfl
  have c3 : PR.cellsOf 3 = 1 := by kernel_rfl
  have h1 := hf _ (List.mem_cons_self ..)
  have h2 := hf _ (List.mem_cons_of_mem _ (List.mem_cons_self ..))
  simp only [c23, List.drop_zero, List.take_succ_cons, List.take_zero] at h1
  simp only [c3, List.drop_succ_cons, List.drop_zero, List.take_succ_cons, List.take_zero] at h2
  unfold Fit at h1
  rw [Tryd.underlying23] at h1
  obtain ⟨_, hf1⟩ := h1
  have h3 := hf1 _ (List.mem_cons_self ..)
  have h4 := hf1 _ (List.mem_cons_of_mem _ (List.mem_cons_self ..))
  simp only [c3, List.drop_zero, List.take_succ_cons, List.take_zero] at h3
  simp only [c3, List.drop_succ_cons, List.drop_zero, List.take_succ_cons, List.take_zero] at h4
  obtain ⟨t, rfl, wt⟩ := fit_int Tryd.underlying3 h3
  obtain ⟨r, rfl, wr⟩ := fit_int Tryd.underlying3 h4
  obtain ⟨i, rfl, wi⟩ := fit_int Tryd.underlying3 h2
  exact ⟨t, r, i, rfl, wt, wr, wi⟩
theorem fitS {m : Nat} {x : D} (h : FitE PR (m + 1) 9 x) : ∃ s, x = .str s := by
  obtain ⟨s, rfl, _⟩ := fitE_str Tryd.underlying9 h
  exact ⟨s, rfl⟩

def hLawT : KF1 := fun ps R post => ∃ t r i s, ps = [.d (idD t r i), sD s] ∧ R = [] ∧ s.length ≤ 2000000 ∧ post (.d (.bool true), [])
theorem okLawT : FD X 3 hLawT := FD.mk (H := [(15, hAwake), (13, hParse), (14, hParseR), (16, hText), (17, hText)]) (hk := []) (by kernel_rfl)
  (.cons okAwake (.cons okParse (.cons okParseR (.cons okText (.cons okTextR .nil))))) .nil (by
  intro ps R post hh
  obtain ⟨t, r, i, s, rfl, rfl, hs, hp⟩ := hh
  rw [← vcLawT]
  refine ⟨s, rfl, rfl, splitOk hs, fun h1 => ⟨s, rfl, rfl, by omega, fun h2 => ?_, fun a b c h2 => (by rw [h1] at h2; cases h2)⟩, fun a b c h1 => ⟨s, rfl, rfl, by omega, fun h2 => (by rw [h1] at h2; cases h2), fun a' b' c' h2 => ?_⟩⟩
  · exact ⟨rfl, rfl, t, r, i, rfl, rfl, t, r, i, rfl, rfl, condT (by simp) hp⟩
  · rw [h1] at h2
    simp only [Option.some.injEq, Prod.mk.injEq] at h2
    obtain ⟨rfl, rfl, rfl⟩ := h2
    exact ⟨rfl, rfl, t, r, i, rfl, rfl, t, r, i, rfl, rfl, condT (by simp) (condT (by simp) hp)⟩)
theorem okTextsLaw (xs : List D) (h : FitAll PR 8 [25, 9] xs) (hb : bulkL xs ≤ 1048576) : ∃ lf k R, runF PR (kpT X) lf k 3 (xs.map P.d) [] = some (.d (.bool true), R) := by
  obtain ⟨x, r, rfl, hx, h⟩ := fitAll_cons h
  obtain ⟨y, r, rfl, hy, h⟩ := fitAll_cons h
  have e := fitAll_nil h
  subst e
  obtain ⟨t, r, i, rfl, _⟩ := fitId hx
  obtain ⟨s, rfl⟩ := fitS hy
  simp only [bulkL, bulk1] at hb
  obtain ⟨lf, k, hr⟩ := (okLawT (X := X)).run (y := (.d (.bool true), [])) ⟨t, r, i, s, rfl, rfl, by omega, rfl⟩
  exact ⟨lf, k, [], hr⟩

theorem parse3_nil : parse3 [] = none := by
  unfold parse3
  rw [split_by]
  rfl
def hLawK : KF1 := fun ps R post => ∃ t r i s, ps = [.d (idD t r i), sD s] ∧ R = [] ∧ s.length ≤ 2000000 ∧ post (.d (.bool true), [])
theorem okLawK : FD X 4 hLawK := FD.mk (H := [(15, hAwake), (13, hParse), (16, hText), (18, hRightId)]) (hk := []) (by kernel_rfl)
  (.cons okAwake (.cons okParse (.cons okText (.cons okRightId .nil)))) .nil (by
  intro ps R post hh
  obtain ⟨t, r, i, s, rfl, rfl, hs, hp⟩ := hh
  rw [← vcLawK]
  have key : ∀ a b c, parse3 s = some (a, b, c) → textId a b c = s := fun a b c h => by
    obtain ⟨h1, h2⟩ := parse3_some h
    rw [textId, if_pos h1, h2]
  refine ⟨rfl, rfl, t, r, i, rfl, rfl, _, rfl, rfl, splitOk (textId_len t r i), fun h1 => ?_, fun a b c h1 => ?_⟩
  · have hid : rightId t r i = false := by
      cases hid : rightId t r i with
      | false => rfl
      | true =>
        rw [textId, if_pos hid] at h1
        obtain ⟨a, b, c, rfl, rfl, rfl⟩ := nat3 hid
        rw [parse3_text hid] at h1
        cases h1
    refine ⟨t, r, i, rfl, rfl, condF (by rw [hid]; rfl) ⟨s, rfl, rfl, splitOk hs, fun _ => hp, fun a b c h2 => ⟨a, b, c, rfl, rfl, leafB hp (by rw [key a b c h2]; simp)⟩⟩⟩
  · have hid : rightId t r i = true := by
      cases hid : rightId t r i with
      | true => rfl
      | false =>
        rw [textId, if_neg (by simp [hid]), parse3_nil] at h1
        cases h1
    have he : (a, b, c) = (t, r, i) := by
      rw [textId, if_pos hid] at h1
      obtain ⟨x, y, z, rfl, rfl, rfl⟩ := nat3 hid
      rw [parse3_text hid] at h1
      simpa using h1.symm
    simp only [Prod.mk.injEq] at he
    obtain ⟨rfl, rfl, rfl⟩ := he
    refine ⟨a, b, c, rfl, rfl, condF (by rw [hid]; rfl) (condF (by simp) ⟨s, rfl, rfl, splitOk hs, fun _ => hp, fun a b c h2 => ⟨a, b, c, rfl, rfl, leafB hp (by rw [key a b c h2]; simp)⟩⟩)⟩)
theorem okBackLaw (xs : List D) (h : FitAll PR 8 [25, 9] xs) (hb : bulkL xs ≤ 1048576) : ∃ lf k R, runF PR (kpT X) lf k 4 (xs.map P.d) [] = some (.d (.bool true), R) := by
  obtain ⟨x, r, rfl, hx, h⟩ := fitAll_cons h
  obtain ⟨y, r, rfl, hy, h⟩ := fitAll_cons h
  have e := fitAll_nil h
  subst e
  obtain ⟨t, r, i, rfl, _⟩ := fitId hx
  obtain ⟨s, rfl⟩ := fitS hy
  simp only [bulkL, bulk1] at hb
  obtain ⟨lf, k, hr⟩ := (okLawK (X := X)).run (y := (.d (.bool true), [])) ⟨t, r, i, s, rfl, rfl, by omega, rfl⟩
  exact ⟨lf, k, [], hr⟩
end
end Pi

/- Stamp: the world that a row's condition gives. -/
namespace Pi
open Go Go.Proofs Go.RowKit Go.Proofs.YthaoefcijckofaaDoor
set_option maxRecDepth 100000

abbrev laidL : List (String × DataW Unit) := [("math/bits.deBruijn32tab", Rows.laid_math_bits_deBruijn32tab), ("math/bits.deBruijn64tab", Rows.laid_math_bits_deBruijn64tab), ("internal/strconv.uint64pow10", Rows.laid_internal_strconv_uint64pow10), ("unicode/utf8.acceptRanges", Rows.laid_unicode_utf8_acceptRanges), ("strconv.ErrRange", Rows.laid_strconv_ErrRange), ("strconv.ErrSyntax", Rows.laid_strconv_ErrSyntax), ("unicode/utf8.first", Rows.laid_unicode_utf8_first)]

theorem gES : Tryd.prog.globalNamed "strconv.ErrSyntax" = some 0 := by kernel_rfl
theorem gER : Tryd.prog.globalNamed "strconv.ErrRange" = some 1 := by kernel_rfl
theorem gP : Tryd.prog.globalNamed "internal/strconv.uint64pow10" = some 5 := by kernel_rfl
theorem tES : (Tryd.prog.globals[0]?).map (·.type) = some 64 := by kernel_rfl
theorem tER : (Tryd.prog.globals[1]?).map (·.type) = some 64 := by kernel_rfl
theorem tP : (Tryd.prog.globals[5]?).map (·.type) = some 161 := by kernel_rfl
theorem starN : "*" ++ "errors.errorString" = "*errors.errorString" := by decide
theorem row98 (u : TypeId) (h : Tryd.prog.typeName? 3 u = some "*errors.errorString") : u = 157 :=
  typeName_ptr_named (nm := "errors.errorString") (by rw [starN]; kernel_rfl) (by kernel_rfl) (by decide) u (by rw [starN]; exact h)
theorem laidL_plain (w : World) (h : laidMetH Tryd.prog laidL w) : laidMet Tryd.prog laidL w := by
  unfold laidMetH at h
  have e : (laidL.filter fun x => x.2.handleName?.isSome) = [] := by kernel_rfl
  rw [e] at h
  exact h
theorem laidL_H (w : World) (h : laidMet Tryd.prog laidL w) : laidMetH Tryd.prog laidL w := by
  unfold laidMetH
  have e : (laidL.filter fun x => x.2.handleName?.isSome) = [] := by kernel_rfl
  rw [e]
  exact h
theorem laidP : (Rows.laid_internal_strconv_uint64pow10 : DataW Unit) = Lib.tabData .u64 Lib.pow10Tab := by kernel_rfl
theorem stW_of {W : World} (h0 : laidMetH Tryd.prog laidL W) (hs : W.ShapedOpen Tryd.prog) : StW W := by
  have h := laidL_plain W h0
  have h3 := h.tail.tail
  have h5 := h3.tail.tail
  have h6 := h5.tail
  obtain ⟨a1, s1, hv1, _, _, _⟩ := laid_sentinel h5 gER tER Tryd.underlying64 row98 Tryd.underlying157 Tryd.underlying159 rfl rfl Tryd.underlying9 (by kernel_rfl) (by kernel_rfl)
  obtain ⟨a0, s0, hv0, _, _, _⟩ := laid_sentinel h6 gES tES Tryd.underlying64 row98 Tryd.underlying157 Tryd.underlying159 rfl rfl Tryd.underlying9 (by kernel_rfl) (by kernel_rfl)
  have htab : Lib.TabIs Tryd.prog W "internal/strconv.uint64pow10" .u64 Lib.pow10Tab :=
    Lib.tabIs_of_head (k := .u64) (zs := Lib.pow10Tab) gP tP Tryd.underlying161 Tryd.underlying114 (by kernel_rfl) (by kernel_rfl) (by rw [← laidP]; exact h3)
  refine ⟨?_, ⟨_, by have := World.var?_cell gES hv0 0; simpa using this, .inr ⟨_, _, rfl⟩⟩, ⟨_, by have := World.var?_cell gER hv1 0; simpa using this, .inr ⟨_, _, rfl⟩⟩, fun w hw => ?_⟩
  · exact cell_of_shapedOpen_int (zero := #[.int .i64 0]) (t := 3) hs (Nat.le_of_ble_eq_true (by kernel_rfl)) (by kernel_rfl) rfl (by kernel_rfl) (by kernel_rfl) Tryd.underlying3
  · unfold Lib.TabIs World.var? at htab ⊢
    rw [gP] at htab ⊢
    simp only [Option.bind_some] at htab ⊢
    by_cases hb : 5 < W.heap.size
    · rw [hw 5 hb]
      exact htab
    · rw [Array.getElem?_eq_none (by omega)] at htab
      cases htab

/-- A world that meets the condition. -/
noncomputable def wL (os : Os) : World := World.laidAll Tryd.prog os laidL
theorem wL_met (os : Os) (args : Array Value) : laidMet Tryd.prog laidL ((wL os).forCall (fun _ _ => 0) ⟨#[], args, []⟩).memory :=
  laidMet_laidAll _ (by kernel_rfl) (by kernel_rfl)
end Pi

/- The bulk that a row's condition speaks of. -/
namespace Pi
open Go Go.Proofs Go.Proofs.YthaoefcijckofaaDoor
mutual
theorem bulk_row {H : Type} : ∀ d : DataW H, bulkW d ≤ Rows.uptoBulk d
  | .lit l => by cases l <;> simp [bulkW, Rows.uptoBulk]
  | .nil => by simp [bulkW, Rows.uptoBulk]
  | .ptr d => by simp [bulkW, Rows.uptoBulk]
  | .slice elems spare => by
    have h1 := bulk_rows elems
    have h2 := bulk_rows spare
    simp only [bulkW, Rows.uptoBulk]
    omega
  | .agg parts => by
    have h1 := bulk_rows parts
    simp only [bulkW, Rows.uptoBulk]
    omega
  | .iface _ d => by simp [bulkW, Rows.uptoBulk]
  | .map es => by simp [bulkW, Rows.uptoBulk]
  | .held _ => by simp [bulkW, Rows.uptoBulk]
theorem bulk_rows {H : Type} : ∀ ds : List (DataW H), bulkWs ds ≤ Rows.uptoBulkAll ds
  | [] => Nat.le_refl _
  | d :: r => by
    have h1 := bulk_row d
    have h2 := bulk_rows r
    simp only [bulkWs, Rows.uptoBulkAll]
    omega
end
theorem upto_app {H : Type} : ∀ (a b : List (DataW H)), Rows.uptoBulkAll a ≤ Rows.uptoBulkAll (a ++ b)
  | [], b => Nat.zero_le _
  | d :: a, b => by
    have := upto_app a b
    simp only [List.cons_append, Rows.uptoBulkAll]
    omega
theorem upto_bulk {H : Type} {ds gs : List (DataW H)} (h : Rows.uptoSmall H (ds ++ gs) = true) : bulkWs ds ≤ 1048576 := by
  have h1 := bulk_rows ds
  have h2 := upto_app ds gs
  simp only [Rows.uptoSmall, decide_eq_true_eq] at h
  omega
end Pi

