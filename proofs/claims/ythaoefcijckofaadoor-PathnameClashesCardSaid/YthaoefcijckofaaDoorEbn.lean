/- The texts StL2H P1 P1H P2H P3 P3H P4 P5H P6H W3. -/
import Derived.Test.YthaoefcijckofaaDoorPiBulk
import Derived.Lib.LaidTab
import Derived.Stop.LaidErr
import Derived.Shelf.Vars
import Derived.Lay
import Derived.Deep.DeepHandedRow
import Derived.SevenTiedAt
import Derived.ProofKit
import Derived.Test.YthaoefcijckofaaDoorRows
/- Stamp: the laws on texts. -/
namespace Pi
open Go Go.Proofs
set_option maxRecDepth 100000
section
variable {X : XF}
theorem splitOk {s : List UInt8} (h : s.length ≤ 2000000) : SplitOk s := by
  have hc : s.count 46 ≤ s.length := List.count_le_length
  refine ⟨by omega, ?_, ?_, fun x hx => ?_⟩
  · rw [split_by, splitBy_len, Lib.count_one]
  · rw [Lib.count_one]; omega
  · rw [split_by] at hx
    have := splitBy_each 46 s x hx
    omega
theorem textId_len (t r i : Int) : (textId t r i).length ≤ 2000000 := by
  unfold textId
  split
  · rename_i h
    simp only [rightId, decide_eq_true_eq] at h
    have l1 := itoa_len21 (n := t) (by omega) (by omega)
    have l2 := itoa_len21 (n := r) (by omega) (by omega)
    have l3 := itoa_len21 (n := i) (by omega) (by omega)
    simp [textS]; omega
  · simp
theorem fitId {m : Nat} {x : D} (h : FitE PR (m + 3) 25 x) : ∃ t r i, x = idD t r i ∧ (Lit.int .i64 t).wf = true ∧ (Lit.int .i64 r).wf = true ∧ (Lit.int .i64 i).wf = true := by
  obtain ⟨cs, rfl, hl, hf⟩ := fitE_struct (k := 3) Tryd.underlying25 (by kernel_rfl) h
  obtain ⟨a, b, c, rfl⟩ : ∃ a b c, cs = [a, b, c] := by
    match cs, hl with
    | [a, b, c], _ => exact ⟨a, b, c, rfl⟩
  have c23 : PR.cellsOf 23 = 2 := by kernel_rfl
  have c3 : PR.cellsOf 3 = 1 := by kernel_rfl
  have h1 := hf _ (List.mem_cons_self ..)
  have h2 := hf _ (List.mem_cons_of_mem _ (List.mem_cons_self ..))
  simp only [c23, List.drop_zero, List.take_succ_cons, List.take_zero] at h1
  simp only [c3, List.drop_succ_cons, List.drop_zero, List.take_succ_cons, List.take_zero] at h2
  unfold Fit at h1
  rw [Tryd.underlying23] at h1
  obtain ⟨_, hf1⟩ := h1
  have h3 := hf1 _ (List.mem_cons_self ..)
  have h4 := hf1 _ (List.mem_cons_of_mem _ (List.mem_cons_self ..))
  simp only [c3, List.drop_zero, List.take_succ_cons, List.take_zero] at h3
  simp only [c3, List.drop_succ_cons, List.drop_zero, List.take_succ_cons, List.take_zero] at h4
  obtain ⟨t, rfl, wt⟩ := fit_int Tryd.underlying3 h3
  obtain ⟨r, rfl, wr⟩ := fit_int Tryd.underlying3 h4
  obtain ⟨i, rfl, wi⟩ := fit_int Tryd.underlying3 h2
  exact ⟨t, r, i, rfl, wt, wr, wi⟩
theorem fitS {m : Nat} {x : D} (h : FitE PR (m + 1) 9 x) : ∃ s, x = .str s := by
  obtain ⟨s, rfl, _⟩ := fitE_str Tryd.underlying9 h
  exact ⟨s, rfl⟩

def hLawT : KF1 := fun ps R post => ∃ t r i s, ps = [.d (idD t r i), sD s] ∧ R = [] ∧ s.length ≤ 2000000 ∧ post (.d (.bool true), [])
theorem okLawT : FD X 3 hLawT := FD.mk (H := [(15, hAwake), (13, hParse), (14, hParseR), (16, hText), (17, hText)]) (hk := []) (by kernel_rfl)
  (.cons okAwake (.cons okParse (.cons okParseR (.cons okText (.cons okTextR .nil))))) .nil (by
  intro ps R post hh
  obtain ⟨t, r, i, s, rfl, rfl, hs, hp⟩ := hh
  rw [← vcLawT]
  refine ⟨s, rfl, rfl, splitOk hs, fun h1 => ⟨s, rfl, rfl, by omega, fun h2 => ?_, fun a b c h2 => (by rw [h1] at h2; cases h2)⟩, fun a b c h1 => ⟨s, rfl, rfl, by omega, fun h2 => (by rw [h1] at h2; cases h2), fun a' b' c' h2 => ?_⟩⟩
  · exact ⟨rfl, rfl, t, r, i, rfl, rfl, t, r, i, rfl, rfl, condT (by simp) hp⟩
  · rw [h1] at h2
    simp only [Option.some.injEq, Prod.mk.injEq] at h2
    obtain ⟨rfl, rfl, rfl⟩ := h2
    exact ⟨rfl, rfl, t, r, i, rfl, rfl, t, r, i, rfl, rfl, condT (by simp) (condT (by simp) hp)⟩)
theorem okTextsLaw (xs : List D) (h : FitAll PR 8 [25, 9] xs) (hb : bulkL xs ≤ 1048576) : ∃ lf k R, runF PR (kpT X) lf k 3 (xs.map P.d) [] = some (.d (.bool true), R) := by
  obtain ⟨x, r, rfl, hx, h⟩ := fitAll_cons h
  obtain ⟨y, r, rfl, hy, h⟩ := fitAll_cons h
  have e := fitAll_nil h
  subst e
  obtain ⟨t, r, i, rfl, _⟩ := fitId hx
  obtain ⟨s, rfl⟩ := fitS hy
  simp only [bulkL, bulk1] at hb
  obtain ⟨lf, k, hr⟩ := (okLawT (X := X)).run (y := (.d (.bool true), [])) ⟨t, r, i, s, rfl, rfl, by omega, rfl⟩
  exact ⟨lf, k, [], hr⟩

theorem parse3_nil : parse3 [] = none := by
  unfold parse3
  rw [split_by]
  rfl
def hLawK : KF1 := fun ps R post => ∃ t r i s, ps = [.d (idD t r i), sD s] ∧ R = [] ∧ s.length ≤ 2000000 ∧ post (.d (.bool true), [])
theorem okLawK : FD X 4 hLawK := FD.mk (H := [(15, hAwake), (13, hParse), (16, hText), (18, hRightId)]) (hk := []) (by kernel_rfl)
  (.cons okAwake (.cons okParse (.cons okText (.cons okRightId .nil)))) .nil (by
  intro ps R post hh
  obtain ⟨t, r, i, s, rfl, rfl, hs, hp⟩ := hh
  rw [← vcLawK]
  have key : ∀ a b c, parse3 s = some (a, b, c) → textId a b c = s := fun a b c h => by
    obtain ⟨h1, h2⟩ := parse3_some h
    rw [textId, if_pos h1, h2]
  refine ⟨rfl, rfl, t, r, i, rfl, rfl, _, rfl, rfl, splitOk (textId_len t r i), fun h1 => ?_, fun a b c h1 => ?_⟩
  · have hid : rightId t r i = false := by
      cases hid : rightId t r i with
      | false => rfl
      | true =>
        rw [textId, if_pos hid] at h1
        obtain ⟨a, b, c, rfl, rfl, rfl⟩ := nat3 hid
        rw [parse3_text hid] at h1
        cases h1
    refine ⟨t, r, i, rfl, rfl, condF (by rw [hid]; rfl) ⟨s, rfl, rfl, splitOk hs, fun _ => hp, fun a b c h2 => ⟨a, b, c, rfl, rfl, leafB hp (by rw [key a b c h2]; simp)⟩⟩⟩
  · have hid : rightId t r i = true := by
      cases hid : rightId t r i with
      | true => rfl
      | false =>
        rw [textId, if_neg (by simp [hid]), parse3_nil] at h1
        cases h1
    have he : (a, b, c) = (t, r, i) := by
      rw [textId, if_pos hid] at h1
      obtain ⟨x, y, z, rfl, rfl, rfl⟩ := nat3 hid
      rw [parse3_text hid] at h1
      simpa using h1.symm
    simp only [Prod.mk.injEq] at he
    obtain ⟨rfl, rfl, rfl⟩ := he
    refine ⟨a, b, c, rfl, rfl, condF (by rw [hid]; rfl) (condF (by simp) ⟨s, rfl, rfl, splitOk hs, fun _ => hp, fun a b c h2 => ⟨a, b, c, rfl, rfl, leafB hp (by rw [key a b c h2]; simp)⟩⟩)⟩)
theorem okBackLaw (xs : List D) (h : FitAll PR 8 [25, 9] xs) (hb : bulkL xs ≤ 1048576) : ∃ lf k R, runF PR (kpT X) lf k 4 (xs.map P.d) [] = some (.d (.bool true), R) := by
  obtain ⟨x, r, rfl, hx, h⟩ := fitAll_cons h
  obtain ⟨y, r, rfl, hy, h⟩ := fitAll_cons h
  have e := fitAll_nil h
  subst e
  obtain ⟨t, r, i, rfl, _⟩ := fitId hx
  obtain ⟨s, rfl⟩ := fitS hy
  simp only [bulkL, bulk1] at hb
  obtain ⟨lf, k, hr⟩ := (okLawK (X := X)).run (y := (.d (.bool true), [])) ⟨t, r, i, s, rfl, rfl, by omega, rfl⟩
  exact ⟨lf, k, [], hr⟩
end
end Pi

/- Pathname: the loops and small functions: what their runs ask. -/
namespace Pi
open Go Go.Proofs
set_option maxRecDepth 100000
set_option maxHeartbeats 0
abbrev tD (l : List (List UInt8)) : P := .d (.sl 1 (l.map D.str))
abbrev bD' (b : Bool) : P := .d (.bool b)
def hTrim : KF1 := fun ps R post => ∃ s c, ps = [sD s, sD c] ∧ R = [] ∧ (s.length ≤ 9223372036854775807 ∧ c.length < 4294967281 ∧ c.all (fun b => decide (b.toNat < 128)) = true) ∧ post (sD (Lib.trimS s c), [])
def hCut : KF1 := fun ps R post => ∃ s c, ps = [sD s, sD c] ∧ R = [] ∧ s.length < 4294967281 ∧ post (.tup [sD (Lib.cut s c).1, sD (Lib.cut s c).2.1, .d (.bool (Lib.cut s c).2.2)], [])
def hCutP : KF1 := fun ps R post => ∃ s c, ps = [sD s, sD c] ∧ R = [] ∧ post (.tup [sD (Lib.trimPrefix s c), .d (.bool (Lib.hasPrefix s c))], [])
def hJoinL : KF1 := fun ps R post => ∃ l c, ps = [tD l, sD c] ∧ R = [] ∧ (l.length ≤ 140737488355328 ∧ (Lib.join l c).length ≤ 140737488355328) ∧ post (sD (Lib.join l c), [])
def hName : KF1 := fun ps R post => ∃ s, ps = [sD s] ∧ R = [] ∧ post (bD' (nameOk s), [])
def hSeen : KF1 := fun ps R post => ∃ s, ps = [sD s] ∧ R = [] ∧ s.length ≤ 2000000 ∧ post (bD' (seenOk s), [])
def hClash : KF1 := fun ps R post => ∃ s t r i, ps = [sD s, .d (idD t r i)] ∧ R = [] ∧ post (.tup [sD (clashP s t r i).1, iD (clashP s t r i).2], [])
def hSplitP : KF1 := fun ps R post => ∃ s, ps = [sD s] ∧ R = [] ∧ s.length ≤ 2000000 ∧ ∀ n e l, splitP s = (e, l) → n = l.length → post (.tup [.sl 0 0 n, iD e], [(0, ⟨0, none, .arr 9 false (l.map D.str)⟩)])
abbrev nmH (s : List UInt8) (k : Int) : S := ⟨64, [(0, sD s), (3, iD k)], []⟩
abbrev seH (s : List UInt8) (k : Int) : S := ⟨33, [(0, sD s), (3, iD k)], []⟩
abbrev spH (l : List (List UInt8)) (m m' : Nat) (n k : Int) : S := ⟨36, [(6, .sl 0 0 m), (22, .sl 0 0 m'), (23, iD n), (24, iD k)], [(0, ⟨0, none, .arr 9 false (l.map D.str)⟩)]⟩
abbrev srH (s : List UInt8) (o : List (List UInt8)) (m : Nat) (f i : Int) : S := ⟨51, [(0, sD s), (4, .sl 0 0 m), (5, iD f), (6, iD i)], [(0, ⟨0, none, .arr 9 false (o.map D.str)⟩)]⟩
abbrev jnH (l : List (List UInt8)) (s : List UInt8) (k : Int) : S := ⟨21, [(0, tD l), (3, sD s), (4, iD k)], []⟩
abbrev stH (v w : List (List UInt8)) (k : Int) : S := ⟨26, [(0, tD v), (1, tD w), (5, iD k)], []⟩
theorem vcName (s : List UInt8) (post : P × List (Nat × En) → Prop) : (bif !s == [] then bif decide ((↑(List.length s) : Int) ≤ (32 : Int)) then bif !s == [(46 : UInt8)] then bif !s == [(46 : UInt8), (46 : UInt8)] then ∃ (s_1 : List UInt8), ∃ (c : List UInt8), [P.d (D.str s), P.d (D.str [(48 : UInt8), (49 : UInt8), (50 : UInt8), (51 : UInt8), (52 : UInt8), (53 : UInt8), (54 : UInt8), (55 : UInt8), (56 : UInt8), (57 : UInt8), (65 : UInt8), (66 : UInt8), (67 : UInt8), (68 : UInt8), (69 : UInt8), (70 : UInt8), (71 : UInt8), (72 : UInt8), (73 : UInt8), (74 : UInt8), (75 : UInt8), (76 : UInt8), (77 : UInt8), (78 : UInt8), (79 : UInt8), (80 : UInt8), (81 : UInt8), (82 : UInt8), (83 : UInt8), (84 : UInt8), (85 : UInt8), (86 : UInt8), (87 : UInt8), (88 : UInt8), (89 : UInt8), (90 : UInt8), (97 : UInt8), (98 : UInt8), (99 : UInt8), (100 : UInt8), (101 : UInt8), (102 : UInt8), (103 : UInt8), (104 : UInt8), (105 : UInt8), (106 : UInt8), (107 : UInt8), (108 : UInt8), (109 : UInt8), (110 : UInt8), (111 : UInt8), (112 : UInt8), (113 : UInt8), (114 : UInt8), (115 : UInt8), (116 : UInt8), (117 : UInt8), (118 : UInt8), (119 : UInt8), (120 : UInt8), (121 : UInt8), (122 : UInt8), (46 : UInt8), (45 : UInt8), (95 : UInt8)])] = [P.d (D.str s_1), P.d (D.str c)] ∧ EqR [] [] ∧ (List.length s_1 ≤ 9223372036854775807 ∧ List.length c < 4294967281 ∧ (List.all c fun (b : UInt8) => decide (UInt8.toNat b < 128)) = true) ∧ post (P.d (D.bool (Lib.trimS s_1 c == [])), []) else post (P.d (D.bool false), []) else post (P.d (D.bool false), []) else post (P.d (D.bool false), []) else post (P.d (D.bool false), [])) = (bodyF [(63, hTrim)] [] 37 [sD s] []) post := by kernel_rfl
theorem vcNmN (s : List UInt8) (k : Int) (post : PX × S → Prop) : (bif decide (k < (↑(List.length s) : Int)) then bif decide ((0 : Int) ≤ k ∧ k < (↑(List.length s) : Int)) then bif decide ((↑(UInt8.toNat (List.getD s (Int.toNat k) (0 : UInt8))) : Int) ≥ (48 : Int)) then bif decide ((↑(UInt8.toNat (List.getD s (Int.toNat k) (0 : UInt8))) : Int) ≤ (57 : Int)) then bif decide ((-9223372036854775808 : Int) ≤ k + (1 : Int) ∧ k + (1 : Int) ≤ (9223372036854775807 : Int)) then post (PX.normal, S.mk 64 [(0, P.d (D.str s)), (3, P.d (D.int IntKind.i64 (k + (1 : Int))))] []) else False else bif decide ((↑(UInt8.toNat (List.getD s (Int.toNat k) (0 : UInt8))) : Int) ≥ (65 : Int)) then bif decide ((↑(UInt8.toNat (List.getD s (Int.toNat k) (0 : UInt8))) : Int) ≤ (90 : Int)) then bif decide ((-9223372036854775808 : Int) ≤ k + (1 : Int) ∧ k + (1 : Int) ≤ (9223372036854775807 : Int)) then post (PX.normal, S.mk 64 [(0, P.d (D.str s)), (3, P.d (D.int IntKind.i64 (k + (1 : Int))))] []) else False else bif decide ((↑(UInt8.toNat (List.getD s (Int.toNat k) (0 : UInt8))) : Int) ≥ (97 : Int)) then bif decide ((↑(UInt8.toNat (List.getD s (Int.toNat k) (0 : UInt8))) : Int) ≤ (122 : Int)) then bif decide ((-9223372036854775808 : Int) ≤ k + (1 : Int) ∧ k + (1 : Int) ≤ (9223372036854775807 : Int)) then post (PX.normal, S.mk 64 [(0, P.d (D.str s)), (3, P.d (D.int IntKind.i64 (k + (1 : Int))))] []) else False else bif (↑(UInt8.toNat (List.getD s (Int.toNat k) (0 : UInt8))) : Int) == (46 : Int) then bif decide ((-9223372036854775808 : Int) ≤ k + (1 : Int) ∧ k + (1 : Int) ≤ (9223372036854775807 : Int)) then post (PX.normal, S.mk 64 [(0, P.d (D.str s)), (3, P.d (D.int IntKind.i64 (k + (1 : Int))))] []) else False else bif (↑(UInt8.toNat (List.getD s (Int.toNat k) (0 : UInt8))) : Int) == (45 : Int) then bif decide ((-9223372036854775808 : Int) ≤ k + (1 : Int) ∧ k + (1 : Int) ≤ (9223372036854775807 : Int)) then post (PX.normal, S.mk 64 [(0, P.d (D.str s)), (3, P.d (D.int IntKind.i64 (k + (1 : Int))))] []) else False else bif !(↑(UInt8.toNat (List.getD s (Int.toNat k) (0 : UInt8))) : Int) == (95 : Int) then post (PX.ret, S.mk 64 [(2, P.d (D.bool false))] []) else bif decide ((-9223372036854775808 : Int) ≤ k + (1 : Int) ∧ k + (1 : Int) ≤ (9223372036854775807 : Int)) then post (PX.normal, S.mk 64 [(0, P.d (D.str s)), (3, P.d (D.int IntKind.i64 (k + (1 : Int))))] []) else False else bif (↑(UInt8.toNat (List.getD s (Int.toNat k) (0 : UInt8))) : Int) == (46 : Int) then bif decide ((-9223372036854775808 : Int) ≤ k + (1 : Int) ∧ k + (1 : Int) ≤ (9223372036854775807 : Int)) then post (PX.normal, S.mk 64 [(0, P.d (D.str s)), (3, P.d (D.int IntKind.i64 (k + (1 : Int))))] []) else False else bif (↑(UInt8.toNat (List.getD s (Int.toNat k) (0 : UInt8))) : Int) == (45 : Int) then bif decide ((-9223372036854775808 : Int) ≤ k + (1 : Int) ∧ k + (1 : Int) ≤ (9223372036854775807 : Int)) then post (PX.normal, S.mk 64 [(0, P.d (D.str s)), (3, P.d (D.int IntKind.i64 (k + (1 : Int))))] []) else False else bif !(↑(UInt8.toNat (List.getD s (Int.toNat k) (0 : UInt8))) : Int) == (95 : Int) then post (PX.ret, S.mk 64 [(2, P.d (D.bool false))] []) else bif decide ((-9223372036854775808 : Int) ≤ k + (1 : Int) ∧ k + (1 : Int) ≤ (9223372036854775807 : Int)) then post (PX.normal, S.mk 64 [(0, P.d (D.str s)), (3, P.d (D.int IntKind.i64 (k + (1 : Int))))] []) else False else bif decide ((↑(UInt8.toNat (List.getD s (Int.toNat k) (0 : UInt8))) : Int) ≥ (97 : Int)) then bif decide ((↑(UInt8.toNat (List.getD s (Int.toNat k) (0 : UInt8))) : Int) ≤ (122 : Int)) then bif decide ((-9223372036854775808 : Int) ≤ k + (1 : Int) ∧ k + (1 : Int) ≤ (9223372036854775807 : Int)) then post (PX.normal, S.mk 64 [(0, P.d (D.str s)), (3, P.d (D.int IntKind.i64 (k + (1 : Int))))] []) else False else bif (↑(UInt8.toNat (List.getD s (Int.toNat k) (0 : UInt8))) : Int) == (46 : Int) then bif decide ((-9223372036854775808 : Int) ≤ k + (1 : Int) ∧ k + (1 : Int) ≤ (9223372036854775807 : Int)) then post (PX.normal, S.mk 64 [(0, P.d (D.str s)), (3, P.d (D.int IntKind.i64 (k + (1 : Int))))] []) else False else bif (↑(UInt8.toNat (List.getD s (Int.toNat k) (0 : UInt8))) : Int) == (45 : Int) then bif decide ((-9223372036854775808 : Int) ≤ k + (1 : Int) ∧ k + (1 : Int) ≤ (9223372036854775807 : Int)) then post (PX.normal, S.mk 64 [(0, P.d (D.str s)), (3, P.d (D.int IntKind.i64 (k + (1 : Int))))] []) else False else bif !(↑(UInt8.toNat (List.getD s (Int.toNat k) (0 : UInt8))) : Int) == (95 : Int) then post (PX.ret, S.mk 64 [(2, P.d (D.bool false))] []) else bif decide ((-9223372036854775808 : Int) ≤ k + (1 : Int) ∧ k + (1 : Int) ≤ (9223372036854775807 : Int)) then post (PX.normal, S.mk 64 [(0, P.d (D.str s)), (3, P.d (D.int IntKind.i64 (k + (1 : Int))))] []) else False else bif (↑(UInt8.toNat (List.getD s (Int.toNat k) (0 : UInt8))) : Int) == (46 : Int) then bif decide ((-9223372036854775808 : Int) ≤ k + (1 : Int) ∧ k + (1 : Int) ≤ (9223372036854775807 : Int)) then post (PX.normal, S.mk 64 [(0, P.d (D.str s)), (3, P.d (D.int IntKind.i64 (k + (1 : Int))))] []) else False else bif (↑(UInt8.toNat (List.getD s (Int.toNat k) (0 : UInt8))) : Int) == (45 : Int) then bif decide ((-9223372036854775808 : Int) ≤ k + (1 : Int) ∧ k + (1 : Int) ≤ (9223372036854775807 : Int)) then post (PX.normal, S.mk 64 [(0, P.d (D.str s)), (3, P.d (D.int IntKind.i64 (k + (1 : Int))))] []) else False else bif !(↑(UInt8.toNat (List.getD s (Int.toNat k) (0 : UInt8))) : Int) == (95 : Int) then post (PX.ret, S.mk 64 [(2, P.d (D.bool false))] []) else bif decide ((-9223372036854775808 : Int) ≤ k + (1 : Int) ∧ k + (1 : Int) ≤ (9223372036854775807 : Int)) then post (PX.normal, S.mk 64 [(0, P.d (D.str s)), (3, P.d (D.int IntKind.i64 (k + (1 : Int))))] []) else False else bif decide ((↑(UInt8.toNat (List.getD s (Int.toNat k) (0 : UInt8))) : Int) ≥ (65 : Int)) then bif decide ((↑(UInt8.toNat (List.getD s (Int.toNat k) (0 : UInt8))) : Int) ≤ (90 : Int)) then bif decide ((-9223372036854775808 : Int) ≤ k + (1 : Int) ∧ k + (1 : Int) ≤ (9223372036854775807 : Int)) then post (PX.normal, S.mk 64 [(0, P.d (D.str s)), (3, P.d (D.int IntKind.i64 (k + (1 : Int))))] []) else False else bif decide ((↑(UInt8.toNat (List.getD s (Int.toNat k) (0 : UInt8))) : Int) ≥ (97 : Int)) then bif decide ((↑(UInt8.toNat (List.getD s (Int.toNat k) (0 : UInt8))) : Int) ≤ (122 : Int)) then bif decide ((-9223372036854775808 : Int) ≤ k + (1 : Int) ∧ k + (1 : Int) ≤ (9223372036854775807 : Int)) then post (PX.normal, S.mk 64 [(0, P.d (D.str s)), (3, P.d (D.int IntKind.i64 (k + (1 : Int))))] []) else False else bif (↑(UInt8.toNat (List.getD s (Int.toNat k) (0 : UInt8))) : Int) == (46 : Int) then bif decide ((-9223372036854775808 : Int) ≤ k + (1 : Int) ∧ k + (1 : Int) ≤ (9223372036854775807 : Int)) then post (PX.normal, S.mk 64 [(0, P.d (D.str s)), (3, P.d (D.int IntKind.i64 (k + (1 : Int))))] []) else False else bif (↑(UInt8.toNat (List.getD s (Int.toNat k) (0 : UInt8))) : Int) == (45 : Int) then bif decide ((-9223372036854775808 : Int) ≤ k + (1 : Int) ∧ k + (1 : Int) ≤ (9223372036854775807 : Int)) then post (PX.normal, S.mk 64 [(0, P.d (D.str s)), (3, P.d (D.int IntKind.i64 (k + (1 : Int))))] []) else False else bif !(↑(UInt8.toNat (List.getD s (Int.toNat k) (0 : UInt8))) : Int) == (95 : Int) then post (PX.ret, S.mk 64 [(2, P.d (D.bool false))] []) else bif decide ((-9223372036854775808 : Int) ≤ k + (1 : Int) ∧ k + (1 : Int) ≤ (9223372036854775807 : Int)) then post (PX.normal, S.mk 64 [(0, P.d (D.str s)), (3, P.d (D.int IntKind.i64 (k + (1 : Int))))] []) else False else bif (↑(UInt8.toNat (List.getD s (Int.toNat k) (0 : UInt8))) : Int) == (46 : Int) then bif decide ((-9223372036854775808 : Int) ≤ k + (1 : Int) ∧ k + (1 : Int) ≤ (9223372036854775807 : Int)) then post (PX.normal, S.mk 64 [(0, P.d (D.str s)), (3, P.d (D.int IntKind.i64 (k + (1 : Int))))] []) else False else bif (↑(UInt8.toNat (List.getD s (Int.toNat k) (0 : UInt8))) : Int) == (45 : Int) then bif decide ((-9223372036854775808 : Int) ≤ k + (1 : Int) ∧ k + (1 : Int) ≤ (9223372036854775807 : Int)) then post (PX.normal, S.mk 64 [(0, P.d (D.str s)), (3, P.d (D.int IntKind.i64 (k + (1 : Int))))] []) else False else bif !(↑(UInt8.toNat (List.getD s (Int.toNat k) (0 : UInt8))) : Int) == (95 : Int) then post (PX.ret, S.mk 64 [(2, P.d (D.bool false))] []) else bif decide ((-9223372036854775808 : Int) ≤ k + (1 : Int) ∧ k + (1 : Int) ≤ (9223372036854775807 : Int)) then post (PX.normal, S.mk 64 [(0, P.d (D.str s)), (3, P.d (D.int IntKind.i64 (k + (1 : Int))))] []) else False else bif decide ((↑(UInt8.toNat (List.getD s (Int.toNat k) (0 : UInt8))) : Int) ≥ (97 : Int)) then bif decide ((↑(UInt8.toNat (List.getD s (Int.toNat k) (0 : UInt8))) : Int) ≤ (122 : Int)) then bif decide ((-9223372036854775808 : Int) ≤ k + (1 : Int) ∧ k + (1 : Int) ≤ (9223372036854775807 : Int)) then post (PX.normal, S.mk 64 [(0, P.d (D.str s)), (3, P.d (D.int IntKind.i64 (k + (1 : Int))))] []) else False else bif (↑(UInt8.toNat (List.getD s (Int.toNat k) (0 : UInt8))) : Int) == (46 : Int) then bif decide ((-9223372036854775808 : Int) ≤ k + (1 : Int) ∧ k + (1 : Int) ≤ (9223372036854775807 : Int)) then post (PX.normal, S.mk 64 [(0, P.d (D.str s)), (3, P.d (D.int IntKind.i64 (k + (1 : Int))))] []) else False else bif (↑(UInt8.toNat (List.getD s (Int.toNat k) (0 : UInt8))) : Int) == (45 : Int) then bif decide ((-9223372036854775808 : Int) ≤ k + (1 : Int) ∧ k + (1 : Int) ≤ (9223372036854775807 : Int)) then post (PX.normal, S.mk 64 [(0, P.d (D.str s)), (3, P.d (D.int IntKind.i64 (k + (1 : Int))))] []) else False else bif !(↑(UInt8.toNat (List.getD s (Int.toNat k) (0 : UInt8))) : Int) == (95 : Int) then post (PX.ret, S.mk 64 [(2, P.d (D.bool false))] []) else bif decide ((-9223372036854775808 : Int) ≤ k + (1 : Int) ∧ k + (1 : Int) ≤ (9223372036854775807 : Int)) then post (PX.normal, S.mk 64 [(0, P.d (D.str s)), (3, P.d (D.int IntKind.i64 (k + (1 : Int))))] []) else False else bif (↑(UInt8.toNat (List.getD s (Int.toNat k) (0 : UInt8))) : Int) == (46 : Int) then bif decide ((-9223372036854775808 : Int) ≤ k + (1 : Int) ∧ k + (1 : Int) ≤ (9223372036854775807 : Int)) then post (PX.normal, S.mk 64 [(0, P.d (D.str s)), (3, P.d (D.int IntKind.i64 (k + (1 : Int))))] []) else False else bif (↑(UInt8.toNat (List.getD s (Int.toNat k) (0 : UInt8))) : Int) == (45 : Int) then bif decide ((-9223372036854775808 : Int) ≤ k + (1 : Int) ∧ k + (1 : Int) ≤ (9223372036854775807 : Int)) then post (PX.normal, S.mk 64 [(0, P.d (D.str s)), (3, P.d (D.int IntKind.i64 (k + (1 : Int))))] []) else False else bif !(↑(UInt8.toNat (List.getD s (Int.toNat k) (0 : UInt8))) : Int) == (95 : Int) then post (PX.ret, S.mk 64 [(2, P.d (D.bool false))] []) else bif decide ((-9223372036854775808 : Int) ≤ k + (1 : Int) ∧ k + (1 : Int) ≤ (9223372036854775807 : Int)) then post (PX.normal, S.mk 64 [(0, P.d (D.str s)), (3, P.d (D.int IntKind.i64 (k + (1 : Int))))] []) else False else False else post (PX.exit 0, S.mk 64 [] [])) = (roundL [] [] 38 4 (nmH s k)) post := by kernel_rfl
theorem vcSeN (s : List UInt8) (k : Int) (post : PX × S → Prop) : (bif decide (k < (↑(List.length s) : Int)) then bif decide ((0 : Int) ≤ k ∧ k < (↑(List.length s) : Int)) then bif (↑(UInt8.toNat (List.getD s (Int.toNat k) (0 : UInt8))) : Int) == (126 : Int) then bif decide ((-9223372036854775808 : Int) ≤ k + (1 : Int) ∧ k + (1 : Int) ≤ (9223372036854775807 : Int)) then bif decide ((0 : Int) ≤ k + (1 : Int) ∧ k + (1 : Int) ≤ (↑(List.length s) : Int)) then ∃ (s_1 : List UInt8), [P.d (D.str (List.drop (Int.toNat (k + (1 : Int))) (List.take (List.length s) s)))] = [P.d (D.str s_1)] ∧ EqR [] [] ∧ List.length s_1 ≤ 9223372036854775807 ∧ (parse3 s_1 = none → post (PX.ret, S.mk 33 [(0, P.d (D.str s)), (2, P.d (D.bool false))] [])) ∧ ∀ (t r i : Int), parse3 s_1 = some (t, r, i) → bif decide ((0 : Int) ≤ k ∧ k ≤ (↑(List.length s) : Int)) then ∃ (s_2 : List UInt8), [P.d (D.str (List.drop 0 (List.take (Int.toNat k) s)))] = [P.d (D.str s_2)] ∧ EqR [] [] ∧ post (PX.ret, S.mk 33 [(0, P.d (D.str s)), (2, P.d (D.bool (nameOk s_2)))] []) else False else False else False else bif decide ((-9223372036854775808 : Int) ≤ k + (1 : Int) ∧ k + (1 : Int) ≤ (9223372036854775807 : Int)) then post (PX.normal, S.mk 33 [(0, P.d (D.str s)), (3, P.d (D.int IntKind.i64 (k + (1 : Int))))] []) else False else False else post (PX.exit 0, S.mk 33 [(0, P.d (D.str s))] [])) = (roundL [(14, hParseR), (38, hName)] [] 40 2 (seH s k)) post := by kernel_rfl
theorem vcSpN (l : List (List UInt8)) (m m' : Nat) (n k : Int) (post : PX × S → Prop) : (bif decide (k < n) then bif decide ((0 : Int) ≤ k ∧ k < (↑m' : Int)) then bif decide (Int.toNat k < List.length (List.map D.str l)) then bif isD PR (9 : TypeId) (D.nth (List.map D.str l) (Int.toNat k)) then ∃ (s : List UInt8), [P.d (D.str (D.sVal (D.nth (List.map D.str l) (Int.toNat k))))] = [P.d (D.str s)] ∧ EqR [] [] ∧ List.length s ≤ 2000000 ∧ bif !seenOk s then post (PX.ret, S.mk 36 [(2, P.sl 0 0 0), (3, P.d (D.int IntKind.i64 (70 : Int))), (6, P.sl 1 0 m)] [(0, En.mk 0 none (Obj.arr 9 false [])), (1, En.mk 0 none (Obj.arr 9 false (List.map D.str l)))]) else bif decide ((-9223372036854775808 : Int) ≤ k + (1 : Int) ∧ k + (1 : Int) ≤ (9223372036854775807 : Int)) then post (PX.normal, S.mk 36 [(6, P.sl 0 0 m), (22, P.sl 0 0 m'), (23, P.d (D.int IntKind.i64 n)), (24, P.d (D.int IntKind.i64 (k + (1 : Int))))] [(0, En.mk 0 none (Obj.arr 9 false (List.map D.str l)))]) else False else False else False else False else post (PX.exit 1, S.mk 36 [(6, P.sl 0 0 m)] [(0, En.mk 0 none (Obj.arr 9 false (List.map D.str l)))])) = (roundL [(39, hSeen)] [] 41 8 (spH l m m' n k)) post := by kernel_rfl
theorem vcSrN (s : List UInt8) (o : List (List UInt8)) (m : Nat) (f i : Int) (post : PX × S → Prop) : (bif decide (i ≤ (↑(List.length s) : Int)) then bif i == (↑(List.length s) : Int) then bif decide ((0 : Int) ≤ i ∧ i ≤ (↑(List.length s) : Int)) then bif decide ((0 : Int) ≤ f ∧ f ≤ (↑(Int.toNat i) : Int)) then ∃ (s_1 : List UInt8), [P.d (D.str (List.drop (Int.toNat f) (List.take (Int.toNat i) s)))] = [P.d (D.str s_1)] ∧ EqR [] [] ∧ List.length s_1 ≤ 2000000 ∧ bif !seenOk s_1 then post (PX.ret, S.mk 51 [(2, P.sl 0 0 0), (3, P.d (D.int IntKind.i64 (70 : Int))), (4, P.sl 1 0 m)] [(0, En.mk 0 none (Obj.arr 9 false [])), (1, En.mk 0 none (Obj.arr 9 false (List.map D.str o)))]) else bif decide ((0 : Int) ≤ i ∧ i ≤ (↑(List.length s) : Int)) then bif decide ((0 : Int) ≤ f ∧ f ≤ (↑(Int.toNat i) : Int)) then bif Nat.ble m (List.length (List.map D.str o)) && roomOk (m + List.length [D.str (List.drop (Int.toNat f) (List.take (Int.toNat i) s))]) 16 then bif decide ((-9223372036854775808 : Int) ≤ i + (1 : Int) ∧ i + (1 : Int) ≤ (9223372036854775807 : Int)) then bif decide ((-9223372036854775808 : Int) ≤ i + (1 : Int) ∧ i + (1 : Int) ≤ (9223372036854775807 : Int)) then post (PX.normal, S.mk 51 [(0, P.d (D.str s)), (4, P.sl 0 0 (m + List.length [D.str (List.drop (Int.toNat f) (List.take (Int.toNat i) s))])), (5, P.d (D.int IntKind.i64 (i + (1 : Int)))), (6, P.d (D.int IntKind.i64 (i + (1 : Int))))] [(0, En.mk 0 none (Obj.arr 9 false (List.take m (List.map D.str o) ++ [D.str (List.drop (Int.toNat f) (List.take (Int.toNat i) s))])))]) else False else False else False else False else False else False else False else bif decide ((0 : Int) ≤ i ∧ i < (↑(List.length s) : Int)) then bif (↑(UInt8.toNat (List.getD s (Int.toNat i) (0 : UInt8))) : Int) == (47 : Int) then bif decide ((0 : Int) ≤ i ∧ i ≤ (↑(List.length s) : Int)) then bif decide ((0 : Int) ≤ f ∧ f ≤ (↑(Int.toNat i) : Int)) then ∃ (s_1 : List UInt8), [P.d (D.str (List.drop (Int.toNat f) (List.take (Int.toNat i) s)))] = [P.d (D.str s_1)] ∧ EqR [] [] ∧ List.length s_1 ≤ 2000000 ∧ bif !seenOk s_1 then post (PX.ret, S.mk 51 [(2, P.sl 0 0 0), (3, P.d (D.int IntKind.i64 (70 : Int))), (4, P.sl 1 0 m)] [(0, En.mk 0 none (Obj.arr 9 false [])), (1, En.mk 0 none (Obj.arr 9 false (List.map D.str o)))]) else bif decide ((0 : Int) ≤ i ∧ i ≤ (↑(List.length s) : Int)) then bif decide ((0 : Int) ≤ f ∧ f ≤ (↑(Int.toNat i) : Int)) then bif Nat.ble m (List.length (List.map D.str o)) && roomOk (m + List.length [D.str (List.drop (Int.toNat f) (List.take (Int.toNat i) s))]) 16 then bif decide ((-9223372036854775808 : Int) ≤ i + (1 : Int) ∧ i + (1 : Int) ≤ (9223372036854775807 : Int)) then bif decide ((-9223372036854775808 : Int) ≤ i + (1 : Int) ∧ i + (1 : Int) ≤ (9223372036854775807 : Int)) then post (PX.normal, S.mk 51 [(0, P.d (D.str s)), (4, P.sl 0 0 (m + List.length [D.str (List.drop (Int.toNat f) (List.take (Int.toNat i) s))])), (5, P.d (D.int IntKind.i64 (i + (1 : Int)))), (6, P.d (D.int IntKind.i64 (i + (1 : Int))))] [(0, En.mk 0 none (Obj.arr 9 false (List.take m (List.map D.str o) ++ [D.str (List.drop (Int.toNat f) (List.take (Int.toNat i) s))])))]) else False else False else False else False else False else False else False else bif decide ((-9223372036854775808 : Int) ≤ i + (1 : Int) ∧ i + (1 : Int) ≤ (9223372036854775807 : Int)) then post (PX.normal, S.mk 51 [(0, P.d (D.str s)), (4, P.sl 0 0 m), (5, P.d (D.int IntKind.i64 f)), (6, P.d (D.int IntKind.i64 (i + (1 : Int))))] [(0, En.mk 0 none (Obj.arr 9 false (List.map D.str o)))]) else False else False else post (PX.exit 0, S.mk 51 [(4, P.sl 0 0 m)] [(0, En.mk 0 none (Obj.arr 9 false (List.map D.str o)))])) = (roundL [(40, hSeen)] [] 42 8 (srH s o m f i)) post := by kernel_rfl
theorem vcJnN (l : List (List UInt8)) (s : List UInt8) (k : Int) (post : PX × S → Prop) : (bif decide (k < (↑(List.length (List.map D.str l)) : Int)) then bif decide (List.length s + 1 ≤ 9223372036854775807) then bif decide ((0 : Int) ≤ k ∧ k < (↑(List.length (List.map D.str l)) : Int)) then bif isD PR 9 (D.nth (List.map D.str l) (Int.toNat k)) then bif decide (List.length (s ++ [(47 : UInt8)]) + List.length (D.sVal (D.nth (List.map D.str l) (Int.toNat k))) ≤ 9223372036854775807) then bif decide ((-9223372036854775808 : Int) ≤ k + (1 : Int) ∧ k + (1 : Int) ≤ (9223372036854775807 : Int)) then post (PX.normal, S.mk 21 [(0, P.d (D.sl 1 (List.map D.str l))), (3, P.d (D.str (s ++ [(47 : UInt8)] ++ D.sVal (D.nth (List.map D.str l) (Int.toNat k))))), (4, P.d (D.int IntKind.i64 (k + (1 : Int))))] []) else False else False else False else False else False else post (PX.exit 0, S.mk 21 [(3, P.d (D.str s))] [])) = (roundL [] [] 45 3 (jnH l s k)) post := by kernel_rfl
theorem vcStN (v w : List (List UInt8)) (k : Int) (post : PX × S → Prop) : (bif decide (k < (↑(List.length (List.map D.str v)) : Int)) then bif decide ((0 : Int) ≤ k ∧ k < (↑(List.length (List.map D.str v)) : Int)) then bif isD PR 9 (D.nth (List.map D.str v) (Int.toNat k)) then bif decide ((0 : Int) ≤ k ∧ k < (↑(List.length (List.map D.str w)) : Int)) then bif isD PR 9 (D.nth (List.map D.str w) (Int.toNat k)) then bif !D.sVal (D.nth (List.map D.str v) (Int.toNat k)) == D.sVal (D.nth (List.map D.str w) (Int.toNat k)) then post (PX.ret, S.mk 26 [(4, P.d (D.bool false))] []) else bif decide ((-9223372036854775808 : Int) ≤ k + (1 : Int) ∧ k + (1 : Int) ≤ (9223372036854775807 : Int)) then post (PX.normal, S.mk 26 [(0, P.d (D.sl 1 (List.map D.str v))), (1, P.d (D.sl 1 (List.map D.str w))), (5, P.d (D.int IntKind.i64 (k + (1 : Int))))] []) else False else False else False else False else False else post (PX.exit 0, S.mk 26 [] [])) = (roundL [] [] 43 4 (stH v w k)) post := by kernel_rfl
theorem vcSeen (s : List UInt8) (post : P × List (Nat × En) → Prop) : (∃ (s_1 : List UInt8), ∃ (c : List UInt8), [P.d (D.str s), P.d (D.str [(126 : UInt8)])] = [P.d (D.str s_1), P.d (D.str c)] ∧ EqR [] [] ∧ List.length s_1 < 4294967281 ∧ bif Prod.snd (Prod.snd (Lib.cut s_1 c)) then ∃ (s : List UInt8), [P.d (D.str (Prod.fst (Prod.snd (Lib.cut s_1 c))))] = [P.d (D.str s)] ∧ EqR [] [] ∧ SplitOk s ∧ (parse3 s = none → post (P.d (D.bool false), [])) ∧ ∀ (t r i : Int), parse3 s = some (t, r, i) → ∃ (s : List UInt8), [P.d (D.str (Prod.fst (Lib.cut s_1 c)))] = [P.d (D.str s)] ∧ EqR [] [] ∧ post (P.d (D.bool (nameOk s)), []) else ∃ (s : List UInt8), [P.d (D.str (Prod.fst (Lib.cut s_1 c)))] = [P.d (D.str s)] ∧ EqR [] [] ∧ post (P.d (D.bool (nameOk s)), [])) = (bodyF [(64, hCut), (13, hParse), (37, hName)] [] 39 [sD s] []) post := by kernel_rfl
theorem vcClash (s : List UInt8) (t r i : Int) (post : P × List (Nat × En) → Prop) : (∃ (t_1 : Int), ∃ (r_1 : Int), ∃ (i_1 : Int), [P.d (D.agg [D.int IntKind.i64 t, D.int IntKind.i64 r, D.int IntKind.i64 i])] = [P.d (D.agg [D.int IntKind.i64 t_1, D.int IntKind.i64 r_1, D.int IntKind.i64 i_1])] ∧ EqR [] [] ∧ ∃ (s_1 : List UInt8), [P.d (D.str s)] = [P.d (D.str s_1)] ∧ EqR [] [] ∧ bif !nameOk s_1 then post (P.tup [P.d (D.str []), P.d (D.int IntKind.i64 (70 : Int))], []) else bif textId t_1 r_1 i_1 == [] then post (P.tup [P.d (D.str []), P.d (D.int IntKind.i64 (1 : Int))], []) else bif decide (List.length s + 1 ≤ 9223372036854775807) then bif decide (List.length (s ++ [(126 : UInt8)]) + List.length (textId t_1 r_1 i_1) ≤ 9223372036854775807) then post (P.tup [P.d (D.str (s ++ [(126 : UInt8)] ++ textId t_1 r_1 i_1)), P.d (D.int IntKind.i64 (0 : Int))], []) else False else False) = (bodyF [(37, hName), (16, hText)] [] 34 [sD s, .d (idD t r i)] []) post := by kernel_rfl
theorem vcClashR (s : List UInt8) (t r i : Int) (post : P × List (Nat × En) → Prop) : (∃ (s_1 : List UInt8), [P.d (D.str s)] = [P.d (D.str s_1)] ∧ EqR [] [] ∧ bif !nameOk s_1 then post (P.tup [P.d (D.str []), P.d (D.int IntKind.i64 (70 : Int))], []) else ∃ (t_1 : Int), ∃ (r_1 : Int), ∃ (i_1 : Int), [P.d (D.agg [D.int IntKind.i64 t, D.int IntKind.i64 r, D.int IntKind.i64 i])] = [P.d (D.agg [D.int IntKind.i64 t_1, D.int IntKind.i64 r_1, D.int IntKind.i64 i_1])] ∧ EqR [] [] ∧ bif textId t_1 r_1 i_1 == [] then post (P.tup [P.d (D.str []), P.d (D.int IntKind.i64 (1 : Int))], []) else bif decide (List.length s + 1 ≤ 9223372036854775807) then bif decide (List.length (s ++ [(126 : UInt8)]) + List.length (textId t_1 r_1 i_1) ≤ 9223372036854775807) then post (P.tup [P.d (D.str (s ++ [(126 : UInt8)] ++ textId t_1 r_1 i_1)), P.d (D.int IntKind.i64 (0 : Int))], []) else False else False) = (bodyF [(38, hName), (17, hText)] [] 35 [sD s, .d (idD t r i)] []) post := by kernel_rfl
theorem vcJoin (l : List (List UInt8)) (post : P × List (Nat × En) → Prop) : (∃ (l_1 : List (List UInt8)), ∃ (c : List UInt8), [P.d (D.sl 1 (List.map D.str l)), P.d (D.str [(47 : UInt8)])] = [P.d (D.sl 1 (List.map D.str l_1)), P.d (D.str c)] ∧ EqR [] [] ∧ (List.length l_1 ≤ 140737488355328 ∧ List.length (Lib.join l_1 c) ≤ 140737488355328) ∧ bif decide (1 + List.length (Lib.join l_1 c) ≤ 9223372036854775807) then post (P.d (D.str ([(47 : UInt8)] ++ Lib.join l_1 c)), []) else False) = (bodyF [(66, hJoinL)] [] 44 [tD l] []) post := by kernel_rfl
end Pi

/- Pathname: the loops and small functions. -/
namespace Pi
open Go Go.Proofs
set_option maxRecDepth 100000
section
variable {X : XF}
theorem okTrim : FD X 63 hTrim := FD.ofX Tryd.func63 (by kernel_rfl) (by kernel_rfl) (by
  intro ps R post hh
  obtain ⟨s, c, rfl, rfl, hc, hp⟩ := hh
  refine ⟨_, ?_, hp⟩
  show xTrim [.d (.str s), .d (.str c)] [] = _
  exact if_pos hc)
theorem okCut : FD X 64 hCut := FD.ofX Tryd.func64 (by kernel_rfl) (by kernel_rfl) (by
  intro ps R post hh
  obtain ⟨s, c, rfl, rfl, hc, hp⟩ := hh
  refine ⟨_, ?_, hp⟩
  show xCut [.d (.str s), .d (.str c)] [] = _
  exact if_pos hc)
theorem okCutP : FD X 65 hCutP := FD.ofX Tryd.func65 (by kernel_rfl) (by kernel_rfl) (by
  intro ps R post hh
  obtain ⟨s, c, rfl, rfl, hp⟩ := hh
  exact ⟨_, rfl, hp⟩)
theorem strsOf_map : ∀ l : List (List UInt8), strsOf (l.map D.str) = some l
  | [] => rfl
  | x :: l => by simp [strsOf, strsOf_map l]
theorem okJoinL : FD X 66 hJoinL := FD.ofX Tryd.func66 (by kernel_rfl) (by kernel_rfl) (by
  intro ps R post hh
  obtain ⟨l, c, rfl, rfl, hc, hp⟩ := hh
  refine ⟨_, ?_, hp⟩
  show xJoin [.d (.sl 1 (l.map D.str)), .d (.str c)] [] = _
  unfold xJoin
  simp only [strsOf_map]
  exact if_pos hc)
theorem okName : FD X 37 hName := FD.mk (H := [(63, hTrim)]) (hk := []) (by kernel_rfl) (.cons okTrim .nil) .nil (by
  intro ps R post hh
  obtain ⟨s, rfl, rfl, hp⟩ := hh
  rw [← vcName]
  refine condI (fun h1 => condP (fun h2 => condI (fun h3 => condI (fun h4 => ⟨s, signsL, rfl, rfl, ⟨by omega, by decide, by decide⟩, ?_⟩) fun h4 => ?_) fun h3 => ?_) fun h2 => ?_) fun h1 => ?_
  · refine leafB hp ?_
    rw [Bool.eq_iff_iff, nameOk, beq_iff_eq, trim_nil]
    simp only [signs_name, decide_eq_true_eq]
    constructor
    · intro h; exact h.2.2.2.2
    · intro h; exact ⟨by simpa using h1, by omega, by simpa using h3, by simpa using h4, h⟩
  · exact leafB hp (decF fun h => by simp at h4; exact h.2.2.2.1 h4)
  · exact leafB hp (decF fun h => by simp at h3; exact h.2.2.1 h3)
  · exact leafB hp (decF fun h => by omega)
  · exact leafB hp (decF fun h => by simp at h1; exact h.1 h1))
/-- A byte, and whether it may stand in a name. -/
theorem nameB_iff (b : UInt8) : nameB b = true ↔ ((48 ≤ (b.toNat : Int) ∧ (b.toNat : Int) ≤ 57) ∨ (65 ≤ (b.toNat : Int) ∧ (b.toNat : Int) ≤ 90) ∨ (97 ≤ (b.toNat : Int) ∧ (b.toNat : Int) ≤ 122) ∨ (b.toNat : Int) = 46 ∨ (b.toNat : Int) = 45 ∨ (b.toNat : Int) = 95) := by
  unfold nameB
  simp only [decide_eq_true_eq]
  omega
theorem allBytes (p : UInt8 → Bool) (s : List UInt8) : (∀ b ∈ s, p b = true) ↔ ∀ i : Nat, i < s.length → p (s.getD i 0) = true := by
  constructor
  · intro h i hi
    have := h s[i] (List.getElem_mem hi)
    simpa [List.getD_eq_getElem?_getD, hi] using this
  · intro h x hx
    obtain ⟨i, hi, rfl⟩ := List.getElem_of_mem hx
    have := h i hi
    simpa [List.getD_eq_getElem?_getD, hi] using this
def gNm : S → K (PX × S) := fun s post => ∃ l, s = nmH l 0 ∧ l.length ≤ 32 ∧ (¬ (∀ b ∈ l, nameB b = true) → post (.ret, ⟨64, [(2, bD' false)], []⟩)) ∧ ((∀ b ∈ l, nameB b = true) → post (.exit 0, ⟨64, [], []⟩))
theorem loopNm : LD X 38 4 (loopHook (kpF 38 4) gNm) := LD.par (H := []) (hk := []) (by kernel_rfl) (by kernel_rfl) .nil .nil
  (A := List UInt8) (B := Int) (fun a k => nmH a k)
  (fun a k => a.length ≤ 32 ∧ 0 ≤ k ∧ k ≤ a.length ∧ ∀ i : Nat, (i : Int) < k → nameB (a.getD i 0) = true)
  (fun a k => (a.length - k).toNat)
  (fun a x => ((¬ ∀ b ∈ a, nameB b = true) ∧ x = (.ret, ⟨64, [(2, bD' false)], []⟩)) ∨ ((∀ b ∈ a, nameB b = true) ∧ x = (.exit 0, ⟨64, [], []⟩)))
  (by
    rintro l k ⟨hs, h0, h1, he⟩
    rw [← vcNmN]
    have hb := nameB_iff (l.getD k.toNat 0)
    have hno : ¬ nameB (l.getD k.toNat 0) = true → k < l.length → ¬ ∀ b ∈ l, nameB b = true := fun h hk hh => h ((allBytes _ l).1 hh k.toNat (by omega))
    have hyes : nameB (l.getD k.toNat 0) = true → k < l.length → roundPost (l.length - k).toNat (fun m s => ∃ b', s = nmH l b' ∧ (l.length ≤ 32 ∧ 0 ≤ b' ∧ b' ≤ (l.length : Int) ∧ ∀ i : Nat, (i : Int) < b' → nameB (l.getD i 0) = true) ∧ m = (l.length - b').toNat) (fun x => ((¬ ∀ b ∈ l, nameB b = true) ∧ x = (.ret, ⟨64, [(2, bD' false)], []⟩)) ∨ ((∀ b ∈ l, nameB b = true) ∧ x = (.exit 0, ⟨64, [], []⟩))) (PX.normal, nmH l (k + 1)) := fun h hk =>
      ⟨_, by omega, k + 1, rfl, ⟨hs, by omega, by omega, fun i hi => by
          by_cases e : (i : Int) = k
          · have : i = k.toNat := by omega
            rw [this]; exact h
          · exact he i (by omega)⟩, rfl⟩
    generalize (((l.getD k.toNat 0).toNat : Nat) : Int) = b at *
    refine condP (fun h => oblP (by omega) ?_) fun h => .inr ⟨(allBytes _ l).2 fun i hi => he i (by omega), rfl⟩
    repeat' (first | refine condP (fun _ => ?_) (fun _ => ?_) | refine condE (fun _ => ?_) (fun _ => ?_) | refine condN (fun _ => ?_) (fun _ => ?_))
    all_goals first
      | exact absurd (incI (k := k) (by omega) (by omega)) (by simp; omega)
      | exact hyes (hb.2 (by omega)) h
      | exact .inl ⟨hno (fun hh => by have := hb.1 hh; omega) h, rfl⟩)
  (by
    rintro s post ⟨l, rfl, h1, h2, h3⟩
    refine ⟨l, 0, rfl, ⟨h1, by omega, by omega, fun i hi => by omega⟩, ?_⟩
    rintro x (⟨h, rfl⟩ | ⟨h, rfl⟩)
    · exact h2 h
    · exact h3 h)
end
end Pi

/- Pathname: more loops. -/
namespace Pi
open Go Go.Proofs
set_option maxRecDepth 100000
section
variable {X : XF}
theorem isDs (x : List UInt8) : isD PR 9 (.str x) = true := by kernel_rfl
theorem tx_nth {l : List (List UInt8)} {i : Nat} (h : i < l.length) : D.nth (l.map D.str) i = .str (l.getD i []) := by
  simp [D.nth, h]
def gSe : S → K (PX × S) := fun s post => ∃ l, s = seH l 0 ∧ l.length ≤ 2000000 ∧ (126 ∈ l → post (.ret, ⟨33, [(0, sD l), (2, bD' (seenOk l))], []⟩)) ∧ (126 ∉ l → post (.exit 0, ⟨33, [(0, sD l)], []⟩))
theorem loopSe (hN : FD X 38 hName) : LD X 40 2 (loopHook (kpF 40 2) gSe) := LD.par (H := [(14, hParseR), (38, hName)]) (hk := []) (by kernel_rfl) (by kernel_rfl) (.cons okParseR (.cons hN .nil)) .nil
  (A := List UInt8) (B := Int) (fun a k => seH a k)
  (fun a k => a.length ≤ 2000000 ∧ 0 ≤ k ∧ k ≤ (pre 126 a).length)
  (fun a k => ((pre 126 a).length - k).toNat)
  (fun a x => (126 ∈ a ∧ x = (.ret, ⟨33, [(0, sD a), (2, bD' (seenOk a))], []⟩)) ∨ (126 ∉ a ∧ x = (.exit 0, ⟨33, [(0, sD a)], []⟩)))
  (by
    rintro l k ⟨hs, h0, h1⟩
    rw [← vcSeN]
    have hle := pre_le 126 l
    have hb : ∀ b : UInt8, ((b.toNat : Nat) : Int) = 126 ↔ b = 126 := fun b => ⟨fun e => UInt8.toNat_inj.1 (by simp; omega), fun e => by subst e; rfl⟩
    refine condP (fun h => oblP ⟨h0, h⟩ (condE (fun h' => ?_) fun h' => ?_)) fun h => ?_
    · rw [hb] at h'
      have hk : k = (pre 126 l).length := by
        refine Classical.byContradiction fun hc => ?_
        exact pre_in (c := 126) (s := l) (i := k.toNat) (by omega) h'
      have hm : 126 ∈ l := by
        have : l.getD k.toNat 0 = l[k.toNat]'(by omega) := by simp [List.getD_eq_getElem?_getD, show k.toNat < l.length by omega]
        rw [this] at h'
        rw [← h']
        exact List.getElem_mem _
      have e1 : (k + 1).toNat = (pre 126 l).length + 1 := by omega
      have e2 : k.toNat = (pre 126 l).length := by omega
      refine oblI (incI (by omega) (by omega)) (oblP (by omega) ⟨_, rfl, rfl, by simp; omega, fun hno => ?_, fun t r i hyes => oblP (by omega) ⟨_, rfl, rfl, ?_⟩⟩)
      · rw [e1, List.take_length] at hno
        refine .inl ⟨hm, ?_⟩
        have : seenOk l = false := by simp [seenOk, hm, hno]
        rw [this]
      · rw [e1, List.take_length] at hyes
        refine .inl ⟨hm, ?_⟩
        have : seenOk l = nameOk (pre 126 l) := by simp [seenOk, hyes]
        rw [this, e2, List.drop_zero, pre_take]
    · rw [ne_eq, hb] at h'
      have hlt : k < (pre 126 l).length := by
        refine Classical.byContradiction fun hc => h' ?_
        have e2 : k.toNat = (pre 126 l).length := by omega
        rw [e2]
        exact pre_stop (by omega)
      exact oblI (incI (by omega) (by omega)) ⟨_, by omega, k + 1, rfl, ⟨hs, by omega, by omega⟩, rfl⟩
    · exact .inr ⟨pre_full.1 (by omega), rfl⟩)
  (by
    rintro s post ⟨l, rfl, h1, h2, h3⟩
    refine ⟨l, 0, rfl, ⟨h1, by omega, by omega⟩, ?_⟩
    rintro x (⟨h, rfl⟩ | ⟨h, rfl⟩)
    · exact h2 h
    · exact h3 h)
theorem okSeen : FD X 39 hSeen := FD.mk (H := [(64, hCut), (13, hParse), (37, hName)]) (hk := []) (by kernel_rfl) (.cons okCut (.cons okParse (.cons okName .nil))) .nil (by
  intro ps R post hh
  obtain ⟨s, rfl, rfl, hs, hp⟩ := hh
  rw [← vcSeen]
  refine ⟨s, [126], rfl, rfl, by omega, ?_⟩
  by_cases hm : (126 : UInt8) ∈ s
  · rw [cut_yes hm]
    refine condT rfl ⟨_, rfl, rfl, splitOk (by simp; omega), fun hno => ?_, fun t r i hyes => ⟨_, rfl, rfl, ?_⟩⟩
    · exact leafB hp (by simp [seenOk, hm, hno])
    · exact leafB hp (by simp [seenOk, hyes])
  · rw [cut_no hm]
    exact condF rfl ⟨_, rfl, rfl, leafB hp (by simp [seenOk, hm, pre_all hm])⟩)
def AllSeen (l : List (List UInt8)) : Prop := ∀ x ∈ l, seenOk x = true
theorem allSeen_nat (l : List (List UInt8)) : AllSeen l ↔ ∀ i : Nat, i < l.length → seenOk (l.getD i []) = true := by
  constructor
  · intro h i hi
    have := h l[i] (List.getElem_mem hi)
    simpa [List.getD_eq_getElem?_getD, hi] using this
  · intro h x hx
    obtain ⟨i, hi, rfl⟩ := List.getElem_of_mem hx
    have := h i hi
    simpa [List.getD_eq_getElem?_getD, hi] using this
def gSp : S → K (PX × S) := fun s post => ∃ l m m' n, s = spH l m m' n 0 ∧ (m' = l.length ∧ n = l.length ∧ l.length ≤ 2000001 ∧ ∀ x ∈ l, x.length ≤ 2000000) ∧
  (¬ AllSeen l → post (.ret, ⟨36, [(2, .sl 0 0 0), (3, iD 70), (6, .sl 1 0 m)], [(0, ⟨0, none, .arr 9 false []⟩), (1, ⟨0, none, .arr 9 false (l.map D.str)⟩)]⟩)) ∧
  (AllSeen l → post (.exit 1, ⟨36, [(6, .sl 0 0 m)], [(0, ⟨0, none, .arr 9 false (l.map D.str)⟩)]⟩))
theorem loopSp : LD X 41 8 (loopHook (kpF 41 8) gSp) := LD.par (H := [(39, hSeen)]) (hk := []) (by kernel_rfl) (by kernel_rfl) (.cons okSeen .nil) .nil
  (A := List (List UInt8) × Nat × Nat × Int) (B := Int) (fun a k => spH a.1 a.2.1 a.2.2.1 a.2.2.2 k)
  (fun a k => (a.2.2.1 = a.1.length ∧ a.2.2.2 = a.1.length ∧ a.1.length ≤ 2000001 ∧ ∀ x ∈ a.1, x.length ≤ 2000000) ∧ 0 ≤ k ∧ k ≤ a.1.length ∧ ∀ i : Nat, (i : Int) < k → seenOk (a.1.getD i []) = true)
  (fun a k => (a.1.length - k).toNat)
  (fun a x => (¬ AllSeen a.1 ∧ x = (.ret, ⟨36, [(2, .sl 0 0 0), (3, iD 70), (6, .sl 1 0 a.2.1)], [(0, ⟨0, none, .arr 9 false []⟩), (1, ⟨0, none, .arr 9 false (a.1.map D.str)⟩)]⟩)) ∨ (AllSeen a.1 ∧ x = (.exit 1, ⟨36, [(6, .sl 0 0 a.2.1)], [(0, ⟨0, none, .arr 9 false (a.1.map D.str)⟩)]⟩)))
  (by
    rintro ⟨l, m, m', n⟩ k ⟨⟨hm, hn, hl, hx⟩, h0, h1, he⟩
    dsimp only at *
    subst hm hn
    rw [← vcSpN]
    simp only [List.length_map]
    refine condP (fun h => ?_) fun h => .inr ⟨(allSeen_nat l).2 fun i hi => he i (by omega), rfl⟩
    have hk : k.toNat < l.length := by omega
    rw [tx_nth hk]
    have hlen : (l.getD k.toNat []).length ≤ 2000000 := by
      have := hx l[k.toNat] (List.getElem_mem hk)
      simpa [List.getD_eq_getElem?_getD, hk] using this
    refine oblP ⟨h0, h⟩ (oblP hk (oblI (isDs _) ⟨_, rfl, rfl, hlen, condI (fun h' => .inl ⟨fun hh => ?_, rfl⟩) fun h' => oblI (incI (by omega) (by omega)) ⟨_, by omega, k + 1, rfl, ⟨⟨by simp, by simp, hl, hx⟩, by omega, by first | omega | (dsimp only; omega), fun i hi => ?_⟩, rfl⟩⟩))
    · have := (allSeen_nat l).1 hh k.toNat hk
      rw [show (l.getD k.toNat [] : List UInt8) = (D.str (l.getD k.toNat [])).sVal from rfl] at this
      rw [this] at h'
      cases h'
    · by_cases e : (i : Int) = k
      · have : i = k.toNat := by omega
        rw [this]
        have h'' : (!seenOk (l.getD k.toNat [])) = false := h'
        simpa using h''
      · exact he i (by omega))
  (by
    rintro s post ⟨l, m, m', n, rfl, h1, h2, h3⟩
    refine ⟨(l, m, m', n), 0, rfl, ⟨h1, by omega, by first | omega | (dsimp only; omega), fun i hi => by omega⟩, ?_⟩
    rintro x (⟨h, rfl⟩ | ⟨h, rfl⟩)
    · exact h2 h
    · exact h3 h)
theorem tx_push {o : List (List UInt8)} {m : Nat} (h : m = o.length) (x : List UInt8) : List.take m (o.map D.str) ++ [D.str x] = (o ++ [x]).map D.str := by
  subst h
  rw [List.take_of_length_le (by simp)]
  simp
theorem room16 {m : Nat} (h : m ≤ 3000000) (x : D) : roomOk (m + List.length [x]) 16 = true := roomOk_small (by simp; omega) (by simp; omega)
def gSr : S → K (PX × S) := fun s post => ∃ l es, s = ⟨51, [(0, sD l), (4, .sl 0 0 0), (5, iD 1), (6, iD 1)], [(0, ⟨0, none, .arr 9 false es⟩)]⟩ ∧ (es = [] ∧ 1 ≤ l.length ∧ l.length ≤ 2000000) ∧
  (∀ (m : Nat) (o : List (List UInt8)), ¬ AllSeen (splitBy 47 (l.drop 1)) → post (.ret, ⟨51, [(2, .sl 0 0 0), (3, iD 70), (4, .sl 1 0 m)], [(0, ⟨0, none, .arr 9 false []⟩), (1, ⟨0, none, .arr 9 false (o.map D.str)⟩)]⟩)) ∧
  (∀ m, m = (splitBy 47 (l.drop 1)).length → AllSeen (splitBy 47 (l.drop 1)) → post (.exit 0, ⟨51, [(4, .sl 0 0 m)], [(0, ⟨0, none, .arr 9 false ((splitBy 47 (l.drop 1)).map D.str)⟩)]⟩))
/-- Where the document's walk through a path stands. -/
def SrInv (l : List UInt8) (o : List (List UInt8)) (f i : Int) : Prop :=
  AllSeen o ∧ o.length ≤ i ∧ ((1 ≤ f ∧ f ≤ i ∧ i ≤ l.length ∧ (∀ j : Nat, f ≤ j → (j : Int) < i → l.getD j 0 ≠ 47) ∧ o ++ splitBy 47 (l.drop f.toNat) = splitBy 47 (l.drop 1)) ∨ (i = l.length + 1 ∧ o = splitBy 47 (l.drop 1)))
theorem piece_no {l : List UInt8} {f i : Int} (h0 : 0 ≤ f) (h1 : f ≤ i) (hi : i ≤ l.length) (h : ∀ j : Nat, f ≤ j → (j : Int) < i → l.getD j 0 ≠ 47) : (47 : UInt8) ∉ (l.take i.toNat).drop f.toNat := by
  intro hm
  obtain ⟨j, hj, e⟩ := List.getElem_of_mem hm
  simp at hj
  have := h (f.toNat + j) (by omega) (by omega)
  refine this ?_
  rw [List.getElem_drop, List.getElem_take] at e
  simp [List.getD_eq_getElem?_getD, show f.toNat + j < l.length by omega, e]
theorem drop_cut {l : List UInt8} {f i : Int} (h0 : 0 ≤ f) (h1 : f ≤ i) (hi : i < l.length) : l.drop f.toNat = (l.take i.toNat).drop f.toNat ++ l.getD i.toNat 0 :: l.drop (i + 1).toNat := by
  have e : (i + 1).toNat = i.toNat + 1 := by omega
  have h2 : l.drop i.toNat = l.getD i.toNat 0 :: l.drop (i.toNat + 1) := by
    rw [List.drop_eq_getElem_cons (by omega)]
    simp [List.getD_eq_getElem?_getD, show i.toNat < l.length by omega]
  rw [e, ← h2]
  conv => lhs; rw [← List.take_append_drop i.toNat l]
  rw [List.drop_append, show f.toNat - (l.take i.toNat).length = 0 by simp; omega, List.drop_zero]
theorem loopSr (hS : FD X 40 hSeen) : LD X 42 8 (loopHook (kpF 42 8) gSr) := LD.par (H := [(40, hSeen)]) (hk := []) (by kernel_rfl) (by kernel_rfl) (.cons hS .nil) .nil
  (A := List UInt8) (B := List (List UInt8) × Nat × Int × Int) (fun a b => srH a b.1 b.2.1 b.2.2.1 b.2.2.2)
  (fun a b => (1 ≤ a.length ∧ a.length ≤ 2000000) ∧ b.2.1 = b.1.length ∧ 1 ≤ b.2.2.2 ∧ SrInv a b.1 b.2.2.1 b.2.2.2)
  (fun a b => (a.length + 1 - b.2.2.2).toNat)
  (fun a x => (∃ (m : Nat) (o : List (List UInt8)), ¬ AllSeen (splitBy 47 (a.drop 1)) ∧ x = (.ret, ⟨51, [(2, .sl 0 0 0), (3, iD 70), (4, .sl 1 0 m)], [(0, ⟨0, none, .arr 9 false []⟩), (1, ⟨0, none, .arr 9 false (o.map D.str)⟩)]⟩)) ∨
    (∃ m, m = (splitBy 47 (a.drop 1)).length ∧ AllSeen (splitBy 47 (a.drop 1)) ∧ x = (.exit 0, ⟨51, [(4, .sl 0 0 m)], [(0, ⟨0, none, .arr 9 false ((splitBy 47 (a.drop 1)).map D.str)⟩)]⟩)))
  (by
    rintro l ⟨o, m, f, i⟩ ⟨⟨hl0, hl⟩, hm, hi1, hseen, hol, hinv⟩
    dsimp only at *
    rw [← vcSrN]
    simp only [List.length_map]
    refine condP (fun h => ?_) fun h => ?_
    · have hinv' : 1 ≤ f ∧ f ≤ i ∧ i ≤ l.length ∧ (∀ j : Nat, f ≤ j → (j : Int) < i → l.getD j 0 ≠ 47) ∧ o ++ splitBy 47 (l.drop f.toNat) = splitBy 47 (l.drop 1) := by
        rcases hinv with hh | ⟨hc, _⟩
        · exact hh
        · omega
      obtain ⟨hf1, hfi, hil, hno, hsp⟩ := hinv'
      have hpl : (List.drop f.toNat (List.take i.toNat l)).length ≤ 2000000 := by simp; omega
      have hpn := piece_no (l := l) (by omega) hfi hil hno
      have hroom : ∀ x : D, (Nat.ble m o.length && roomOk (m + List.length [x]) 16) = true := fun x => by rw [room16 (by omega)]; simp; omega
      refine condE (fun h' => ?_) fun h' => ?_
      · -- the end
        have hd : l.drop f.toNat = (l.take i.toNat).drop f.toNat := by rw [show i.toNat = l.length by omega, List.take_length]
        have hlast : splitBy 47 (l.drop 1) = o ++ [(l.take i.toNat).drop f.toNat] := by rw [← hsp, hd, splitBy_no _ _ hpn]
        refine oblP (by omega) (oblP (by omega) ⟨_, rfl, rfl, hpl, condI (fun h2 => .inl ⟨m, o, fun hh => ?_, rfl⟩) fun h2 => oblP (by omega) (oblP (by omega) (oblI (hroom _) (oblI (incI (by omega) (by omega)) (oblI (incI (by omega) (by omega)) ?_))))⟩)
        · have := hh ((l.take i.toNat).drop f.toNat) (by rw [hlast]; simp)
          rw [this] at h2
          cases h2
        · rw [tx_push hm]
          refine ⟨_, ?_, (o ++ [(l.take i.toNat).drop f.toNat], m + 1, i + 1, i + 1), rfl, ⟨⟨hl0, hl⟩, by simp [hm], by first | omega | (dsimp only; omega), ?_⟩, rfl⟩
          · dsimp only; omega
          · refine ⟨fun x hx => ?_, by simp; omega, .inr ⟨by first | omega | (dsimp only; omega), hlast.symm⟩⟩
            rcases List.mem_append.1 hx with hx | hx
            · exact hseen x hx
            · simp at hx; subst hx; simpa using h2
      · have hlt : i < l.length := by omega
        refine oblP (by omega) (condE (fun h3 => ?_) fun h3 => ?_)
        · have hb : l.getD i.toNat 0 = 47 := UInt8.toNat_inj.1 (by rw [show (47 : UInt8).toNat = 47 from rfl]; omega)
          have hd := drop_cut (l := l) (f := f) (i := i) (by omega) hfi hlt
          rw [hb] at hd
          have hnext : splitBy 47 (l.drop 1) = (o ++ [(l.take i.toNat).drop f.toNat]) ++ splitBy 47 (l.drop (i + 1).toNat) := by rw [← hsp, hd, splitBy_app _ _ _ hpn]; simp
          refine oblP (by omega) (oblP (by omega) ⟨_, rfl, rfl, hpl, condI (fun h2 => .inl ⟨m, o, fun hh => ?_, rfl⟩) fun h2 => oblP (by omega) (oblP (by omega) (oblI (hroom _) (oblI (incI (by omega) (by omega)) (oblI (incI (by omega) (by omega)) ?_))))⟩)
          · have := hh ((l.take i.toNat).drop f.toNat) (by rw [hnext]; simp)
            rw [this] at h2
            cases h2
          · rw [tx_push hm]
            refine ⟨_, ?_, (o ++ [(l.take i.toNat).drop f.toNat], m + 1, i + 1, i + 1), rfl, ⟨⟨hl0, hl⟩, by simp [hm], by first | omega | (dsimp only; omega), ?_⟩, rfl⟩
            · dsimp only; omega
            · refine ⟨fun x hx => ?_, by simp; omega, .inl ⟨by first | omega | (dsimp only; omega), by first | omega | (dsimp only; omega), by first | omega | (dsimp only; omega), fun j hj hj' => by dsimp only at hj hj'; omega, hnext.symm⟩⟩
              rcases List.mem_append.1 hx with hx | hx
              · exact hseen x hx
              · simp at hx; subst hx; simpa using h2
        · refine oblI (incI (by omega) (by omega)) ⟨_, ?_, (o, m, f, i + 1), rfl, ⟨⟨hl0, hl⟩, hm, by first | omega | (dsimp only; omega), hseen, by first | omega | (dsimp only; omega), .inl ⟨hf1, by first | omega | (dsimp only; omega), by first | omega | (dsimp only; omega), fun j hj hj' => ?_, hsp⟩⟩, rfl⟩
          · dsimp only; omega
          · dsimp only at hj hj'
            by_cases e : (j : Int) = i
            · have : j = i.toNat := by omega
              rw [this]
              intro e2
              rw [e2] at h3
              exact h3 rfl
            · exact hno j hj (by omega)
    · rcases hinv with ⟨hf1, hfi, hil, hno, hsp⟩ | ⟨hc, ho⟩
      · omega
      · subst ho
        exact .inr ⟨m, hm, hseen, rfl⟩)
  (by
    rintro s post ⟨l, es, rfl, ⟨rfl, h0, h1⟩, h2, h3⟩
    refine ⟨l, ([], 0, 1, 1), rfl, ⟨⟨h0, h1⟩, rfl, by simp, fun x hx => (by cases hx), by simp, .inl ⟨by simp, by simp, by simp; omega, fun j hj hj' => by dsimp only at hj hj'; omega, by simp⟩⟩, ?_⟩
    rintro x (⟨m, o, h, rfl⟩ | ⟨m, h, h', rfl⟩)
    · exact h2 m o h
    · exact h3 m h h')
end
end Pi

/- Pathname: the functions: what their runs ask. -/
namespace Pi
open Go Go.Proofs
set_option maxRecDepth 100000
set_option maxHeartbeats 0
def joinR (l : List (List UInt8)) : List UInt8 := l.flatMap fun x => 47 :: x
def sumL (l : List (List UInt8)) : Nat := (joinR l).length
def gJn : S → K (PX × S) := fun s post => ∃ l, s = jnH l [] 0 ∧ sumL l ≤ 2000000 ∧ post (.exit 0, ⟨21, [(3, sD (joinR l))], []⟩)
def gSt : S → K (PX × S) := fun s post => ∃ v w, s = stH v w 0 ∧ (v.length = w.length ∧ v.length ≤ 3000000) ∧ (v ≠ w → post (.ret, ⟨26, [(4, bD' false)], []⟩)) ∧ (v = w → post (.exit 0, ⟨26, [], []⟩))
def hSameT : KF1 := fun ps R post => ∃ v w, ps = [tD v, tD w] ∧ R = [] ∧ v.length ≤ 3000000 ∧ post (bD' (decide (v = w)), [])
def hJoinP : KF1 := fun ps R post => ∃ l, ps = [tD l] ∧ R = [] ∧ sumL l ≤ 2000000 ∧ post (sD (joinP l), [])
theorem vcNameR (s : List UInt8) (post : P × List (Nat × En) → Prop) : (bif s == [] then post (P.d (D.bool false), []) else bif decide ((↑(List.length s) : Int) > (32 : Int)) then post (P.d (D.bool false), []) else bif s == [(46 : UInt8)] then post (P.d (D.bool false), []) else bif s == [(46 : UInt8), (46 : UInt8)] then post (P.d (D.bool false), []) else ∃ (l : List UInt8), S.mk 64 [(0, P.d (D.str s)), (3, P.d (D.int IntKind.i64 (0 : Int)))] [] = S.mk 64 [(0, P.d (D.str l)), (3, P.d (D.int IntKind.i64 (0 : Int)))] [] ∧ List.length l ≤ 32 ∧ ((¬∀ (b : UInt8), b ∈ l → nameB b = true) → post (P.d (D.bool false), [])) ∧ ((∀ (b : UInt8), b ∈ l → nameB b = true) → post (P.d (D.bool true), []))) = (bodyF [] [(4, loopHook (kpF 38 4) gNm)] 38 [sD s] []) post := by kernel_rfl
theorem vcSeenR (s : List UInt8) (post : P × List (Nat × En) → Prop) : (∃ (l : List UInt8), S.mk 33 [(0, P.d (D.str s)), (3, P.d (D.int IntKind.i64 (0 : Int)))] [] = S.mk 33 [(0, P.d (D.str l)), (3, P.d (D.int IntKind.i64 (0 : Int)))] [] ∧ List.length l ≤ 2000000 ∧ ((126 : UInt8) ∈ l → post (P.d (D.bool (seenOk l)), [])) ∧ (¬(126 : UInt8) ∈ l → ∃ (s : List UInt8), [P.d (D.str l)] = [P.d (D.str s)] ∧ EqR [] [] ∧ post (P.d (D.bool (nameOk s)), []))) = (bodyF [(38, hName)] [(2, loopHook (kpF 40 2) gSe)] 40 [sD s] []) post := by kernel_rfl
theorem vcSplitP (s : List UInt8) (post : P × List (Nat × En) → Prop) : (∃ (s_1 : List UInt8), ∃ (c : List UInt8), [P.d (D.str s), P.d (D.str [(47 : UInt8)])] = [P.d (D.str s_1), P.d (D.str c)] ∧ EqR [] [] ∧ bif !Lib.hasPrefix s_1 c then post (P.tup [P.sl 0 0 0, P.d (D.int IntKind.i64 (71 : Int))], [(0, En.mk 0 none (Obj.arr 9 false []))]) else bif Lib.trimPrefix s_1 c == [] then post (P.tup [P.sl 0 0 0, P.d (D.int IntKind.i64 (0 : Int))], [(0, En.mk 0 none (Obj.arr 9 false []))]) else ∃ (s : List UInt8), ∃ (sep : List UInt8), [P.d (D.str (Lib.trimPrefix s_1 c)), P.d (D.str [(47 : UInt8)])] = [P.d (D.str s), P.d (D.str sep)] ∧ EqR [] [] ∧ (List.length s < 4294967281 ∧ 1 ≤ List.length sep ∧ List.length (Lib.split s sep) = Lib.count s sep + 1 ∧ Lib.count s sep ≤ 4294967281) ∧ ∀ (l : List (List UInt8)), Lib.split s sep = l → ∃ (l_1 : List (List UInt8)), ∃ (m : Nat), ∃ (m' : Nat), ∃ (n : Int), S.mk 36 [(6, P.sl 0 0 (List.length l)), (22, P.sl 0 0 (List.length l)), (23, P.d (D.int IntKind.i64 (↑(List.length l) : Int))), (24, P.d (D.int IntKind.i64 (0 : Int)))] [(0, En.mk 0 none (Obj.arr 9 false (List.map D.str l)))] = S.mk 36 [(6, P.sl 0 0 m), (22, P.sl 0 0 m'), (23, P.d (D.int IntKind.i64 n)), (24, P.d (D.int IntKind.i64 (0 : Int)))] [(0, En.mk 0 none (Obj.arr 9 false (List.map D.str l_1)))] ∧ (m' = List.length l_1 ∧ n = (↑(List.length l_1) : Int) ∧ List.length l_1 ≤ 2000001 ∧ ∀ (x : List UInt8), x ∈ l_1 → List.length x ≤ 2000000) ∧ (¬AllSeen l_1 → post (P.tup [P.sl 0 0 0, P.d (D.int IntKind.i64 (70 : Int))], [(0, En.mk 0 none (Obj.arr 9 false []))])) ∧ (AllSeen l_1 → bif decide ((↑m : Int) > (20 : Int)) then post (P.tup [P.sl 0 0 0, P.d (D.int IntKind.i64 (2 : Int))], [(0, En.mk 0 none (Obj.arr 9 false []))]) else post (P.tup [P.sl 0 0 m, P.d (D.int IntKind.i64 (0 : Int))], [(0, En.mk 0 none (Obj.arr 9 false (List.map D.str l_1)))]))) = (bodyF [(65, hCutP), (52, hSplit)] [(8, loopHook (kpF 41 8) gSp)] 41 [sD s] []) post := by kernel_rfl
theorem vcSplitR (s : List UInt8) (post : P × List (Nat × En) → Prop) : (bif s == [(47 : UInt8)] then post (P.tup [P.sl 0 0 0, P.d (D.int IntKind.i64 (0 : Int))], [(0, En.mk 0 none (Obj.arr 9 false []))]) else bif s == [] then post (P.tup [P.sl 0 0 0, P.d (D.int IntKind.i64 (71 : Int))], [(0, En.mk 0 none (Obj.arr 9 false []))]) else bif decide ((0 : Int) ≤ (0 : Int) ∧ (0 : Int) < (↑(List.length s) : Int)) then bif (↑(UInt8.toNat (List.getD s 0 (0 : UInt8))) : Int) != (47 : Int) then post (P.tup [P.sl 0 0 0, P.d (D.int IntKind.i64 (71 : Int))], [(0, En.mk 0 none (Obj.arr 9 false []))]) else ∃ (l : List UInt8), ∃ (es : List D), S.mk 51 [(0, P.d (D.str s)), (4, P.sl 0 0 0), (5, P.d (D.int IntKind.i64 (1 : Int))), (6, P.d (D.int IntKind.i64 (1 : Int)))] [(0, En.mk 0 none (Obj.arr 9 false []))] = S.mk 51 [(0, P.d (D.str l)), (4, P.sl 0 0 0), (5, P.d (D.int IntKind.i64 (1 : Int))), (6, P.d (D.int IntKind.i64 (1 : Int)))] [(0, En.mk 0 none (Obj.arr 9 false es))] ∧ (es = [] ∧ 1 ≤ List.length l ∧ List.length l ≤ 2000000) ∧ (∀ (m : Nat) (o : List (List UInt8)), ¬AllSeen (splitBy (47 : UInt8) (List.drop 1 l)) → post (P.tup [P.sl 0 0 0, P.d (D.int IntKind.i64 (70 : Int))], [(0, En.mk 0 none (Obj.arr 9 false []))])) ∧ ∀ (m : Nat), m = List.length (splitBy (47 : UInt8) (List.drop 1 l)) → AllSeen (splitBy (47 : UInt8) (List.drop 1 l)) → bif decide ((↑m : Int) > (20 : Int)) then post (P.tup [P.sl 0 0 0, P.d (D.int IntKind.i64 (2 : Int))], [(0, En.mk 0 none (Obj.arr 9 false []))]) else post (P.tup [P.sl 0 0 m, P.d (D.int IntKind.i64 (0 : Int))], [(0, En.mk 0 none (Obj.arr 9 false (List.map D.str (splitBy (47 : UInt8) (List.drop 1 l)))))]) else False) = (bodyF [] [(8, loopHook (kpF 42 8) gSr)] 42 [sD s] []) post := by kernel_rfl
theorem vcJoinR (l : List (List UInt8)) (post : P × List (Nat × En) → Prop) : (∃ (l_1 : List (List UInt8)), S.mk 21 [(0, P.d (D.sl 1 (List.map D.str l))), (3, P.d (D.str [])), (4, P.d (D.int IntKind.i64 (0 : Int)))] [] = S.mk 21 [(0, P.d (D.sl 1 (List.map D.str l_1))), (3, P.d (D.str [])), (4, P.d (D.int IntKind.i64 (0 : Int)))] [] ∧ sumL l_1 ≤ 2000000 ∧ bif joinR l_1 == [] then post (P.d (D.str [(47 : UInt8)]), []) else post (P.d (D.str (joinR l_1)), [])) = (bodyF [] [(3, loopHook (kpF 45 3) gJn)] 45 [tD l] []) post := by kernel_rfl
theorem vcSameT (v w : List (List UInt8)) (post : P × List (Nat × En) → Prop) : (bif (↑(List.length (List.map D.str v)) : Int) != (↑(List.length (List.map D.str w)) : Int) then post (P.d (D.bool false), []) else ∃ (v_1 : List (List UInt8)), ∃ (w_1 : List (List UInt8)), S.mk 26 [(0, P.d (D.sl 1 (List.map D.str v))), (1, P.d (D.sl 1 (List.map D.str w))), (5, P.d (D.int IntKind.i64 (0 : Int)))] [] = S.mk 26 [(0, P.d (D.sl 1 (List.map D.str v_1))), (1, P.d (D.sl 1 (List.map D.str w_1))), (5, P.d (D.int IntKind.i64 (0 : Int)))] [] ∧ (List.length v_1 = List.length w_1 ∧ List.length v_1 ≤ 3000000) ∧ (v_1 ≠ w_1 → post (P.d (D.bool false), [])) ∧ (v_1 = w_1 → post (P.d (D.bool true), []))) = (bodyF [] [(4, loopHook (kpF 43 4) gSt)] 43 [tD v, tD w] []) post := by kernel_rfl
end Pi

/- Pathname: the functions. -/
namespace Pi
open Go Go.Proofs
set_option maxRecDepth 100000
section
variable {X : XF}
theorem okNameR : FD X 38 hName := FD.mk (H := []) (hk := [(4, loopHook (kpF 38 4) gNm)]) (by kernel_rfl) .nil (.cons loopNm .nil) (by
  intro ps R post hh
  obtain ⟨s, rfl, rfl, hp⟩ := hh
  rw [← vcNameR]
  refine condI (fun h1 => ?_) fun h1 => condP (fun h2 => ?_) fun h2 => condI (fun h3 => ?_) fun h3 => condI (fun h4 => ?_) fun h4 => ⟨s, rfl, by omega, fun hno => ?_, fun hyes => ?_⟩
  · exact leafB hp (decF fun h => h.1 (by simpa using h1))
  · exact leafB hp (decF fun h => by omega)
  · exact leafB hp (decF fun h => h.2.2.1 (by simpa using h3))
  · exact leafB hp (decF fun h => h.2.2.2.1 (by simpa using h4))
  · exact leafB hp (decF fun h => hno h.2.2.2.2)
  · exact leafB hp (decT ⟨by simpa using h1, by omega, by simpa using h3, by simpa using h4, hyes⟩))
theorem okSeenR : FD X 40 hSeen := FD.mk (H := [(38, hName)]) (hk := [(2, loopHook (kpF 40 2) gSe)]) (by kernel_rfl) (.cons okNameR .nil) (.cons (loopSe okNameR) .nil) (by
  intro ps R post hh
  obtain ⟨s, rfl, rfl, hs, hp⟩ := hh
  rw [← vcSeenR]
  exact ⟨s, rfl, hs, fun _ => hp, fun hm => ⟨s, rfl, rfl, leafB hp (by simp [seenOk, hm, pre_all hm])⟩⟩)
theorem allSeen_iff (l : List (List UInt8)) : l.all seenOk = true ↔ AllSeen l := by simp [AllSeen]
theorem splitP_no {s : List UInt8} (h : ∀ r, s ≠ 47 :: r) : splitP s = (71, []) := by
  unfold splitP
  split
  · rename_i r; exact absurd rfl (h r)
  · rfl
theorem splitP_cons (r : List UInt8) : splitP (47 :: r) = if r = [] then (0, []) else if (splitBy 47 r).all seenOk = true then (if 20 < (splitBy 47 r).length then (2, []) else (0, splitBy 47 r)) else (70, []) := rfl
theorem okSplitP : FD X 41 hSplitP := FD.mk (H := [(65, hCutP), (52, hSplit)]) (hk := [(8, loopHook (kpF 41 8) gSp)]) (by kernel_rfl) (.cons okCutP (.cons okSplit .nil)) (.cons loopSp .nil) (by
  intro ps R post hh
  obtain ⟨s, rfl, rfl, hs, hp⟩ := hh
  rw [← vcSplitP]
  refine ⟨s, [47], rfl, rfl, ?_⟩
  by_cases hc : ∃ r, s = 47 :: r
  · obtain ⟨r, rfl⟩ := hc
    have e1 : Lib.hasPrefix (47 :: r) [47] = true := by simp [Lib.hasPrefix]
    have e2 : Lib.trimPrefix (47 :: r) [47] = r := by simp [Lib.trimPrefix, Lib.hasPrefix]
    rw [splitP_cons] at hp
    simp at hs
    refine condF (by rw [e1]; rfl) ?_
    rw [e2]
    refine condI (fun h => hp 0 0 [] (by rw [if_pos (by simpa using h)]) rfl) fun h => ?_
    have hr : r ≠ [] := by simpa using h
    rw [if_neg hr] at hp
    have hcnt : r.count 47 ≤ r.length := List.count_le_length
    refine ⟨r, [47], rfl, rfl, ⟨by omega, by simp, by rw [split_by, splitBy_len, Lib.count_one], by rw [Lib.count_one]; omega⟩, fun l hl => ?_⟩
    rw [split_by] at hl
    subst hl
    refine ⟨_, _, _, _, rfl, ⟨rfl, rfl, by rw [splitBy_len]; omega, fun x hx => by have := splitBy_each 47 r x hx; omega⟩, fun hno => ?_, fun hyes => condP (fun h3 => ?_) fun h3 => ?_⟩
    · exact hp 0 70 [] (by rw [if_neg (by rw [allSeen_iff]; exact hno)]) rfl
    · exact hp 0 2 [] (by rw [if_pos ((allSeen_iff _).2 hyes), if_pos (by omega)]) rfl
    · exact hp _ _ _ (by rw [if_pos ((allSeen_iff _).2 hyes), if_neg (by omega)]) rfl
  · have hno : ∀ r, s ≠ 47 :: r := fun r e => hc ⟨r, e⟩
    have e1 : Lib.hasPrefix s [47] = false := by
      cases s with
      | nil => rfl
      | cons b t =>
        have hb : (47 : UInt8) ≠ b := fun e => hno t (by rw [e])
        simp [Lib.hasPrefix, List.isPrefixOf, hb]
    exact condT (by rw [e1]; rfl) (hp 0 71 [] (splitP_no hno) rfl))
theorem okSplitR : FD X 42 hSplitP := FD.mk (H := []) (hk := [(8, loopHook (kpF 42 8) gSr)]) (by kernel_rfl) .nil (.cons (loopSr okSeenR) .nil) (by
  intro ps R post hh
  obtain ⟨s, rfl, rfl, hs, hp⟩ := hh
  rw [← vcSplitR]
  refine condI (fun h => ?_) fun h => condI (fun h2 => ?_) fun h2 => ?_
  · have e : s = [47] := by simpa using h
    subst e
    exact hp 0 0 [] rfl rfl
  · have e : s = [] := by simpa using h2
    subst e
    exact hp 0 71 [] rfl rfl
  · obtain ⟨b, r, rfl⟩ : ∃ b r, s = b :: r := by cases s with | nil => simp at h2 | cons b r => exact ⟨b, r, rfl⟩
    refine oblP (by simp) (condN (fun h3 => ?_) fun h3 => ?_)
    · exact hp 0 71 [] (splitP_no fun r' e => by simp at e; rw [e.1] at h3; exact h3 rfl) rfl
    · have hb : b = 47 := UInt8.toNat_inj.1 (by rw [show (47 : UInt8).toNat = 47 from rfl]; simp at h3; omega)
      subst hb
      have hr : r ≠ [] := fun e => by subst e; simp at h
      rw [splitP_cons, if_neg hr] at hp
      refine ⟨_, _, rfl, ⟨rfl, by simp, hs⟩, fun m o hno => ?_, fun m hm hyes => condP (fun h3 => ?_) fun h3 => ?_⟩
      all_goals simp only [List.drop_succ_cons, List.drop_zero] at *
      · exact hp 0 70 [] (by rw [if_neg (by rw [allSeen_iff]; exact hno)]) rfl
      · exact hp 0 2 [] (by rw [if_pos ((allSeen_iff _).2 hyes), if_pos (by omega)]) rfl
      · exact hp _ _ _ (by rw [if_pos ((allSeen_iff _).2 hyes), if_neg (by omega)]) hm)
theorem joinR_take {l : List (List UInt8)} {i : Nat} (h : i < l.length) : joinR (l.take (i + 1)) = joinR (l.take i) ++ [47] ++ l.getD i [] := by
  have e : l.take (i + 1) = l.take i ++ [l[i]] := by rw [List.take_add_one, List.getElem?_eq_getElem h]; rfl
  rw [e, joinR, List.flatMap_append]
  simp [joinR, List.getD_eq_getElem?_getD, h]
theorem joinR_le (l : List (List UInt8)) (i : Nat) : (joinR (l.take i)).length ≤ sumL l := by
  have e : joinR l = joinR (l.take i) ++ joinR (l.drop i) := by
    unfold joinR
    rw [← List.flatMap_append, List.take_append_drop]
  unfold sumL
  rw [e, List.length_append]
  omega
theorem sum_len (l : List (List UInt8)) : l.length ≤ sumL l := by
  induction l with
  | nil => simp
  | cons x l ih => simp [sumL, joinR] at ih ⊢; omega
theorem loopJn : LD X 45 3 (loopHook (kpF 45 3) gJn) := LD.par (H := []) (hk := []) (by kernel_rfl) (by kernel_rfl) .nil .nil
  (A := List (List UInt8)) (B := List UInt8 × Int) (fun a b => jnH a b.1 b.2)
  (fun a b => sumL a ≤ 2000000 ∧ 0 ≤ b.2 ∧ b.2 ≤ a.length ∧ b.1 = joinR (a.take b.2.toNat))
  (fun a b => (a.length - b.2).toNat)
  (fun a x => x = (.exit 0, ⟨21, [(3, sD (joinR a))], []⟩))
  (by
    rintro l ⟨s, k⟩ ⟨hl, h0, h1, he⟩
    dsimp only at *
    rw [← vcJnN]
    simp only [List.length_map]
    have hll := sum_len l
    refine condP (fun h => ?_) fun h => ?_
    · have hk : k.toNat < l.length := by omega
      rw [tx_nth hk]
      have hj := joinR_take hk
      have hb1 := joinR_le l k.toNat
      have hb2 := joinR_le l (k.toNat + 1)
      rw [hj] at hb2
      rw [← he] at hj hb1 hb2
      simp at hb2
      have hval : (D.str (l.getD k.toNat [])).sVal = l.getD k.toNat [] := rfl
      rw [hval]
      refine oblP (by omega) (oblP ⟨h0, h⟩ (oblI (isDs _) (oblP (by simp; omega) (oblI (incI (by omega) (by omega)) ?_))))
      refine ⟨_, ?_, (s ++ [47] ++ l.getD k.toNat [], k + 1), rfl, ⟨hl, by dsimp only; omega, by dsimp only; omega, ?_⟩, rfl⟩
      · dsimp only; omega
      · dsimp only
        rw [show (k + 1).toNat = k.toNat + 1 by omega, hj]
    · have e : k.toNat = l.length := by omega
      rw [e, List.take_length] at he
      subst he
      rfl)
  (by
    rintro s post ⟨l, rfl, h1, h2⟩
    refine ⟨l, ([], 0), rfl, ⟨h1, by simp, by simp, by simp [joinR]⟩, ?_⟩
    rintro x rfl
    exact h2)
theorem joinR_P : ∀ l : List (List UInt8), l ≠ [] → joinR l = joinP l
  | [], h => absurd rfl h
  | [x], _ => by simp [joinR, joinP, join_one]
  | x :: y :: l, _ => by
    have ih := joinR_P (y :: l) (by simp)
    rw [joinP, join_cons2]
    rw [joinP] at ih
    rw [← ih]
    simp [joinR]
theorem joinP_len (l : List (List UInt8)) : (joinP l).length ≤ sumL l + 1 := by
  cases l with
  | nil => simp [joinP, Lib.join, List.intercalate]
  | cons x l => rw [← joinR_P (x :: l) (by simp)]; unfold sumL; omega
theorem okJoinR : FD X 45 hJoinP := FD.mk (H := []) (hk := [(3, loopHook (kpF 45 3) gJn)]) (by kernel_rfl) .nil (.cons loopJn .nil) (by
  intro ps R post hh
  obtain ⟨l, rfl, rfl, hl, hp⟩ := hh
  rw [← vcJoinR]
  refine ⟨l, rfl, hl, condI (fun h => ?_) fun h => ?_⟩
  · have : l = [] := by
      cases l with
      | nil => rfl
      | cons x l => simp [joinR] at h
    subst this
    exact hp
  · rw [joinR_P l (fun e => by subst e; simp [joinR] at h)]
    exact hp)
theorem okJoin : FD X 44 hJoinP := FD.mk (H := [(66, hJoinL)]) (hk := []) (by kernel_rfl) (.cons okJoinL .nil) .nil (by
  intro ps R post hh
  obtain ⟨l, rfl, rfl, hl, hp⟩ := hh
  rw [← vcJoin]
  have h1 := sum_len l
  have h2 := joinP_len l
  simp [joinP] at h2
  exact ⟨l, [47], rfl, rfl, ⟨by omega, by omega⟩, oblP (by omega) hp⟩)
theorem ext_getT {a b : List (List UInt8)} (hl : a.length = b.length) (h : ∀ i, i < a.length → a.getD i [] = b.getD i []) : a = b := by
  apply List.ext_getElem hl
  intro i h1 h2
  have := h i h1
  simpa [List.getD_eq_getElem?_getD, h1, h2] using this
theorem loopSt : LD X 43 4 (loopHook (kpF 43 4) gSt) := LD.par (H := []) (hk := []) (by kernel_rfl) (by kernel_rfl) .nil .nil
  (A := List (List UInt8) × List (List UInt8)) (B := Int) (fun a k => stH a.1 a.2 k)
  (fun a k => (a.1.length = a.2.length ∧ a.1.length ≤ 3000000) ∧ 0 ≤ k ∧ k ≤ a.1.length ∧ ∀ i : Nat, (i : Int) < k → a.1.getD i [] = a.2.getD i [])
  (fun a k => (a.1.length - k).toNat)
  (fun a x => (a.1 ≠ a.2 ∧ x = (.ret, ⟨26, [(4, bD' false)], []⟩)) ∨ (a.1 = a.2 ∧ x = (.exit 0, ⟨26, [], []⟩)))
  (by
    rintro ⟨v, w⟩ k ⟨⟨hl, hs⟩, h0, h1, he⟩
    dsimp only at *
    rw [← vcStN]
    simp only [List.length_map]
    refine condP (fun h => ?_) fun h => .inr ⟨ext_getT hl fun i hi => he i (by omega), rfl⟩
    rw [tx_nth (by omega), tx_nth (by omega)]
    refine oblP (by omega) (oblI (isDs _) (oblP (by omega) (oblI (isDs _) (condI (fun h' => ?_) fun h' => oblI (incI (by omega) (by omega)) ?_))))
    · have h'' : (!(v.getD k.toNat [] == w.getD k.toNat [])) = true := h'
      exact .inl ⟨fun e => by subst e; simp at h'', rfl⟩
    · have h'' : (!(v.getD k.toNat [] == w.getD k.toNat [])) = false := h'
      exact ⟨_, by omega, k + 1, rfl, ⟨⟨hl, hs⟩, by omega, by omega, fun i hi => by
        by_cases e : (i : Int) = k
        · have : i = k.toNat := by omega
          rw [this]; simpa using h''
        · exact he i (by omega)⟩, rfl⟩)
  (by
    rintro s post ⟨v, w, rfl, h1, h2, h3⟩
    refine ⟨(v, w), 0, rfl, ⟨h1, by omega, by omega, fun i hi => by omega⟩, ?_⟩
    rintro x (⟨h, rfl⟩ | ⟨h, rfl⟩)
    · exact h2 h
    · exact h3 h)
theorem okSameT : FD X 43 hSameT := FD.mk (H := []) (hk := [(4, loopHook (kpF 43 4) gSt)]) (by kernel_rfl) .nil (.cons loopSt .nil) (by
  intro ps R post hh
  obtain ⟨v, w, rfl, rfl, hv, hp⟩ := hh
  rw [← vcSameT]
  simp only [List.length_map]
  refine condN (fun h => ?_) fun h => ⟨v, w, rfl, ⟨by omega, hv⟩, fun hn => ?_, fun he => ?_⟩
  · exact leafB hp (decF fun e => h (by rw [e]))
  · exact leafB hp (decF hn)
  · exact leafB hp (decT he))
theorem textId_nil {t r i : Int} : textId t r i = [] ↔ rightId t r i = false := by
  unfold textId
  split
  · rename_i h
    simp [h, textS]
  · rename_i h
    simpa using h
theorem okClash : FD X 34 hClash := FD.mk (H := [(37, hName), (16, hText)]) (hk := []) (by kernel_rfl) (.cons okName (.cons okText .nil)) .nil (by
  intro ps R post hh
  obtain ⟨s, t, r, i, rfl, rfl, hp⟩ := hh
  rw [← vcClash]
  unfold clashP at hp
  refine ⟨t, r, i, rfl, rfl, s, rfl, rfl, condI (fun h => ?_) fun h => condI (fun h2 => ?_) fun h2 => ?_⟩
  · rw [if_neg (by simpa using h)] at hp; exact hp
  · have h2 : rightId t r i = false := textId_nil.1 (by simpa using h2)
    rw [if_pos (by simpa using h), if_neg (by simp [h2])] at hp; exact hp
  · have hn : nameOk s = true := by simpa using h
    have hi : rightId t r i = true := by
      cases hi : rightId t r i with
      | true => rfl
      | false => rw [textId_nil.2 hi] at h2; simp at h2
    rw [if_pos hn, if_pos hi] at hp
    have hl := textId_len t r i
    simp only [nameOk, decide_eq_true_eq] at hn
    refine oblP (by omega) (oblP (by simp; omega) ?_)
    rw [textId, if_pos hi]
    simpa using hp)
theorem okClashR : FD X 35 hClash := FD.mk (H := [(38, hName), (17, hText)]) (hk := []) (by kernel_rfl) (.cons okNameR (.cons okTextR .nil)) .nil (by
  intro ps R post hh
  obtain ⟨s, t, r, i, rfl, rfl, hp⟩ := hh
  rw [← vcClashR]
  unfold clashP at hp
  refine ⟨s, rfl, rfl, condI (fun h => ?_) fun h => ⟨t, r, i, rfl, rfl, condI (fun h2 => ?_) fun h2 => ?_⟩⟩
  · rw [if_neg (by simpa using h)] at hp; exact hp
  · have h2 : rightId t r i = false := textId_nil.1 (by simpa using h2)
    rw [if_pos (by simpa using h), if_neg (by simp [h2])] at hp; exact hp
  · have hn : nameOk s = true := by simpa using h
    have hi : rightId t r i = true := by
      cases hi : rightId t r i with
      | true => rfl
      | false => rw [textId_nil.2 hi] at h2; simp at h2
    rw [if_pos hn, if_pos hi] at hp
    have hl := textId_len t r i
    simp only [nameOk, decide_eq_true_eq] at hn
    refine oblP (by omega) (oblP (by simp; omega) ?_)
    rw [textId, if_pos hi]
    simpa using hp)
end
end Pi

/- Pathname: the laws: what their runs ask. -/
namespace Pi
open Go Go.Proofs
set_option maxRecDepth 100000
set_option maxHeartbeats 0
def hAwake7 : KF1 := fun ps R post => ps = [] ∧ R = [] ∧ post (.d (.bool true), [])
def hJoinN : KF1 := fun ps R post => ps = [.d .nils] ∧ R = [] ∧ post (sD [47], [])
theorem vcJoinN  (post : P × List (Nat × En) → Prop) : (∃ (l : List (List UInt8)), ∃ (c : List UInt8), [P.d (D.sl 1 []), P.d (D.str [(47 : UInt8)])] = [P.d (D.sl 1 (List.map D.str l)), P.d (D.str c)] ∧ EqR [] [] ∧ (List.length l ≤ 140737488355328 ∧ List.length (Lib.join l c) ≤ 140737488355328) ∧ bif decide (1 + List.length (Lib.join l c) ≤ 9223372036854775807) then post (P.d (D.str ([(47 : UInt8)] ++ Lib.join l c)), []) else False) = (bodyF [(66, hJoinL)] [] 44 [.d .nils] []) post := by kernel_rfl
theorem vcAwake7  (post : P × List (Nat × En) → Prop) : (∃ (s : List UInt8), [P.d (D.str [(47 : UInt8), (97 : UInt8), (47 : UInt8), (98 : UInt8), (126 : UInt8), (51 : UInt8), (46 : UInt8), (49 : UInt8), (46 : UInt8), (48 : UInt8)])] = [P.d (D.str s)] ∧ EqR [] [] ∧ List.length s ≤ 2000000 ∧ ∀ (n : Nat) (e : Int) (l : List (List UInt8)), splitP s = (e, l) → n = List.length l → ∃ (s : List UInt8), ∃ (t : Int), ∃ (r : Int), ∃ (i : Int), [P.d (D.str [(98 : UInt8)]), P.d (D.agg [D.int IntKind.i64 (3 : Int), D.int IntKind.i64 (1 : Int), D.int IntKind.i64 (0 : Int)])] = [P.d (D.str s), P.d (D.agg [D.int IntKind.i64 t, D.int IntKind.i64 r, D.int IntKind.i64 i])] ∧ EqR [] [] ∧ ∃ (s_1 : List UInt8), [P.d (D.str [(47 : UInt8), (97 : UInt8), (47 : UInt8)])] = [P.d (D.str s_1)] ∧ EqR [] [] ∧ List.length s_1 ≤ 2000000 ∧ ∀ (n_1 : Nat) (e_1 : Int) (l_1 : List (List UInt8)), splitP s_1 = (e_1, l_1) → n_1 = List.length l_1 → bif e == (0 : Int) then ∃ (v : List (List UInt8)), ∃ (w : List (List UInt8)), [P.d (D.sl 1 (List.take n (List.map D.str l))), P.d (D.sl 1 [D.str [(97 : UInt8)], D.str [(98 : UInt8), (126 : UInt8), (51 : UInt8), (46 : UInt8), (49 : UInt8), (46 : UInt8), (48 : UInt8)]])] = [P.d (D.sl 1 (List.map D.str v)), P.d (D.sl 1 (List.map D.str w))] ∧ EqR [] [] ∧ List.length v ≤ 3000000 ∧ bif decide (v = w) then bif Prod.snd (clashP s t r i) == (0 : Int) then bif Prod.fst (clashP s t r i) == [(98 : UInt8), (126 : UInt8), (51 : UInt8), (46 : UInt8), (49 : UInt8), (46 : UInt8), (48 : UInt8)] then bif e_1 == (70 : Int) then [P.d D.nils] = [P.d D.nils] ∧ EqR [] [] ∧ post (P.d (D.bool true), []) else post (P.d (D.bool false), []) else post (P.d (D.bool false), []) else post (P.d (D.bool false), []) else post (P.d (D.bool false), []) else post (P.d (D.bool false), [])) = (bodyF [(41, hSplitP), (34, hClash), (44, hJoinN), (43, hSameT)] [] 36 [] []) post := by kernel_rfl
theorem vcLawN (s : List UInt8) (t r i : Int) (post : P × List (Nat × En) → Prop) : (∃ (s_1 : List UInt8), ∃ (t_1 : Int), ∃ (r_1 : Int), ∃ (i_1 : Int), [P.d (D.str s), P.d (D.agg [D.int IntKind.i64 t, D.int IntKind.i64 r, D.int IntKind.i64 i])] = [P.d (D.str s_1), P.d (D.agg [D.int IntKind.i64 t_1, D.int IntKind.i64 r_1, D.int IntKind.i64 i_1])] ∧ EqR [] [] ∧ ∃ (s_2 : List UInt8), ∃ (t_2 : Int), ∃ (r_2 : Int), ∃ (i_2 : Int), [P.d (D.str s), P.d (D.agg [D.int IntKind.i64 t, D.int IntKind.i64 r, D.int IntKind.i64 i])] = [P.d (D.str s_2), P.d (D.agg [D.int IntKind.i64 t_2, D.int IntKind.i64 r_2, D.int IntKind.i64 i_2])] ∧ EqR [] [] ∧ EqP [] [] ∧ EqR [] [] ∧ ∃ (s_3 : List UInt8), [P.d (D.str s)] = [P.d (D.str s_3)] ∧ EqR [] [] ∧ ∃ (s_4 : List UInt8), [P.d (D.str s)] = [P.d (D.str s_4)] ∧ EqR [] [] ∧ bif nameOk s_3 == nameOk s_4 then ∃ (s_5 : List UInt8), [P.d (D.str s)] = [P.d (D.str s_5)] ∧ EqR [] [] ∧ List.length s_5 ≤ 2000000 ∧ ∃ (s_6 : List UInt8), [P.d (D.str s)] = [P.d (D.str s_6)] ∧ EqR [] [] ∧ List.length s_6 ≤ 2000000 ∧ bif seenOk s_5 == seenOk s_6 then bif Prod.fst (clashP s_1 t_1 r_1 i_1) == Prod.fst (clashP s_2 t_2 r_2 i_2) then post (P.d (D.bool (Prod.snd (clashP s_1 t_1 r_1 i_1) == Prod.snd (clashP s_2 t_2 r_2 i_2))), []) else post (P.d (D.bool false), []) else post (P.d (D.bool false), []) else post (P.d (D.bool false), [])) = (bodyF [(36, hAwake7), (34, hClash), (35, hClash), (37, hName), (38, hName), (39, hSeen), (40, hSeen)] [] 8 [sD s, .d (idD t r i)] []) post := by kernel_rfl
theorem vcLawP (s : List UInt8) (l : List (List UInt8)) (post : P × List (Nat × En) → Prop) : (bif decide ((↑(List.length s) : Int) > (5000 : Int)) then EqP [] [] ∧ EqR [] [] ∧ post (P.d (D.bool true), []) else bif decide ((↑(List.length (List.map D.str l)) : Int) > (100 : Int)) then EqP [] [] ∧ EqR [] [] ∧ post (P.d (D.bool true), []) else ∃ (s_1 : List UInt8), [P.d (D.str s)] = [P.d (D.str s_1)] ∧ EqR [] [] ∧ List.length s_1 ≤ 2000000 ∧ ∀ (n : Nat) (e : Int) (l_1 : List (List UInt8)), splitP s_1 = (e, l_1) → n = List.length l_1 → ∃ (s_2 : List UInt8), [P.d (D.str s)] = [P.d (D.str s_2)] ∧ EqR [] [] ∧ List.length s_2 ≤ 2000000 ∧ ∀ (n_1 : Nat) (e_1 : Int) (l_2 : List (List UInt8)), splitP s_2 = (e_1, l_2) → n_1 = List.length l_2 → EqP [] [] ∧ EqR [] [] ∧ ∃ (v : List (List UInt8)), ∃ (w : List (List UInt8)), [P.d (D.sl 1 (List.take n (List.map D.str l_1))), P.d (D.sl 1 (List.take n_1 (List.map D.str l_2)))] = [P.d (D.sl 1 (List.map D.str v)), P.d (D.sl 1 (List.map D.str w))] ∧ EqR [] [] ∧ List.length v ≤ 3000000 ∧ bif decide (v = w) then bif e == e_1 then ∃ (l_3 : List (List UInt8)), [P.d (D.sl 1 (List.map D.str l))] = [P.d (D.sl 1 (List.map D.str l_3))] ∧ EqR [] [] ∧ sumL l_3 ≤ 2000000 ∧ ∃ (l_4 : List (List UInt8)), [P.d (D.sl 1 (List.map D.str l))] = [P.d (D.sl 1 (List.map D.str l_4))] ∧ EqR [] [] ∧ sumL l_4 ≤ 2000000 ∧ post (P.d (D.bool (joinP l_3 == joinP l_4)), []) else post (P.d (D.bool false), []) else post (P.d (D.bool false), [])) = (bodyF [(36, hAwake7), (41, hSplitP), (42, hSplitP), (43, hSameT), (44, hJoinP), (45, hJoinP)] [] 9 [sD s, tD l] []) post := by kernel_rfl
theorem vcLawC (s t : List UInt8) (a b c a' b' c' : Int) (post : P × List (Nat × En) → Prop) : (EqP [] [] ∧ EqR [] [] ∧ ∃ (s_1 : List UInt8), ∃ (t_1 : Int), ∃ (r : Int), ∃ (i : Int), [P.d (D.str s), P.d (D.agg [D.int IntKind.i64 a, D.int IntKind.i64 b, D.int IntKind.i64 c])] = [P.d (D.str s_1), P.d (D.agg [D.int IntKind.i64 t_1, D.int IntKind.i64 r, D.int IntKind.i64 i])] ∧ EqR [] [] ∧ ∃ (s_2 : List UInt8), ∃ (t_2 : Int), ∃ (r_1 : Int), ∃ (i_1 : Int), [P.d (D.str t), P.d (D.agg [D.int IntKind.i64 a', D.int IntKind.i64 b', D.int IntKind.i64 c'])] = [P.d (D.str s_2), P.d (D.agg [D.int IntKind.i64 t_2, D.int IntKind.i64 r_1, D.int IntKind.i64 i_1])] ∧ EqR [] [] ∧ bif Prod.snd (clashP s_1 t_1 r i) == (0 : Int) then ∃ (s_3 : List UInt8), [P.d (D.str (Prod.fst (clashP s_1 t_1 r i)))] = [P.d (D.str s_3)] ∧ EqR [] [] ∧ bif nameOk s_3 then post (P.d (D.bool false), []) else ∃ (s_4 : List UInt8), [P.d (D.str (Prod.fst (clashP s_1 t_1 r i)))] = [P.d (D.str s_4)] ∧ EqR [] [] ∧ List.length s_4 ≤ 2000000 ∧ bif !seenOk s_4 then post (P.d (D.bool false), []) else ∃ (s_5 : List UInt8), [P.d (D.str s)] = [P.d (D.str s_5)] ∧ EqR [] [] ∧ bif !nameOk s_5 then post (P.d (D.bool false), []) else ∃ (s_6 : List UInt8), [P.d (D.str s)] = [P.d (D.str s_6)] ∧ EqR [] [] ∧ bif nameOk s_6 then ∃ (t_3 : Int), ∃ (r_2 : Int), ∃ (i_2 : Int), [P.d (D.agg [D.int IntKind.i64 a, D.int IntKind.i64 b, D.int IntKind.i64 c])] = [P.d (D.agg [D.int IntKind.i64 t_3, D.int IntKind.i64 r_2, D.int IntKind.i64 i_2])] ∧ EqR [] [] ∧ bif !(Prod.snd (clashP s_1 t_1 r i) == (0 : Int)) == rightId t_3 r_2 i_2 then post (P.d (D.bool false), []) else bif Prod.snd (clashP s_1 t_1 r i) != (0 : Int) then post (P.d (D.bool true), []) else bif Prod.snd (clashP s_2 t_2 r_1 i_1) != (0 : Int) then post (P.d (D.bool true), []) else bif s == t then post (P.d (D.bool ((Prod.fst (clashP s_1 t_1 r i) == Prod.fst (clashP s_2 t_2 r_1 i_1)) == (a == a' && (b == b' && true) && (c == c' && true)))), []) else post (P.d (D.bool ((Prod.fst (clashP s_1 t_1 r i) == Prod.fst (clashP s_2 t_2 r_1 i_1)) == false)), []) else bif !(Prod.snd (clashP s_1 t_1 r i) == (0 : Int)) == false then post (P.d (D.bool false), []) else bif Prod.snd (clashP s_1 t_1 r i) != (0 : Int) then post (P.d (D.bool true), []) else bif Prod.snd (clashP s_2 t_2 r_1 i_1) != (0 : Int) then post (P.d (D.bool true), []) else bif s == t then post (P.d (D.bool ((Prod.fst (clashP s_1 t_1 r i) == Prod.fst (clashP s_2 t_2 r_1 i_1)) == (a == a' && (b == b' && true) && (c == c' && true)))), []) else post (P.d (D.bool ((Prod.fst (clashP s_1 t_1 r i) == Prod.fst (clashP s_2 t_2 r_1 i_1)) == false)), []) else ∃ (s_3 : List UInt8), [P.d (D.str s)] = [P.d (D.str s_3)] ∧ EqR [] [] ∧ bif nameOk s_3 then ∃ (t_3 : Int), ∃ (r_2 : Int), ∃ (i_2 : Int), [P.d (D.agg [D.int IntKind.i64 a, D.int IntKind.i64 b, D.int IntKind.i64 c])] = [P.d (D.agg [D.int IntKind.i64 t_3, D.int IntKind.i64 r_2, D.int IntKind.i64 i_2])] ∧ EqR [] [] ∧ bif !(Prod.snd (clashP s_1 t_1 r i) == (0 : Int)) == rightId t_3 r_2 i_2 then post (P.d (D.bool false), []) else bif Prod.snd (clashP s_1 t_1 r i) != (0 : Int) then post (P.d (D.bool true), []) else bif Prod.snd (clashP s_2 t_2 r_1 i_1) != (0 : Int) then post (P.d (D.bool true), []) else bif s == t then post (P.d (D.bool ((Prod.fst (clashP s_1 t_1 r i) == Prod.fst (clashP s_2 t_2 r_1 i_1)) == (a == a' && (b == b' && true) && (c == c' && true)))), []) else post (P.d (D.bool ((Prod.fst (clashP s_1 t_1 r i) == Prod.fst (clashP s_2 t_2 r_1 i_1)) == false)), []) else bif !(Prod.snd (clashP s_1 t_1 r i) == (0 : Int)) == false then post (P.d (D.bool false), []) else bif Prod.snd (clashP s_1 t_1 r i) != (0 : Int) then post (P.d (D.bool true), []) else bif Prod.snd (clashP s_2 t_2 r_1 i_1) != (0 : Int) then post (P.d (D.bool true), []) else bif s == t then post (P.d (D.bool ((Prod.fst (clashP s_1 t_1 r i) == Prod.fst (clashP s_2 t_2 r_1 i_1)) == (a == a' && (b == b' && true) && (c == c' && true)))), []) else post (P.d (D.bool ((Prod.fst (clashP s_1 t_1 r i) == Prod.fst (clashP s_2 t_2 r_1 i_1)) == false)), [])) = (bodyF [(36, hAwake7), (34, hClash), (37, hName), (39, hSeen), (46, hRightId)] [] 11 [sD s, sD t, .d (idD a b c), .d (idD a' b' c')] []) post := by kernel_rfl
abbrev bkH (l : List (List UInt8)) (k : Int) : S := ⟨78, [(1, tD l), (5, .d (.bool true)), (8, iD k)], []⟩
def gBk : S → K (PX × S) := fun s post => ∃ l, s = bkH l 0 ∧ (l.length ≤ 100 ∧ ∀ x ∈ l, x.length ≤ 2000000) ∧ (¬ AllSeen l → post (.ret, ⟨78, [(1, tD l), (4, .d (.bool true)), (5, .d (.bool true))], []⟩)) ∧ (AllSeen l → post (.exit 0, ⟨78, [(1, tD l), (5, .d (.bool true))], []⟩))
theorem vcBkN (l : List (List UInt8)) (k : Int) (post : PX × S → Prop) : (bif decide (k < (↑(List.length (List.map D.str l)) : Int)) then bif decide ((0 : Int) ≤ k ∧ k < (↑(List.length (List.map D.str l)) : Int)) then bif isD PR 9 (D.nth (List.map D.str l) (Int.toNat k)) then ∃ (s : List UInt8), [P.d (D.str (D.sVal (D.nth (List.map D.str l) (Int.toNat k))))] = [P.d (D.str s)] ∧ EqR [] [] ∧ List.length s ≤ 2000000 ∧ bif !seenOk s then post (PX.ret, S.mk 78 [(1, P.d (D.sl 1 (List.map D.str l))), (4, P.d (D.bool true)), (5, P.d (D.bool true))] []) else bif decide ((-9223372036854775808 : Int) ≤ k + (1 : Int) ∧ k + (1 : Int) ≤ (9223372036854775807 : Int)) then post (PX.normal, S.mk 78 [(1, P.d (D.sl 1 (List.map D.str l))), (5, P.d (D.bool true)), (8, P.d (D.int IntKind.i64 (k + (1 : Int))))] []) else False else False else False else post (PX.exit 0, S.mk 78 [(1, P.d (D.sl 1 (List.map D.str l))), (5, P.d (D.bool true))] [])) = (roundL [(39, hSeen)] [] 10 10 (bkH l k)) post := by kernel_rfl
theorem vcLawBk (s : List UInt8) (l : List (List UInt8)) (post : P × List (Nat × En) → Prop) : (EqP [] [] ∧ EqR [] [] ∧ bif decide ((↑(List.length s) : Int) > (5000 : Int)) then post (P.d (D.bool true), []) else bif decide ((↑(List.length (List.map D.str l)) : Int) > (100 : Int)) then post (P.d (D.bool true), []) else ∃ (s_1 : List UInt8), [P.d (D.str s)] = [P.d (D.str s_1)] ∧ EqR [] [] ∧ List.length s_1 ≤ 2000000 ∧ ∀ (n : Nat) (e : Int) (l_1 : List (List UInt8)), splitP s_1 = (e, l_1) → n = List.length l_1 → bif e == (0 : Int) then ∃ (l_2 : List (List UInt8)), [P.d (D.sl 1 (List.take n (List.map D.str l_1)))] = [P.d (D.sl 1 (List.map D.str l_2))] ∧ EqR [] [] ∧ sumL l_2 ≤ 2000000 ∧ bif !joinP l_2 == s then post (P.d (D.bool false), []) else ∃ (l_3 : List (List UInt8)), S.mk 78 [(1, P.d (D.sl 1 (List.map D.str l))), (5, P.d (D.bool true)), (8, P.d (D.int IntKind.i64 (0 : Int)))] [] = S.mk 78 [(1, P.d (D.sl 1 (List.map D.str l_3))), (5, P.d (D.bool true)), (8, P.d (D.int IntKind.i64 (0 : Int)))] [] ∧ (List.length l_3 ≤ 100 ∧ ∀ (x : List UInt8), x ∈ l_3 → List.length x ≤ 2000000) ∧ (¬AllSeen l_3 → post (P.d (D.bool true), [])) ∧ (AllSeen l_3 → ∃ (l : List (List UInt8)), [P.d (D.sl 1 (List.map D.str l_3))] = [P.d (D.sl 1 (List.map D.str l))] ∧ EqR [] [] ∧ sumL l ≤ 2000000 ∧ ∃ (s : List UInt8), [P.d (D.str (joinP l))] = [P.d (D.str s)] ∧ EqR [] [] ∧ List.length s ≤ 2000000 ∧ ∀ (n : Nat) (e : Int) (l : List (List UInt8)), splitP s = (e, l) → n = List.length l → bif decide ((↑(List.length (List.map D.str l_3)) : Int) > (20 : Int)) then bif e == (2 : Int) then post (P.d (D.bool ((↑n : Int) == (0 : Int))), []) else post (P.d (D.bool false), []) else bif e == (0 : Int) then ∃ (v : List (List UInt8)), ∃ (w : List (List UInt8)), [P.d (D.sl 1 (List.take n (List.map D.str l))), P.d (D.sl 1 (List.map D.str l_3))] = [P.d (D.sl 1 (List.map D.str v)), P.d (D.sl 1 (List.map D.str w))] ∧ EqR [] [] ∧ List.length v ≤ 3000000 ∧ post (P.d (D.bool (decide (v = w))), []) else post (P.d (D.bool false), [])) else ∃ (l_2 : List (List UInt8)), S.mk 78 [(1, P.d (D.sl 1 (List.map D.str l))), (5, P.d (D.bool true)), (8, P.d (D.int IntKind.i64 (0 : Int)))] [] = S.mk 78 [(1, P.d (D.sl 1 (List.map D.str l_2))), (5, P.d (D.bool true)), (8, P.d (D.int IntKind.i64 (0 : Int)))] [] ∧ (List.length l_2 ≤ 100 ∧ ∀ (x : List UInt8), x ∈ l_2 → List.length x ≤ 2000000) ∧ (¬AllSeen l_2 → post (P.d (D.bool true), [])) ∧ (AllSeen l_2 → ∃ (l : List (List UInt8)), [P.d (D.sl 1 (List.map D.str l_2))] = [P.d (D.sl 1 (List.map D.str l))] ∧ EqR [] [] ∧ sumL l ≤ 2000000 ∧ ∃ (s : List UInt8), [P.d (D.str (joinP l))] = [P.d (D.str s)] ∧ EqR [] [] ∧ List.length s ≤ 2000000 ∧ ∀ (n : Nat) (e : Int) (l : List (List UInt8)), splitP s = (e, l) → n = List.length l → bif decide ((↑(List.length (List.map D.str l_2)) : Int) > (20 : Int)) then bif e == (2 : Int) then post (P.d (D.bool ((↑n : Int) == (0 : Int))), []) else post (P.d (D.bool false), []) else bif e == (0 : Int) then ∃ (v : List (List UInt8)), ∃ (w : List (List UInt8)), [P.d (D.sl 1 (List.take n (List.map D.str l))), P.d (D.sl 1 (List.map D.str l_2))] = [P.d (D.sl 1 (List.map D.str v)), P.d (D.sl 1 (List.map D.str w))] ∧ EqR [] [] ∧ List.length v ≤ 3000000 ∧ post (P.d (D.bool (decide (v = w))), []) else post (P.d (D.bool false), []))) = (bodyF [(36, hAwake7), (41, hSplitP), (43, hSameT), (44, hJoinP), (39, hSeen)] [(10, loopHook (kpF 10 10) gBk)] 10 [sD s, tD l] []) post := by kernel_rfl
end Pi

/- Pathname: the laws. -/
namespace Pi
open Go Go.Proofs
set_option maxRecDepth 100000
section
variable {X : XF}
theorem okJoinN : FD X 44 hJoinN := FD.mk (H := [(66, hJoinL)]) (hk := []) (by kernel_rfl) (.cons okJoinL .nil) .nil (by
  intro ps R post hh
  obtain ⟨rfl, rfl, hp⟩ := hh
  rw [← vcJoinN]
  exact ⟨[], [47], rfl, rfl, ⟨by simp, by simp [Lib.join, List.intercalate]⟩, oblP (by simp [Lib.join, List.intercalate]) (by simpa [Lib.join, List.intercalate] using hp)⟩)
theorem parse_a : parse3 [51, 46, 49, 46, 48] = some (3, 1, 0) := by
  simp only [parse3, sp1, at1, at2, at3, tx1, rt1, and_self, if_true]
theorem seen_a : seenOk [97] = true := by
  have h : nameOk [97] = true := by decide +kernel
  have e : pre 126 [97] = [97] := by decide +kernel
  simp [seenOk, e, h]
theorem seen_b : seenOk [98, 126, 51, 46, 49, 46, 48] = true := by
  have h : nameOk [98] = true := by decide +kernel
  have e : pre 126 [98, 126, 51, 46, 49, 46, 48] = [98] := by decide +kernel
  simp [seenOk, e, h, parse_a]
theorem split_a : splitP [47, 97, 47, 98, 126, 51, 46, 49, 46, 48] = (0, [[97], [98, 126, 51, 46, 49, 46, 48]]) := by
  have e : splitBy 47 [97, 47, 98, 126, 51, 46, 49, 46, 48] = [[97], [98, 126, 51, 46, 49, 46, 48]] := by decide +kernel
  rw [splitP_cons, if_neg (by simp), e]
  simp [seen_a, seen_b]
theorem split_b : splitP [47, 97, 47] = (70, []) := by
  have e : splitBy 47 [97, 47] = [[97], []] := by decide +kernel
  have h : seenOk [] = false := by decide +kernel
  rw [splitP_cons, if_neg (by simp), e]
  simp [h]
theorem clash_a : clashP [98] 3 1 0 = ([98, 126, 51, 46, 49, 46, 48], 0) := by
  have h : nameOk [98] = true := by decide +kernel
  rw [clashP, if_pos h, if_pos rt1, tx1]
  rfl
theorem okAwake7 : FD X 36 hAwake7 := FD.mk (H := [(41, hSplitP), (34, hClash), (44, hJoinN), (43, hSameT)]) (hk := []) (by kernel_rfl) (.cons okSplitP (.cons okClash (.cons okJoinN (.cons okSameT .nil)))) .nil (by
  intro ps R post hh
  obtain ⟨rfl, rfl, hp⟩ := hh
  rw [← vcAwake7]
  refine ⟨_, rfl, rfl, by simp, fun n e l he hn => ⟨_, _, _, _, rfl, rfl, _, rfl, rfl, by simp, fun n1 e1 l1 he1 hn1 => ?_⟩⟩
  rw [split_a] at he
  rw [split_b] at he1
  simp only [Prod.mk.injEq] at he he1
  obtain ⟨rfl, rfl⟩ := he
  obtain ⟨rfl, rfl⟩ := he1
  subst hn hn1
  rw [clash_a]
  exact condT rfl ⟨[[97], [98, 126, 51, 46, 49, 46, 48]], [[97], [98, 126, 51, 46, 49, 46, 48]], rfl, rfl, by simp, condT (by simp) (condT rfl (condT rfl (condT rfl ⟨rfl, rfl, hp⟩)))⟩)

theorem fitT {m : Nat} {x : D} (h : FitE PR (m + 2) 47 x) : ∃ l : List (List UInt8), x = .sl 1 (l.map D.str) := by
  obtain ⟨es, rfl, _, hy⟩ := fitE_slice (k := 1) Tryd.underlying47 (by kernel_rfl) h
  have : ∀ es : List D, (∀ y ∈ es, FitE PR (m + 1) 9 y) → ∃ l : List (List UInt8), es = l.map D.str := by
    intro es
    induction es with
    | nil => intro _; exact ⟨[], rfl⟩
    | cons y es ih =>
      intro hy
      obtain ⟨l, rfl⟩ := ih fun y h => hy y (.tail _ h)
      obtain ⟨s, rfl⟩ := fitS (hy y (.head _))
      exact ⟨s :: l, rfl⟩
  obtain ⟨l, rfl⟩ := this es hy
  exact ⟨l, rfl⟩
theorem bulk_texts : ∀ l : List (List UInt8), bulkL (l.map D.str) = sumL l
  | [] => rfl
  | x :: l => by
    have ih := bulk_texts l
    simp only [List.map_cons, bulkL, bulk1, ih]
    simp [sumL, joinR]
    omega

def hLawN : KF1 := fun ps R post => ∃ s t r i, ps = [sD s, .d (idD t r i)] ∧ R = [] ∧ s.length ≤ 2000000 ∧ post (.d (.bool true), [])
theorem okLawN : FD X 8 hLawN := FD.mk (H := [(36, hAwake7), (34, hClash), (35, hClash), (37, hName), (38, hName), (39, hSeen), (40, hSeen)]) (hk := []) (by kernel_rfl)
  (.cons okAwake7 (.cons okClash (.cons okClashR (.cons okName (.cons okNameR (.cons okSeen (.cons okSeenR .nil))))))) .nil (by
  intro ps R post hh
  obtain ⟨s, t, r, i, rfl, rfl, hs, hp⟩ := hh
  rw [← vcLawN]
  exact ⟨s, t, r, i, rfl, rfl, s, t, r, i, rfl, rfl, rfl, rfl, s, rfl, rfl, s, rfl, rfl, condT (by simp) ⟨s, rfl, rfl, hs, s, rfl, rfl, hs, condT (by simp) (condT (by simp) (leafB hp (by simp)))⟩⟩)
theorem okNamesLaw (xs : List D) (h : FitAll PR 8 [9, 25] xs) (hb : bulkL xs ≤ 1048576) : ∃ lf k R, runF PR (kpT X) lf k 8 (xs.map P.d) [] = some (.d (.bool true), R) := by
  obtain ⟨x, r, rfl, hx, h⟩ := fitAll_cons h
  obtain ⟨y, r, rfl, hy, h⟩ := fitAll_cons h
  have e := fitAll_nil h
  subst e
  obtain ⟨s, rfl⟩ := fitS hx
  obtain ⟨t, r, i, rfl, _⟩ := fitId hy
  simp only [bulkL, bulk1] at hb
  obtain ⟨lf, k, hr⟩ := (okLawN (X := X)).run (y := (.d (.bool true), [])) ⟨s, t, r, i, rfl, rfl, by omega, rfl⟩
  exact ⟨lf, k, [], hr⟩

theorem tx_take {l : List (List UInt8)} {n : Nat} (h : n = l.length) : (l.map D.str).take n = l.map D.str := by
  subst h
  rw [List.take_of_length_le (by simp)]
theorem splitP_len (s : List UInt8) : (splitP s).2.length ≤ 20 := by
  unfold splitP
  split
  · split
    · simp
    · split
      · split
        · simp
        · simp only; omega
      · simp
  · simp
def hLawP : KF1 := fun ps R post => ∃ s l, ps = [sD s, tD l] ∧ R = [] ∧ sumL l ≤ 1500000 ∧ post (.d (.bool true), [])
theorem okLawP : FD X 9 hLawP := FD.mk (H := [(36, hAwake7), (41, hSplitP), (42, hSplitP), (43, hSameT), (44, hJoinP), (45, hJoinP)]) (hk := []) (by kernel_rfl)
  (.cons okAwake7 (.cons okSplitP (.cons okSplitR (.cons okSameT (.cons okJoin (.cons okJoinR .nil)))))) .nil (by
  intro ps R post hh
  obtain ⟨s, l, rfl, rfl, hl, hp⟩ := hh
  rw [← vcLawP]
  refine condP (fun _ => ⟨rfl, rfl, hp⟩) fun h1 => condP (fun _ => ⟨rfl, rfl, hp⟩) fun h2 => ⟨s, rfl, rfl, by omega, fun n e l1 he hn => ⟨s, rfl, rfl, by omega, fun n' e' l2 he' hn' => ?_⟩⟩
  rw [he] at he'
  simp only [Prod.mk.injEq] at he'
  obtain ⟨rfl, rfl⟩ := he'
  have hlen := splitP_len s
  rw [he] at hlen
  rw [tx_take hn, tx_take hn']
  exact ⟨rfl, rfl, l1, l1, rfl, rfl, by dsimp only at hlen; omega, condT (by simp) (condT (by simp) ⟨l, rfl, rfl, by omega, l, rfl, rfl, by omega, leafB hp (by simp)⟩)⟩)
theorem okPathsLaw (xs : List D) (h : FitAll PR 8 [9, 47] xs) (hb : bulkL xs ≤ 1048576) : ∃ lf k R, runF PR (kpT X) lf k 9 (xs.map P.d) [] = some (.d (.bool true), R) := by
  obtain ⟨x, r, rfl, hx, h⟩ := fitAll_cons h
  obtain ⟨y, r, rfl, hy, h⟩ := fitAll_cons h
  have e := fitAll_nil h
  subst e
  obtain ⟨s, rfl⟩ := fitS hx
  obtain ⟨l, rfl⟩ := fitT hy
  simp only [bulkL, bulk1, bulk_texts] at hb
  obtain ⟨lf, k, hr⟩ := (okLawP (X := X)).run (y := (.d (.bool true), [])) ⟨s, l, rfl, rfl, by omega, rfl⟩
  exact ⟨lf, k, [], hr⟩

theorem loopBk : LD X 10 10 (loopHook (kpF 10 10) gBk) := LD.par (H := [(39, hSeen)]) (hk := []) (by kernel_rfl) (by kernel_rfl) (.cons okSeen .nil) .nil
  (A := List (List UInt8)) (B := Int) (fun a k => bkH a k)
  (fun a k => (a.length ≤ 100 ∧ ∀ x ∈ a, x.length ≤ 2000000) ∧ 0 ≤ k ∧ k ≤ a.length ∧ ∀ i : Nat, (i : Int) < k → seenOk (a.getD i []) = true)
  (fun a k => (a.length - k).toNat)
  (fun a x => (¬ AllSeen a ∧ x = (.ret, ⟨78, [(1, tD a), (4, .d (.bool true)), (5, .d (.bool true))], []⟩)) ∨ (AllSeen a ∧ x = (.exit 0, ⟨78, [(1, tD a), (5, .d (.bool true))], []⟩)))
  (by
    rintro l k ⟨⟨hl, hx⟩, h0, h1, he⟩
    rw [← vcBkN]
    simp only [List.length_map]
    refine condP (fun h => ?_) fun h => .inr ⟨(allSeen_nat l).2 fun i hi => he i (by omega), rfl⟩
    have hk : k.toNat < l.length := by omega
    rw [tx_nth hk]
    have hlen : (l.getD k.toNat []).length ≤ 2000000 := by
      have := hx l[k.toNat] (List.getElem_mem hk)
      simpa [List.getD_eq_getElem?_getD, hk] using this
    refine oblP ⟨h0, h⟩ (oblI (isDs _) ⟨_, rfl, rfl, hlen, condI (fun h' => .inl ⟨fun hh => ?_, rfl⟩) fun h' => oblI (incI (by omega) (by omega)) ⟨_, by omega, k + 1, rfl, ⟨⟨hl, hx⟩, by omega, by omega, fun i hi => ?_⟩, rfl⟩⟩)
    · have := (allSeen_nat l).1 hh k.toNat hk
      have h'' : (!seenOk (l.getD k.toNat [])) = true := h'
      rw [this] at h''
      cases h''
    · by_cases e : (i : Int) = k
      · have : i = k.toNat := by omega
        rw [this]
        have h'' : (!seenOk (l.getD k.toNat [])) = false := h'
        simpa using h''
      · exact he i (by omega))
  (by
    rintro s post ⟨l, rfl, h1, h2, h3⟩
    refine ⟨l, 0, rfl, ⟨h1, by omega, by omega, fun i hi => by omega⟩, ?_⟩
    rintro x (⟨h, rfl⟩ | ⟨h, rfl⟩)
    · exact h2 h
    · exact h3 h)
theorem sum_mem {l : List (List UInt8)} {x : List UInt8} (h : x ∈ l) : x.length ≤ sumL l := by
  induction l with
  | nil => cases h
  | cons y l ih =>
    rcases List.mem_cons.1 h with rfl | h
    · simp [sumL, joinR]; omega
    · have := ih h
      simp [sumL, joinR] at this ⊢; omega
theorem okLawBk : FD X 10 hLawP := FD.mk (H := [(36, hAwake7), (41, hSplitP), (43, hSameT), (44, hJoinP), (39, hSeen)]) (hk := [(10, loopHook (kpF 10 10) gBk)]) (by kernel_rfl)
  (.cons okAwake7 (.cons okSplitP (.cons okSameT (.cons okJoin (.cons okSeen .nil))))) (.cons loopBk .nil) (by
  intro ps R post hh
  obtain ⟨s, l, rfl, rfl, hl, hp⟩ := hh
  rw [← vcLawBk]
  refine ⟨rfl, rfl, condP (fun _ => hp) fun h1 => condP (fun _ => hp) fun h2 => ⟨s, rfl, rfl, by omega, fun n e l1 he hn => ?_⟩⟩
  simp only [List.length_map] at h2
  have hmem : ∀ x ∈ l, x.length ≤ 2000000 := fun x hx => Nat.le_trans (sum_mem hx) (by omega)
  have hj := joinP_len l
  refine condE (fun h3 => ?_) fun h3 => ?_
  · subst h3
    have hjs := join_splitP (p := s) (by rw [he])
    rw [he] at hjs
    dsimp only at hjs
    rw [tx_take hn]
    have hsum : sumL l1 ≤ 2000000 := by
      cases l1 with
      | nil => simp [sumL, joinR]
      | cons x r =>
        unfold sumL
        rw [joinR_P (x :: r) (by simp), hjs]
        omega
    refine ⟨l1, rfl, rfl, hsum, condF (by rw [hjs]; simp) ⟨l, rfl, ⟨by omega, hmem⟩, fun _ => ?_, fun hall => ⟨l, rfl, rfl, by omega, joinP l, rfl, rfl, by omega, fun n2 e2 l2 he2 hn2 => ?_⟩⟩⟩
    · exact hp
    · rw [splitP_join hall] at he2
      simp only [List.length_map]
      refine condP (fun h4 => ?_) fun h4 => ?_
      · rw [if_pos (by omega)] at he2
        simp only [Prod.mk.injEq] at he2
        obtain ⟨rfl, rfl⟩ := he2
        subst hn2
        exact condT rfl hp
      · rw [if_neg (by omega)] at he2
        simp only [Prod.mk.injEq] at he2
        obtain ⟨rfl, rfl⟩ := he2
        rw [tx_take hn2]
        exact condT rfl ⟨_, _, rfl, rfl, by omega, leafB hp (by simp)⟩
  · refine ⟨l, rfl, ⟨by omega, hmem⟩, fun _ => ?_, fun hall => ⟨l, rfl, rfl, by omega, joinP l, rfl, rfl, by omega, fun n2 e2 l2 he2 hn2 => ?_⟩⟩
    · exact hp
    · rw [splitP_join hall] at he2
      simp only [List.length_map]
      refine condP (fun h4 => ?_) fun h4 => ?_
      · rw [if_pos (by omega)] at he2
        simp only [Prod.mk.injEq] at he2
        obtain ⟨rfl, rfl⟩ := he2
        subst hn2
        exact condT rfl hp
      · rw [if_neg (by omega)] at he2
        simp only [Prod.mk.injEq] at he2
        obtain ⟨rfl, rfl⟩ := he2
        rw [tx_take hn2]
        exact condT rfl ⟨_, _, rfl, rfl, by omega, leafB hp (by simp)⟩)
theorem okPBackLaw (xs : List D) (h : FitAll PR 8 [9, 47] xs) (hb : bulkL xs ≤ 1048576) : ∃ lf k R, runF PR (kpT X) lf k 10 (xs.map P.d) [] = some (.d (.bool true), R) := by
  obtain ⟨x, r, rfl, hx, h⟩ := fitAll_cons h
  obtain ⟨y, r, rfl, hy, h⟩ := fitAll_cons h
  have e := fitAll_nil h
  subst e
  obtain ⟨s, rfl⟩ := fitS hx
  obtain ⟨l, rfl⟩ := fitT hy
  simp only [bulkL, bulk1, bulk_texts] at hb
  obtain ⟨lf, k, hr⟩ := (okLawBk (X := X)).run (y := (.d (.bool true), [])) ⟨s, l, rfl, rfl, by omega, rfl⟩
  exact ⟨lf, k, [], hr⟩
end
end Pi

/- Pathname: what clashes tell: the law. -/
namespace Pi
open Go Go.Proofs
set_option maxRecDepth 100000
section
variable {X : XF}
theorem clash_fst (s : List UInt8) (t r i : Int) : (clashP s t r i).1.length ≤ 2000000 := by
  unfold clashP
  split
  · rename_i h
    split
    · rename_i h'
      have := textId_len t r i
      have hl : (textId t r i).length ≤ 66 := by
        rw [textId, if_pos h']
        simp only [rightId, decide_eq_true_eq] at h'
        have l1 := itoa_len21 (n := t) (by omega) (by omega)
        have l2 := itoa_len21 (n := r) (by omega) (by omega)
        have l3 := itoa_len21 (n := i) (by omega) (by omega)
        simp [textS]; omega
      rw [textId, if_pos h'] at hl
      simp only [nameOk, decide_eq_true_eq] at h
      simp; omega
    · simp
  · simp
theorem clash_snd (s : List UInt8) (t r i : Int) : (clashP s t r i).2 = 0 ↔ (nameOk s = true ∧ rightId t r i = true) := by
  unfold clashP
  split
  · rename_i h
    split
    · rename_i h'; simp [h, h']
    · rename_i h'; simp [h']
  · rename_i h; simp [h]
theorem clash_ok {s : List UInt8} {t r i : Int} (h : (clashP s t r i).2 = 0) : nameOk (clashP s t r i).1 = false ∧ seenOk (clashP s t r i).1 = true ∧ nameOk s = true ∧ rightId t r i = true := by
  obtain ⟨h1, h2⟩ := (clash_snd s t r i).1 h
  rw [clashP, if_pos h1, if_pos h2]
  exact ⟨clash_name, clash_seen h1 h2, h1, h2⟩
theorem clash_eq {s t : List UInt8} {a b c a' b' c' : Int} (h : (clashP s a b c).2 = 0) (h' : (clashP t a' b' c').2 = 0) : ((clashP s a b c).1 == (clashP t a' b' c').1) = (s == t && (a == a' && (b == b' && true) && (c == c' && true))) := by
  obtain ⟨h1, h2⟩ := (clash_snd s a b c).1 h
  obtain ⟨h3, h4⟩ := (clash_snd t a' b' c').1 h'
  rw [clashP, if_pos h1, if_pos h2, clashP, if_pos h3, if_pos h4, Bool.eq_iff_iff]
  simp only [beq_iff_eq, Bool.and_eq_true, and_true]
  constructor
  · intro e
    obtain ⟨e1, e2, e3, e4⟩ := clash_inj h1 h2 h3 h4 e
    exact ⟨e1, ⟨e2, e3⟩, e4⟩
  · rintro ⟨rfl, ⟨rfl, rfl⟩, rfl⟩
    rfl
def hLawC : KF1 := fun ps R post => ∃ s t a b c a' b' c', ps = [sD s, sD t, .d (idD a b c), .d (idD a' b' c')] ∧ R = [] ∧ post (.d (.bool true), [])
theorem okLawC : FD X 11 hLawC := FD.mk (H := [(36, hAwake7), (34, hClash), (37, hName), (39, hSeen), (46, hRightId)]) (hk := []) (by kernel_rfl)
  (.cons okAwake7 (.cons okClash (.cons okName (.cons okSeen (.cons okRightIdR .nil))))) .nil (by
  intro ps R post hh
  obtain ⟨s, t, a, b, c, a', b', c', rfl, rfl, hp⟩ := hh
  rw [← vcLawC]
  have hl := clash_fst s a b c
  have k1 := clash_snd s a b c
  have k2 : (clashP s a b c).2 = 0 → _ := clash_ok
  have k3 : (clashP s a b c).2 = 0 → (clashP t a' b' c').2 = 0 → _ := clash_eq
  refine ⟨rfl, rfl, s, a, b, c, rfl, rfl, t, a', b', c', rfl, rfl, condE (fun h => ?_) fun h => ?_⟩
  · obtain ⟨c1, c2, c3, c4⟩ := k2 h
    refine ⟨_, rfl, rfl, condF c1 ⟨_, rfl, rfl, hl, condF (by rw [c2]; rfl) ⟨s, rfl, rfl, condF (by rw [c3]; rfl) ⟨s, rfl, rfl, condT c3 ⟨a, b, c, rfl, rfl, condF (by rw [c4, h]; rfl) (condF (by rw [h]; rfl) (condN (fun _ => hp) fun h5 => condI (fun h6 => ?_) fun h6 => ?_))⟩⟩⟩⟩⟩
    · exact leafB hp (by rw [k3 h h5, h6]; simp)
    · exact leafB hp (by rw [k3 h h5, h6]; simp)
  · refine ⟨s, rfl, rfl, condI (fun h2 => ⟨a, b, c, rfl, rfl, condF ?_ (condT (by simpa using h) hp)⟩) fun h2 => condF ?_ (condT (by simpa using h) hp)⟩
    · have hr : rightId a b c = false := by
        cases hr : rightId a b c with
        | false => rfl
        | true => exact absurd (k1.2 ⟨h2, hr⟩) h
      rw [hr, show ((clashP s a b c).2 == (0 : Int)) = false by simpa using h]
      rfl
    · rw [show ((clashP s a b c).2 == (0 : Int)) = false by simpa using h]
      rfl)
theorem okClashesLaw (xs : List D) (h : FitAll PR 8 [9, 9, 25, 25] xs) : ∃ lf k R, runF PR (kpT X) lf k 11 (xs.map P.d) [] = some (.d (.bool true), R) := by
  obtain ⟨x, r, rfl, hx, h⟩ := fitAll_cons h
  obtain ⟨y, r, rfl, hy, h⟩ := fitAll_cons h
  obtain ⟨z, r, rfl, hz, h⟩ := fitAll_cons h
  obtain ⟨q, r, rfl, hq, h⟩ := fitAll_cons h
  have e := fitAll_nil h
  subst e
  obtain ⟨s, rfl⟩ := fitS hx
  obtain ⟨t, rfl⟩ := fitS hy
  obtain ⟨a, b, c, rfl, _⟩ := fitId hz
  obtain ⟨a', b', c', rfl, _⟩ := fitId hq
  obtain ⟨lf, k, hr⟩ := (okLawC (X := X)).run (y := (.d (.bool true), [])) ⟨s, t, a, b, c, a', b', c', rfl, rfl, rfl⟩
  exact ⟨lf, k, [], hr⟩
end
end Pi

/- Stamp: the world that a row's condition gives. -/
namespace Pi
open Go Go.Proofs Go.RowKit Go.Proofs.YthaoefcijckofaaDoor
set_option maxRecDepth 100000

abbrev laidL : List (String × DataW Unit) := [("math/bits.deBruijn32tab", Rows.laid_math_bits_deBruijn32tab), ("math/bits.deBruijn64tab", Rows.laid_math_bits_deBruijn64tab), ("internal/strconv.uint64pow10", Rows.laid_internal_strconv_uint64pow10), ("unicode/utf8.acceptRanges", Rows.laid_unicode_utf8_acceptRanges), ("strconv.ErrRange", Rows.laid_strconv_ErrRange), ("strconv.ErrSyntax", Rows.laid_strconv_ErrSyntax), ("unicode/utf8.first", Rows.laid_unicode_utf8_first)]

theorem gES : Tryd.prog.globalNamed "strconv.ErrSyntax" = some 0 := by kernel_rfl
theorem gER : Tryd.prog.globalNamed "strconv.ErrRange" = some 1 := by kernel_rfl
theorem gP : Tryd.prog.globalNamed "internal/strconv.uint64pow10" = some 5 := by kernel_rfl
theorem tES : (Tryd.prog.globals[0]?).map (·.type) = some 64 := by kernel_rfl
theorem tER : (Tryd.prog.globals[1]?).map (·.type) = some 64 := by kernel_rfl
theorem tP : (Tryd.prog.globals[5]?).map (·.type) = some 161 := by kernel_rfl
theorem starN : "*" ++ "errors.errorString" = "*errors.errorString" := by decide
theorem row98 (u : TypeId) (h : Tryd.prog.typeName? 3 u = some "*errors.errorString") : u = 157 :=
  typeName_ptr_named (nm := "errors.errorString") (by rw [starN]; kernel_rfl) (by kernel_rfl) (by decide) u (by rw [starN]; exact h)
theorem laidL_plain (w : World) (h : laidMetH Tryd.prog laidL w) : laidMet Tryd.prog laidL w := by
  unfold laidMetH at h
  have e : (laidL.filter fun x => x.2.handleName?.isSome) = [] := by kernel_rfl
  rw [e] at h
  exact h
theorem laidL_H (w : World) (h : laidMet Tryd.prog laidL w) : laidMetH Tryd.prog laidL w := by
  unfold laidMetH
  have e : (laidL.filter fun x => x.2.handleName?.isSome) = [] := by kernel_rfl
  rw [e]
  exact h
theorem laidP : (Rows.laid_internal_strconv_uint64pow10 : DataW Unit) = Lib.tabData .u64 Lib.pow10Tab := by kernel_rfl
theorem stW_of {W : World} (h0 : laidMetH Tryd.prog laidL W) (hs : W.ShapedOpen Tryd.prog) : StW W := by
  have h := laidL_plain W h0
  have h3 := h.tail.tail
  have h5 := h3.tail.tail
  have h6 := h5.tail
  obtain ⟨a1, s1, hv1, _, _, _⟩ := laid_sentinel h5 gER tER Tryd.underlying64 row98 Tryd.underlying157 Tryd.underlying159 rfl rfl Tryd.underlying9 (by kernel_rfl) (by kernel_rfl)
  obtain ⟨a0, s0, hv0, _, _, _⟩ := laid_sentinel h6 gES tES Tryd.underlying64 row98 Tryd.underlying157 Tryd.underlying159 rfl rfl Tryd.underlying9 (by kernel_rfl) (by kernel_rfl)
  have htab : Lib.TabIs Tryd.prog W "internal/strconv.uint64pow10" .u64 Lib.pow10Tab :=
    Lib.tabIs_of_head (k := .u64) (zs := Lib.pow10Tab) gP tP Tryd.underlying161 Tryd.underlying114 (by kernel_rfl) (by kernel_rfl) (by rw [← laidP]; exact h3)
  refine ⟨?_, ⟨_, by have := World.var?_cell gES hv0 0; simpa using this, .inr ⟨_, _, rfl⟩⟩, ⟨_, by have := World.var?_cell gER hv1 0; simpa using this, .inr ⟨_, _, rfl⟩⟩, fun w hw => ?_⟩
  · exact cell_of_shapedOpen_int (zero := #[.int .i64 0]) (t := 3) hs (Nat.le_of_ble_eq_true (by kernel_rfl)) (by kernel_rfl) rfl (by kernel_rfl) (by kernel_rfl) Tryd.underlying3
  · unfold Lib.TabIs World.var? at htab ⊢
    rw [gP] at htab ⊢
    simp only [Option.bind_some] at htab ⊢
    by_cases hb : 5 < W.heap.size
    · rw [hw 5 hb]
      exact htab
    · rw [Array.getElem?_eq_none (by omega)] at htab
      cases htab

/-- A world that meets the condition. -/
noncomputable def wL (os : Os) : World := World.laidAll Tryd.prog os laidL
theorem wL_met (os : Os) (args : Array Value) : laidMet Tryd.prog laidL ((wL os).forCall (fun _ _ => 0) ⟨#[], args, []⟩).memory :=
  laidMet_laidAll _ (by kernel_rfl) (by kernel_rfl)
end Pi

