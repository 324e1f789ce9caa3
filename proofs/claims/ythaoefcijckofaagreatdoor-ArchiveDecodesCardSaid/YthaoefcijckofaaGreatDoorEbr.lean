/- The texts StL2H P1 P1H P2H P3 P3H A1 A1H A2 A2H A3 A3H A4 A4H A5 A5H ArP A6 A6H. -/
import Derived.Test.YthaoefcijckofaaGreatDoorPiBulk
/- Stamp: the laws on texts. -/
namespace Pi
open Go Go.Proofs
set_option maxRecDepth 100000
section
variable {X : XF}
theorem splitOk {s : List UInt8} (h : s.length ≤ 2000000) : SplitOk s := by
  have hc : s.count 46 ≤ s.length := List.count_le_length
  refine ⟨by omega, ?_, ?_, fun x hx => ?_⟩
  · rw [split_by, splitBy_len, Lib.count_one]
  · rw [Lib.count_one]; omega
  · rw [split_by] at hx
    have := splitBy_each 46 s x hx
    omega
theorem textId_len (t r i : Int) : (textId t r i).length ≤ 2000000 := by
  unfold textId
  split
  · rename_i h
    simp only [rightId, decide_eq_true_eq] at h
    have l1 := itoa_len21 (n := t) (by omega) (by omega)
    have l2 := itoa_len21 (n := r) (by omega) (by omega)
    have l3 := itoa_len21 (n := i) (by omega) (by omega)
    simp [textS]; omega
  · simp
theorem fitId {m : Nat} {x : D} (h : FitE PR (m + 3) 81 x) : ∃ t r i, x = idD t r i ∧ (Lit.int .i64 t).wf = true ∧ (Lit.int .i64 r).wf = true ∧ (Lit.int .i64 i).wf = true := by
  obtain ⟨cs, rfl, hl, hf⟩ := fitE_struct (k := 3) Tryz.underlying81 (by kernel_rfl) h
  obtain ⟨a, b, c, rfl⟩ : ∃ a b c, cs = [a, b, c] := by
    match cs, hl with
    | [a, b, c], _ => exact ⟨a, b, c, rfl⟩
  have c23 : PR.cellsOf 79 = 2 := by kernel_rfl
  have c3 : PR.cellsOf 3 = 1 := by kernel_rfl
  have h1 := hf _ (List.mem_cons_self ..)
  have h2 := hf _ (List.mem_cons_of_mem _ (List.mem_cons_self ..))
  simp only [c23, List.drop_zero, List.take_succ_cons, List.take_zero] at h1
  simp only [c3, List.drop_succ_cons, List.drop_zero, List.take_succ_cons, List.take_zero] at h2
  unfold Fit at h1
  rw [Tryz.underlying79] at h1
  obtain ⟨_, hf1⟩ := h1
  have h3 := hf1 _ (List.mem_cons_self ..)
  have h4 := hf1 _ (List.mem_cons_of_mem _ (List.mem_cons_self ..))
  simp only [c3, List.drop_zero, List.take_succ_cons, List.take_zero] at h3
  simp only [c3, List.drop_succ_cons, List.drop_zero, List.take_succ_cons, List.take_zero] at h4
  obtain ⟨t, rfl, wt⟩ := fit_int Tryz.underlying3 h3
  obtain ⟨r, rfl, wr⟩ := fit_int Tryz.underlying3 h4
  obtain ⟨i, rfl, wi⟩ := fit_int Tryz.underlying3 h2
  exact ⟨t, r, i, rfl, wt, wr, wi⟩
theorem fitS {m : Nat} {x : D} (h : FitE PR (m + 1) 9 x) : ∃ s, x = .str s := by
  obtain ⟨s, rfl, _⟩ := fitE_str Tryz.underlying9 h
  exact ⟨s, rfl⟩

def hLawT : KF1 := fun ps R post => ∃ t r i s, ps = [.d (idD t r i), sD s] ∧ R = [] ∧ s.length ≤ 2000000 ∧ post (.d (.bool true), [])
theorem parse3_nil : parse3 [] = none := by
  unfold parse3
  rw [split_by]
  rfl
def hLawK : KF1 := fun ps R post => ∃ t r i s, ps = [.d (idD t r i), sD s] ∧ R = [] ∧ s.length ≤ 2000000 ∧ post (.d (.bool true), [])
end
end Pi

/- Pathname: the loops and small functions: what their runs ask. -/
namespace Pi
open Go Go.Proofs
set_option maxRecDepth 100000
set_option maxHeartbeats 0
abbrev tD (l : List (List UInt8)) : P := .d (.sl 1 (l.map D.str))
abbrev bD' (b : Bool) : P := .d (.bool b)
def hTrim : KF1 := fun ps R post => ∃ s c, ps = [sD s, sD c] ∧ R = [] ∧ (s.length ≤ 9223372036854775807 ∧ c.length < 4294967281 ∧ c.all (fun b => decide (b.toNat < 128)) = true) ∧ post (sD (Lib.trimS s c), [])
def hCut : KF1 := fun ps R post => ∃ s c, ps = [sD s, sD c] ∧ R = [] ∧ s.length < 4294967281 ∧ post (.tup [sD (Lib.cut s c).1, sD (Lib.cut s c).2.1, .d (.bool (Lib.cut s c).2.2)], [])
def hCutP : KF1 := fun ps R post => ∃ s c, ps = [sD s, sD c] ∧ R = [] ∧ post (.tup [sD (Lib.trimPrefix s c), .d (.bool (Lib.hasPrefix s c))], [])
def hJoinL : KF1 := fun ps R post => ∃ l c, ps = [tD l, sD c] ∧ R = [] ∧ (l.length ≤ 140737488355328 ∧ (Lib.join l c).length ≤ 140737488355328) ∧ post (sD (Lib.join l c), [])
def hName : KF1 := fun ps R post => ∃ s, ps = [sD s] ∧ R = [] ∧ post (bD' (nameOk s), [])
def hSeen : KF1 := fun ps R post => ∃ s, ps = [sD s] ∧ R = [] ∧ s.length ≤ 2000000 ∧ post (bD' (seenOk s), [])
def hClash : KF1 := fun ps R post => ∃ s t r i, ps = [sD s, .d (idD t r i)] ∧ R = [] ∧ post (.tup [sD (clashP s t r i).1, iD (clashP s t r i).2], [])
def hSplitP : KF1 := fun ps R post => ∃ s, ps = [sD s] ∧ R = [] ∧ s.length ≤ 2000000 ∧ ∀ n e l, splitP s = (e, l) → n = l.length → post (.tup [.sl 0 0 n, iD e], [(0, ⟨0, none, .arr 9 false (l.map D.str)⟩)])
abbrev nmH (s : List UInt8) (k : Int) : S := ⟨64, [(0, sD s), (3, iD k)], []⟩
abbrev seH (s : List UInt8) (k : Int) : S := ⟨33, [(0, sD s), (3, iD k)], []⟩
abbrev spH (l : List (List UInt8)) (m m' : Nat) (n k : Int) : S := ⟨36, [(6, .sl 0 0 m), (22, .sl 0 0 m'), (23, iD n), (24, iD k)], [(0, ⟨0, none, .arr 9 false (l.map D.str)⟩)]⟩
abbrev srH (s : List UInt8) (o : List (List UInt8)) (m : Nat) (f i : Int) : S := ⟨51, [(0, sD s), (4, .sl 0 0 m), (5, iD f), (6, iD i)], [(0, ⟨0, none, .arr 9 false (o.map D.str)⟩)]⟩
abbrev jnH (l : List (List UInt8)) (s : List UInt8) (k : Int) : S := ⟨21, [(0, tD l), (3, sD s), (4, iD k)], []⟩
abbrev stH (v w : List (List UInt8)) (k : Int) : S := ⟨26, [(0, tD v), (1, tD w), (5, iD k)], []⟩
theorem vcName (s : List UInt8) (post : P × List (Nat × En) → Prop) : (bif !s == [] then bif decide ((↑(List.length s) : Int) ≤ (32 : Int)) then bif !s == [(46 : UInt8)] then bif !s == [(46 : UInt8), (46 : UInt8)] then ∃ (s_1 : List UInt8), ∃ (c : List UInt8), [P.d (D.str s), P.d (D.str [(48 : UInt8), (49 : UInt8), (50 : UInt8), (51 : UInt8), (52 : UInt8), (53 : UInt8), (54 : UInt8), (55 : UInt8), (56 : UInt8), (57 : UInt8), (65 : UInt8), (66 : UInt8), (67 : UInt8), (68 : UInt8), (69 : UInt8), (70 : UInt8), (71 : UInt8), (72 : UInt8), (73 : UInt8), (74 : UInt8), (75 : UInt8), (76 : UInt8), (77 : UInt8), (78 : UInt8), (79 : UInt8), (80 : UInt8), (81 : UInt8), (82 : UInt8), (83 : UInt8), (84 : UInt8), (85 : UInt8), (86 : UInt8), (87 : UInt8), (88 : UInt8), (89 : UInt8), (90 : UInt8), (97 : UInt8), (98 : UInt8), (99 : UInt8), (100 : UInt8), (101 : UInt8), (102 : UInt8), (103 : UInt8), (104 : UInt8), (105 : UInt8), (106 : UInt8), (107 : UInt8), (108 : UInt8), (109 : UInt8), (110 : UInt8), (111 : UInt8), (112 : UInt8), (113 : UInt8), (114 : UInt8), (115 : UInt8), (116 : UInt8), (117 : UInt8), (118 : UInt8), (119 : UInt8), (120 : UInt8), (121 : UInt8), (122 : UInt8), (46 : UInt8), (45 : UInt8), (95 : UInt8)])] = [P.d (D.str s_1), P.d (D.str c)] ∧ EqR [] [] ∧ (List.length s_1 ≤ 9223372036854775807 ∧ List.length c < 4294967281 ∧ (List.all c fun (b : UInt8) => decide (UInt8.toNat b < 128)) = true) ∧ post (P.d (D.bool (Lib.trimS s_1 c == [])), []) else post (P.d (D.bool false), []) else post (P.d (D.bool false), []) else post (P.d (D.bool false), []) else post (P.d (D.bool false), [])) = (bodyF [(64, hTrim)] [] 50 [sD s] []) post := by kernel_rfl
theorem vcNmN (s : List UInt8) (k : Int) (post : PX × S → Prop) : (bif decide (k < (↑(List.length s) : Int)) then bif decide ((0 : Int) ≤ k ∧ k < (↑(List.length s) : Int)) then bif decide ((↑(UInt8.toNat (List.getD s (Int.toNat k) (0 : UInt8))) : Int) ≥ (48 : Int)) then bif decide ((↑(UInt8.toNat (List.getD s (Int.toNat k) (0 : UInt8))) : Int) ≤ (57 : Int)) then bif decide ((-9223372036854775808 : Int) ≤ k + (1 : Int) ∧ k + (1 : Int) ≤ (9223372036854775807 : Int)) then post (PX.normal, S.mk 64 [(0, P.d (D.str s)), (3, P.d (D.int IntKind.i64 (k + (1 : Int))))] []) else False else bif decide ((↑(UInt8.toNat (List.getD s (Int.toNat k) (0 : UInt8))) : Int) ≥ (65 : Int)) then bif decide ((↑(UInt8.toNat (List.getD s (Int.toNat k) (0 : UInt8))) : Int) ≤ (90 : Int)) then bif decide ((-9223372036854775808 : Int) ≤ k + (1 : Int) ∧ k + (1 : Int) ≤ (9223372036854775807 : Int)) then post (PX.normal, S.mk 64 [(0, P.d (D.str s)), (3, P.d (D.int IntKind.i64 (k + (1 : Int))))] []) else False else bif decide ((↑(UInt8.toNat (List.getD s (Int.toNat k) (0 : UInt8))) : Int) ≥ (97 : Int)) then bif decide ((↑(UInt8.toNat (List.getD s (Int.toNat k) (0 : UInt8))) : Int) ≤ (122 : Int)) then bif decide ((-9223372036854775808 : Int) ≤ k + (1 : Int) ∧ k + (1 : Int) ≤ (9223372036854775807 : Int)) then post (PX.normal, S.mk 64 [(0, P.d (D.str s)), (3, P.d (D.int IntKind.i64 (k + (1 : Int))))] []) else False else bif (↑(UInt8.toNat (List.getD s (Int.toNat k) (0 : UInt8))) : Int) == (46 : Int) then bif decide ((-9223372036854775808 : Int) ≤ k + (1 : Int) ∧ k + (1 : Int) ≤ (9223372036854775807 : Int)) then post (PX.normal, S.mk 64 [(0, P.d (D.str s)), (3, P.d (D.int IntKind.i64 (k + (1 : Int))))] []) else False else bif (↑(UInt8.toNat (List.getD s (Int.toNat k) (0 : UInt8))) : Int) == (45 : Int) then bif decide ((-9223372036854775808 : Int) ≤ k + (1 : Int) ∧ k + (1 : Int) ≤ (9223372036854775807 : Int)) then post (PX.normal, S.mk 64 [(0, P.d (D.str s)), (3, P.d (D.int IntKind.i64 (k + (1 : Int))))] []) else False else bif !(↑(UInt8.toNat (List.getD s (Int.toNat k) (0 : UInt8))) : Int) == (95 : Int) then post (PX.ret, S.mk 64 [(2, P.d (D.bool false))] []) else bif decide ((-9223372036854775808 : Int) ≤ k + (1 : Int) ∧ k + (1 : Int) ≤ (9223372036854775807 : Int)) then post (PX.normal, S.mk 64 [(0, P.d (D.str s)), (3, P.d (D.int IntKind.i64 (k + (1 : Int))))] []) else False else bif (↑(UInt8.toNat (List.getD s (Int.toNat k) (0 : UInt8))) : Int) == (46 : Int) then bif decide ((-9223372036854775808 : Int) ≤ k + (1 : Int) ∧ k + (1 : Int) ≤ (9223372036854775807 : Int)) then post (PX.normal, S.mk 64 [(0, P.d (D.str s)), (3, P.d (D.int IntKind.i64 (k + (1 : Int))))] []) else False else bif (↑(UInt8.toNat (List.getD s (Int.toNat k) (0 : UInt8))) : Int) == (45 : Int) then bif decide ((-9223372036854775808 : Int) ≤ k + (1 : Int) ∧ k + (1 : Int) ≤ (9223372036854775807 : Int)) then post (PX.normal, S.mk 64 [(0, P.d (D.str s)), (3, P.d (D.int IntKind.i64 (k + (1 : Int))))] []) else False else bif !(↑(UInt8.toNat (List.getD s (Int.toNat k) (0 : UInt8))) : Int) == (95 : Int) then post (PX.ret, S.mk 64 [(2, P.d (D.bool false))] []) else bif decide ((-9223372036854775808 : Int) ≤ k + (1 : Int) ∧ k + (1 : Int) ≤ (9223372036854775807 : Int)) then post (PX.normal, S.mk 64 [(0, P.d (D.str s)), (3, P.d (D.int IntKind.i64 (k + (1 : Int))))] []) else False else bif decide ((↑(UInt8.toNat (List.getD s (Int.toNat k) (0 : UInt8))) : Int) ≥ (97 : Int)) then bif decide ((↑(UInt8.toNat (List.getD s (Int.toNat k) (0 : UInt8))) : Int) ≤ (122 : Int)) then bif decide ((-9223372036854775808 : Int) ≤ k + (1 : Int) ∧ k + (1 : Int) ≤ (9223372036854775807 : Int)) then post (PX.normal, S.mk 64 [(0, P.d (D.str s)), (3, P.d (D.int IntKind.i64 (k + (1 : Int))))] []) else False else bif (↑(UInt8.toNat (List.getD s (Int.toNat k) (0 : UInt8))) : Int) == (46 : Int) then bif decide ((-9223372036854775808 : Int) ≤ k + (1 : Int) ∧ k + (1 : Int) ≤ (9223372036854775807 : Int)) then post (PX.normal, S.mk 64 [(0, P.d (D.str s)), (3, P.d (D.int IntKind.i64 (k + (1 : Int))))] []) else False else bif (↑(UInt8.toNat (List.getD s (Int.toNat k) (0 : UInt8))) : Int) == (45 : Int) then bif decide ((-9223372036854775808 : Int) ≤ k + (1 : Int) ∧ k + (1 : Int) ≤ (9223372036854775807 : Int)) then post (PX.normal, S.mk 64 [(0, P.d (D.str s)), (3, P.d (D.int IntKind.i64 (k + (1 : Int))))] []) else False else bif !(↑(UInt8.toNat (List.getD s (Int.toNat k) (0 : UInt8))) : Int) == (95 : Int) then post (PX.ret, S.mk 64 [(2, P.d (D.bool false))] []) else bif decide ((-9223372036854775808 : Int) ≤ k + (1 : Int) ∧ k + (1 : Int) ≤ (9223372036854775807 : Int)) then post (PX.normal, S.mk 64 [(0, P.d (D.str s)), (3, P.d (D.int IntKind.i64 (k + (1 : Int))))] []) else False else bif (↑(UInt8.toNat (List.getD s (Int.toNat k) (0 : UInt8))) : Int) == (46 : Int) then bif decide ((-9223372036854775808 : Int) ≤ k + (1 : Int) ∧ k + (1 : Int) ≤ (9223372036854775807 : Int)) then post (PX.normal, S.mk 64 [(0, P.d (D.str s)), (3, P.d (D.int IntKind.i64 (k + (1 : Int))))] []) else False else bif (↑(UInt8.toNat (List.getD s (Int.toNat k) (0 : UInt8))) : Int) == (45 : Int) then bif decide ((-9223372036854775808 : Int) ≤ k + (1 : Int) ∧ k + (1 : Int) ≤ (9223372036854775807 : Int)) then post (PX.normal, S.mk 64 [(0, P.d (D.str s)), (3, P.d (D.int IntKind.i64 (k + (1 : Int))))] []) else False else bif !(↑(UInt8.toNat (List.getD s (Int.toNat k) (0 : UInt8))) : Int) == (95 : Int) then post (PX.ret, S.mk 64 [(2, P.d (D.bool false))] []) else bif decide ((-9223372036854775808 : Int) ≤ k + (1 : Int) ∧ k + (1 : Int) ≤ (9223372036854775807 : Int)) then post (PX.normal, S.mk 64 [(0, P.d (D.str s)), (3, P.d (D.int IntKind.i64 (k + (1 : Int))))] []) else False else bif decide ((↑(UInt8.toNat (List.getD s (Int.toNat k) (0 : UInt8))) : Int) ≥ (65 : Int)) then bif decide ((↑(UInt8.toNat (List.getD s (Int.toNat k) (0 : UInt8))) : Int) ≤ (90 : Int)) then bif decide ((-9223372036854775808 : Int) ≤ k + (1 : Int) ∧ k + (1 : Int) ≤ (9223372036854775807 : Int)) then post (PX.normal, S.mk 64 [(0, P.d (D.str s)), (3, P.d (D.int IntKind.i64 (k + (1 : Int))))] []) else False else bif decide ((↑(UInt8.toNat (List.getD s (Int.toNat k) (0 : UInt8))) : Int) ≥ (97 : Int)) then bif decide ((↑(UInt8.toNat (List.getD s (Int.toNat k) (0 : UInt8))) : Int) ≤ (122 : Int)) then bif decide ((-9223372036854775808 : Int) ≤ k + (1 : Int) ∧ k + (1 : Int) ≤ (9223372036854775807 : Int)) then post (PX.normal, S.mk 64 [(0, P.d (D.str s)), (3, P.d (D.int IntKind.i64 (k + (1 : Int))))] []) else False else bif (↑(UInt8.toNat (List.getD s (Int.toNat k) (0 : UInt8))) : Int) == (46 : Int) then bif decide ((-9223372036854775808 : Int) ≤ k + (1 : Int) ∧ k + (1 : Int) ≤ (9223372036854775807 : Int)) then post (PX.normal, S.mk 64 [(0, P.d (D.str s)), (3, P.d (D.int IntKind.i64 (k + (1 : Int))))] []) else False else bif (↑(UInt8.toNat (List.getD s (Int.toNat k) (0 : UInt8))) : Int) == (45 : Int) then bif decide ((-9223372036854775808 : Int) ≤ k + (1 : Int) ∧ k + (1 : Int) ≤ (9223372036854775807 : Int)) then post (PX.normal, S.mk 64 [(0, P.d (D.str s)), (3, P.d (D.int IntKind.i64 (k + (1 : Int))))] []) else False else bif !(↑(UInt8.toNat (List.getD s (Int.toNat k) (0 : UInt8))) : Int) == (95 : Int) then post (PX.ret, S.mk 64 [(2, P.d (D.bool false))] []) else bif decide ((-9223372036854775808 : Int) ≤ k + (1 : Int) ∧ k + (1 : Int) ≤ (9223372036854775807 : Int)) then post (PX.normal, S.mk 64 [(0, P.d (D.str s)), (3, P.d (D.int IntKind.i64 (k + (1 : Int))))] []) else False else bif (↑(UInt8.toNat (List.getD s (Int.toNat k) (0 : UInt8))) : Int) == (46 : Int) then bif decide ((-9223372036854775808 : Int) ≤ k + (1 : Int) ∧ k + (1 : Int) ≤ (9223372036854775807 : Int)) then post (PX.normal, S.mk 64 [(0, P.d (D.str s)), (3, P.d (D.int IntKind.i64 (k + (1 : Int))))] []) else False else bif (↑(UInt8.toNat (List.getD s (Int.toNat k) (0 : UInt8))) : Int) == (45 : Int) then bif decide ((-9223372036854775808 : Int) ≤ k + (1 : Int) ∧ k + (1 : Int) ≤ (9223372036854775807 : Int)) then post (PX.normal, S.mk 64 [(0, P.d (D.str s)), (3, P.d (D.int IntKind.i64 (k + (1 : Int))))] []) else False else bif !(↑(UInt8.toNat (List.getD s (Int.toNat k) (0 : UInt8))) : Int) == (95 : Int) then post (PX.ret, S.mk 64 [(2, P.d (D.bool false))] []) else bif decide ((-9223372036854775808 : Int) ≤ k + (1 : Int) ∧ k + (1 : Int) ≤ (9223372036854775807 : Int)) then post (PX.normal, S.mk 64 [(0, P.d (D.str s)), (3, P.d (D.int IntKind.i64 (k + (1 : Int))))] []) else False else bif decide ((↑(UInt8.toNat (List.getD s (Int.toNat k) (0 : UInt8))) : Int) ≥ (97 : Int)) then bif decide ((↑(UInt8.toNat (List.getD s (Int.toNat k) (0 : UInt8))) : Int) ≤ (122 : Int)) then bif decide ((-9223372036854775808 : Int) ≤ k + (1 : Int) ∧ k + (1 : Int) ≤ (9223372036854775807 : Int)) then post (PX.normal, S.mk 64 [(0, P.d (D.str s)), (3, P.d (D.int IntKind.i64 (k + (1 : Int))))] []) else False else bif (↑(UInt8.toNat (List.getD s (Int.toNat k) (0 : UInt8))) : Int) == (46 : Int) then bif decide ((-9223372036854775808 : Int) ≤ k + (1 : Int) ∧ k + (1 : Int) ≤ (9223372036854775807 : Int)) then post (PX.normal, S.mk 64 [(0, P.d (D.str s)), (3, P.d (D.int IntKind.i64 (k + (1 : Int))))] []) else False else bif (↑(UInt8.toNat (List.getD s (Int.toNat k) (0 : UInt8))) : Int) == (45 : Int) then bif decide ((-9223372036854775808 : Int) ≤ k + (1 : Int) ∧ k + (1 : Int) ≤ (9223372036854775807 : Int)) then post (PX.normal, S.mk 64 [(0, P.d (D.str s)), (3, P.d (D.int IntKind.i64 (k + (1 : Int))))] []) else False else bif !(↑(UInt8.toNat (List.getD s (Int.toNat k) (0 : UInt8))) : Int) == (95 : Int) then post (PX.ret, S.mk 64 [(2, P.d (D.bool false))] []) else bif decide ((-9223372036854775808 : Int) ≤ k + (1 : Int) ∧ k + (1 : Int) ≤ (9223372036854775807 : Int)) then post (PX.normal, S.mk 64 [(0, P.d (D.str s)), (3, P.d (D.int IntKind.i64 (k + (1 : Int))))] []) else False else bif (↑(UInt8.toNat (List.getD s (Int.toNat k) (0 : UInt8))) : Int) == (46 : Int) then bif decide ((-9223372036854775808 : Int) ≤ k + (1 : Int) ∧ k + (1 : Int) ≤ (9223372036854775807 : Int)) then post (PX.normal, S.mk 64 [(0, P.d (D.str s)), (3, P.d (D.int IntKind.i64 (k + (1 : Int))))] []) else False else bif (↑(UInt8.toNat (List.getD s (Int.toNat k) (0 : UInt8))) : Int) == (45 : Int) then bif decide ((-9223372036854775808 : Int) ≤ k + (1 : Int) ∧ k + (1 : Int) ≤ (9223372036854775807 : Int)) then post (PX.normal, S.mk 64 [(0, P.d (D.str s)), (3, P.d (D.int IntKind.i64 (k + (1 : Int))))] []) else False else bif !(↑(UInt8.toNat (List.getD s (Int.toNat k) (0 : UInt8))) : Int) == (95 : Int) then post (PX.ret, S.mk 64 [(2, P.d (D.bool false))] []) else bif decide ((-9223372036854775808 : Int) ≤ k + (1 : Int) ∧ k + (1 : Int) ≤ (9223372036854775807 : Int)) then post (PX.normal, S.mk 64 [(0, P.d (D.str s)), (3, P.d (D.int IntKind.i64 (k + (1 : Int))))] []) else False else False else post (PX.exit 0, S.mk 64 [] [])) = (roundL [] [] 54 4 (nmH s k)) post := by kernel_rfl
theorem vcSeN (s : List UInt8) (k : Int) (post : PX × S → Prop) : (bif decide (k < (↑(List.length s) : Int)) then bif decide ((0 : Int) ≤ k ∧ k < (↑(List.length s) : Int)) then bif (↑(UInt8.toNat (List.getD s (Int.toNat k) (0 : UInt8))) : Int) == (126 : Int) then bif decide ((-9223372036854775808 : Int) ≤ k + (1 : Int) ∧ k + (1 : Int) ≤ (9223372036854775807 : Int)) then bif decide ((0 : Int) ≤ k + (1 : Int) ∧ k + (1 : Int) ≤ (↑(List.length s) : Int)) then ∃ (s_1 : List UInt8), [P.d (D.str (List.drop (Int.toNat (k + (1 : Int))) (List.take (List.length s) s)))] = [P.d (D.str s_1)] ∧ EqR [] [] ∧ List.length s_1 ≤ 9223372036854775807 ∧ (parse3 s_1 = none → post (PX.ret, S.mk 33 [(0, P.d (D.str s)), (2, P.d (D.bool false))] [])) ∧ ∀ (t r i : Int), parse3 s_1 = some (t, r, i) → bif decide ((0 : Int) ≤ k ∧ k ≤ (↑(List.length s) : Int)) then ∃ (s_2 : List UInt8), [P.d (D.str (List.drop 0 (List.take (Int.toNat k) s)))] = [P.d (D.str s_2)] ∧ EqR [] [] ∧ post (PX.ret, S.mk 33 [(0, P.d (D.str s)), (2, P.d (D.bool (nameOk s_2)))] []) else False else False else False else bif decide ((-9223372036854775808 : Int) ≤ k + (1 : Int) ∧ k + (1 : Int) ≤ (9223372036854775807 : Int)) then post (PX.normal, S.mk 33 [(0, P.d (D.str s)), (3, P.d (D.int IntKind.i64 (k + (1 : Int))))] []) else False else False else post (PX.exit 0, S.mk 33 [(0, P.d (D.str s))] [])) = (roundL [(53, hParseR), (54, hName)] [] 42 2 (seH s k)) post := by kernel_rfl
theorem vcSpN (l : List (List UInt8)) (m m' : Nat) (n k : Int) (post : PX × S → Prop) : (bif decide (k < n) then bif decide ((0 : Int) ≤ k ∧ k < (↑m' : Int)) then bif decide (Int.toNat k < List.length (List.map D.str l)) then bif isD PR (9 : TypeId) (D.nth (List.map D.str l) (Int.toNat k)) then ∃ (s : List UInt8), [P.d (D.str (D.sVal (D.nth (List.map D.str l) (Int.toNat k))))] = [P.d (D.str s)] ∧ EqR [] [] ∧ List.length s ≤ 2000000 ∧ bif !seenOk s then post (PX.ret, S.mk 36 [(2, P.sl 0 0 0), (3, P.d (D.int IntKind.i64 (70 : Int))), (6, P.sl 1 0 m)] [(0, En.mk 0 none (Obj.arr 9 false [])), (1, En.mk 0 none (Obj.arr 9 false (List.map D.str l)))]) else bif decide ((-9223372036854775808 : Int) ≤ k + (1 : Int) ∧ k + (1 : Int) ≤ (9223372036854775807 : Int)) then post (PX.normal, S.mk 36 [(6, P.sl 0 0 m), (22, P.sl 0 0 m'), (23, P.d (D.int IntKind.i64 n)), (24, P.d (D.int IntKind.i64 (k + (1 : Int))))] [(0, En.mk 0 none (Obj.arr 9 false (List.map D.str l)))]) else False else False else False else False else post (PX.exit 1, S.mk 36 [(6, P.sl 0 0 m)] [(0, En.mk 0 none (Obj.arr 9 false (List.map D.str l)))])) = (roundL [(37, hSeen)] [] 20 8 (spH l m m' n k)) post := by kernel_rfl
theorem vcSrN (s : List UInt8) (o : List (List UInt8)) (m : Nat) (f i : Int) (post : PX × S → Prop) : (bif decide (i ≤ (↑(List.length s) : Int)) then bif i == (↑(List.length s) : Int) then bif decide ((0 : Int) ≤ i ∧ i ≤ (↑(List.length s) : Int)) then bif decide ((0 : Int) ≤ f ∧ f ≤ (↑(Int.toNat i) : Int)) then ∃ (s_1 : List UInt8), [P.d (D.str (List.drop (Int.toNat f) (List.take (Int.toNat i) s)))] = [P.d (D.str s_1)] ∧ EqR [] [] ∧ List.length s_1 ≤ 2000000 ∧ bif !seenOk s_1 then post (PX.ret, S.mk 51 [(2, P.sl 0 0 0), (3, P.d (D.int IntKind.i64 (70 : Int))), (4, P.sl 1 0 m)] [(0, En.mk 0 none (Obj.arr 9 false [])), (1, En.mk 0 none (Obj.arr 9 false (List.map D.str o)))]) else bif decide ((0 : Int) ≤ i ∧ i ≤ (↑(List.length s) : Int)) then bif decide ((0 : Int) ≤ f ∧ f ≤ (↑(Int.toNat i) : Int)) then bif Nat.ble m (List.length (List.map D.str o)) && roomOk (m + List.length [D.str (List.drop (Int.toNat f) (List.take (Int.toNat i) s))]) 16 then bif decide ((-9223372036854775808 : Int) ≤ i + (1 : Int) ∧ i + (1 : Int) ≤ (9223372036854775807 : Int)) then bif decide ((-9223372036854775808 : Int) ≤ i + (1 : Int) ∧ i + (1 : Int) ≤ (9223372036854775807 : Int)) then post (PX.normal, S.mk 51 [(0, P.d (D.str s)), (4, P.sl 0 0 (m + List.length [D.str (List.drop (Int.toNat f) (List.take (Int.toNat i) s))])), (5, P.d (D.int IntKind.i64 (i + (1 : Int)))), (6, P.d (D.int IntKind.i64 (i + (1 : Int))))] [(0, En.mk 0 none (Obj.arr 9 false (List.take m (List.map D.str o) ++ [D.str (List.drop (Int.toNat f) (List.take (Int.toNat i) s))])))]) else False else False else False else False else False else False else False else bif decide ((0 : Int) ≤ i ∧ i < (↑(List.length s) : Int)) then bif (↑(UInt8.toNat (List.getD s (Int.toNat i) (0 : UInt8))) : Int) == (47 : Int) then bif decide ((0 : Int) ≤ i ∧ i ≤ (↑(List.length s) : Int)) then bif decide ((0 : Int) ≤ f ∧ f ≤ (↑(Int.toNat i) : Int)) then ∃ (s_1 : List UInt8), [P.d (D.str (List.drop (Int.toNat f) (List.take (Int.toNat i) s)))] = [P.d (D.str s_1)] ∧ EqR [] [] ∧ List.length s_1 ≤ 2000000 ∧ bif !seenOk s_1 then post (PX.ret, S.mk 51 [(2, P.sl 0 0 0), (3, P.d (D.int IntKind.i64 (70 : Int))), (4, P.sl 1 0 m)] [(0, En.mk 0 none (Obj.arr 9 false [])), (1, En.mk 0 none (Obj.arr 9 false (List.map D.str o)))]) else bif decide ((0 : Int) ≤ i ∧ i ≤ (↑(List.length s) : Int)) then bif decide ((0 : Int) ≤ f ∧ f ≤ (↑(Int.toNat i) : Int)) then bif Nat.ble m (List.length (List.map D.str o)) && roomOk (m + List.length [D.str (List.drop (Int.toNat f) (List.take (Int.toNat i) s))]) 16 then bif decide ((-9223372036854775808 : Int) ≤ i + (1 : Int) ∧ i + (1 : Int) ≤ (9223372036854775807 : Int)) then bif decide ((-9223372036854775808 : Int) ≤ i + (1 : Int) ∧ i + (1 : Int) ≤ (9223372036854775807 : Int)) then post (PX.normal, S.mk 51 [(0, P.d (D.str s)), (4, P.sl 0 0 (m + List.length [D.str (List.drop (Int.toNat f) (List.take (Int.toNat i) s))])), (5, P.d (D.int IntKind.i64 (i + (1 : Int)))), (6, P.d (D.int IntKind.i64 (i + (1 : Int))))] [(0, En.mk 0 none (Obj.arr 9 false (List.take m (List.map D.str o) ++ [D.str (List.drop (Int.toNat f) (List.take (Int.toNat i) s))])))]) else False else False else False else False else False else False else False else bif decide ((-9223372036854775808 : Int) ≤ i + (1 : Int) ∧ i + (1 : Int) ≤ (9223372036854775807 : Int)) then post (PX.normal, S.mk 51 [(0, P.d (D.str s)), (4, P.sl 0 0 m), (5, P.d (D.int IntKind.i64 f)), (6, P.d (D.int IntKind.i64 (i + (1 : Int))))] [(0, En.mk 0 none (Obj.arr 9 false (List.map D.str o)))]) else False else False else post (PX.exit 0, S.mk 51 [(4, P.sl 0 0 m)] [(0, En.mk 0 none (Obj.arr 9 false (List.map D.str o)))])) = (roundL [(42, hSeen)] [] 23 8 (srH s o m f i)) post := by kernel_rfl
theorem vcSeen (s : List UInt8) (post : P × List (Nat × En) → Prop) : (∃ (s_1 : List UInt8), ∃ (c : List UInt8), [P.d (D.str s), P.d (D.str [(126 : UInt8)])] = [P.d (D.str s_1), P.d (D.str c)] ∧ EqR [] [] ∧ List.length s_1 < 4294967281 ∧ bif Prod.snd (Prod.snd (Lib.cut s_1 c)) then ∃ (s : List UInt8), [P.d (D.str (Prod.fst (Prod.snd (Lib.cut s_1 c))))] = [P.d (D.str s)] ∧ EqR [] [] ∧ SplitOk s ∧ (parse3 s = none → post (P.d (D.bool false), [])) ∧ ∀ (t r i : Int), parse3 s = some (t, r, i) → ∃ (s : List UInt8), [P.d (D.str (Prod.fst (Lib.cut s_1 c)))] = [P.d (D.str s)] ∧ EqR [] [] ∧ post (P.d (D.bool (nameOk s)), []) else ∃ (s : List UInt8), [P.d (D.str (Prod.fst (Lib.cut s_1 c)))] = [P.d (D.str s)] ∧ EqR [] [] ∧ post (P.d (D.bool (nameOk s)), [])) = (bodyF [(48, hCut), (49, hParse), (50, hName)] [] 37 [sD s] []) post := by kernel_rfl
end Pi

/- Pathname: the loops and small functions. -/
namespace Pi
open Go Go.Proofs
set_option maxRecDepth 100000
section
variable {X : XF}
theorem okTrim : FD X 64 hTrim := FD.ofX Tryz.func64 (by kernel_rfl) (by kernel_rfl) (by
  intro ps R post hh
  obtain ⟨s, c, rfl, rfl, hc, hp⟩ := hh
  refine ⟨_, ?_, hp⟩
  show xTrim [.d (.str s), .d (.str c)] [] = _
  exact if_pos hc)
theorem okCut : FD X 48 hCut := FD.ofX Tryz.func48 (by kernel_rfl) (by kernel_rfl) (by
  intro ps R post hh
  obtain ⟨s, c, rfl, rfl, hc, hp⟩ := hh
  refine ⟨_, ?_, hp⟩
  show xCut [.d (.str s), .d (.str c)] [] = _
  exact if_pos hc)
theorem okCutP : FD X 35 hCutP := FD.ofX Tryz.func35 (by kernel_rfl) (by kernel_rfl) (by
  intro ps R post hh
  obtain ⟨s, c, rfl, rfl, hp⟩ := hh
  exact ⟨_, rfl, hp⟩)
theorem strsOf_map : ∀ l : List (List UInt8), strsOf (l.map D.str) = some l
  | [] => rfl
  | x :: l => by simp [strsOf, strsOf_map l]
theorem okName : FD X 50 hName := FD.mk (H := [(64, hTrim)]) (hk := []) (by kernel_rfl) (.cons okTrim .nil) .nil (by
  intro ps R post hh
  obtain ⟨s, rfl, rfl, hp⟩ := hh
  rw [← vcName]
  refine condI (fun h1 => condP (fun h2 => condI (fun h3 => condI (fun h4 => ⟨s, signsL, rfl, rfl, ⟨by omega, by decide, by decide⟩, ?_⟩) fun h4 => ?_) fun h3 => ?_) fun h2 => ?_) fun h1 => ?_
  · refine leafB hp ?_
    rw [Bool.eq_iff_iff, nameOk, beq_iff_eq, trim_nil]
    simp only [signs_name, decide_eq_true_eq]
    constructor
    · intro h; exact h.2.2.2.2
    · intro h; exact ⟨by simpa using h1, by omega, by simpa using h3, by simpa using h4, h⟩
  · exact leafB hp (decF fun h => by simp at h4; exact h.2.2.2.1 h4)
  · exact leafB hp (decF fun h => by simp at h3; exact h.2.2.1 h3)
  · exact leafB hp (decF fun h => by omega)
  · exact leafB hp (decF fun h => by simp at h1; exact h.1 h1))
/-- A byte, and whether it may stand in a name. -/
theorem nameB_iff (b : UInt8) : nameB b = true ↔ ((48 ≤ (b.toNat : Int) ∧ (b.toNat : Int) ≤ 57) ∨ (65 ≤ (b.toNat : Int) ∧ (b.toNat : Int) ≤ 90) ∨ (97 ≤ (b.toNat : Int) ∧ (b.toNat : Int) ≤ 122) ∨ (b.toNat : Int) = 46 ∨ (b.toNat : Int) = 45 ∨ (b.toNat : Int) = 95) := by
  unfold nameB
  simp only [decide_eq_true_eq]
  omega
theorem allBytes (p : UInt8 → Bool) (s : List UInt8) : (∀ b ∈ s, p b = true) ↔ ∀ i : Nat, i < s.length → p (s.getD i 0) = true := by
  constructor
  · intro h i hi
    have := h s[i] (List.getElem_mem hi)
    simpa [List.getD_eq_getElem?_getD, hi] using this
  · intro h x hx
    obtain ⟨i, hi, rfl⟩ := List.getElem_of_mem hx
    have := h i hi
    simpa [List.getD_eq_getElem?_getD, hi] using this
def gNm : S → K (PX × S) := fun s post => ∃ l, s = nmH l 0 ∧ l.length ≤ 32 ∧ (¬ (∀ b ∈ l, nameB b = true) → post (.ret, ⟨64, [(2, bD' false)], []⟩)) ∧ ((∀ b ∈ l, nameB b = true) → post (.exit 0, ⟨64, [], []⟩))
theorem loopNm : LD X 54 4 (loopHook (kpF 54 4) gNm) := LD.par (H := []) (hk := []) (by kernel_rfl) (by kernel_rfl) .nil .nil
  (A := List UInt8) (B := Int) (fun a k => nmH a k)
  (fun a k => a.length ≤ 32 ∧ 0 ≤ k ∧ k ≤ a.length ∧ ∀ i : Nat, (i : Int) < k → nameB (a.getD i 0) = true)
  (fun a k => (a.length - k).toNat)
  (fun a x => ((¬ ∀ b ∈ a, nameB b = true) ∧ x = (.ret, ⟨64, [(2, bD' false)], []⟩)) ∨ ((∀ b ∈ a, nameB b = true) ∧ x = (.exit 0, ⟨64, [], []⟩)))
  (by
    rintro l k ⟨hs, h0, h1, he⟩
    rw [← vcNmN]
    have hb := nameB_iff (l.getD k.toNat 0)
    have hno : ¬ nameB (l.getD k.toNat 0) = true → k < l.length → ¬ ∀ b ∈ l, nameB b = true := fun h hk hh => h ((allBytes _ l).1 hh k.toNat (by omega))
    have hyes : nameB (l.getD k.toNat 0) = true → k < l.length → roundPost (l.length - k).toNat (fun m s => ∃ b', s = nmH l b' ∧ (l.length ≤ 32 ∧ 0 ≤ b' ∧ b' ≤ (l.length : Int) ∧ ∀ i : Nat, (i : Int) < b' → nameB (l.getD i 0) = true) ∧ m = (l.length - b').toNat) (fun x => ((¬ ∀ b ∈ l, nameB b = true) ∧ x = (.ret, ⟨64, [(2, bD' false)], []⟩)) ∨ ((∀ b ∈ l, nameB b = true) ∧ x = (.exit 0, ⟨64, [], []⟩))) (PX.normal, nmH l (k + 1)) := fun h hk =>
      ⟨_, by omega, k + 1, rfl, ⟨hs, by omega, by omega, fun i hi => by
          by_cases e : (i : Int) = k
          · have : i = k.toNat := by omega
            rw [this]; exact h
          · exact he i (by omega)⟩, rfl⟩
    generalize (((l.getD k.toNat 0).toNat : Nat) : Int) = b at *
    refine condP (fun h => oblP (by omega) ?_) fun h => .inr ⟨(allBytes _ l).2 fun i hi => he i (by omega), rfl⟩
    repeat' (first | refine condP (fun _ => ?_) (fun _ => ?_) | refine condE (fun _ => ?_) (fun _ => ?_) | refine condN (fun _ => ?_) (fun _ => ?_))
    all_goals first
      | exact absurd (incI (k := k) (by omega) (by omega)) (by simp; omega)
      | exact hyes (hb.2 (by omega)) h
      | exact .inl ⟨hno (fun hh => by have := hb.1 hh; omega) h, rfl⟩)
  (by
    rintro s post ⟨l, rfl, h1, h2, h3⟩
    refine ⟨l, 0, rfl, ⟨h1, by omega, by omega, fun i hi => by omega⟩, ?_⟩
    rintro x (⟨h, rfl⟩ | ⟨h, rfl⟩)
    · exact h2 h
    · exact h3 h)
end
end Pi

/- Pathname: more loops. -/
namespace Pi
open Go Go.Proofs
set_option maxRecDepth 100000
section
variable {X : XF}
theorem isDs (x : List UInt8) : isD PR 9 (.str x) = true := by kernel_rfl
theorem tx_nth {l : List (List UInt8)} {i : Nat} (h : i < l.length) : D.nth (l.map D.str) i = .str (l.getD i []) := by
  simp [D.nth, h]
def gSe : S → K (PX × S) := fun s post => ∃ l, s = seH l 0 ∧ l.length ≤ 2000000 ∧ (126 ∈ l → post (.ret, ⟨33, [(0, sD l), (2, bD' (seenOk l))], []⟩)) ∧ (126 ∉ l → post (.exit 0, ⟨33, [(0, sD l)], []⟩))
theorem loopSe (hN : FD X 54 hName) : LD X 42 2 (loopHook (kpF 42 2) gSe) := LD.par (H := [(53, hParseR), (54, hName)]) (hk := []) (by kernel_rfl) (by kernel_rfl) (.cons okParseR (.cons hN .nil)) .nil
  (A := List UInt8) (B := Int) (fun a k => seH a k)
  (fun a k => a.length ≤ 2000000 ∧ 0 ≤ k ∧ k ≤ (pre 126 a).length)
  (fun a k => ((pre 126 a).length - k).toNat)
  (fun a x => (126 ∈ a ∧ x = (.ret, ⟨33, [(0, sD a), (2, bD' (seenOk a))], []⟩)) ∨ (126 ∉ a ∧ x = (.exit 0, ⟨33, [(0, sD a)], []⟩)))
  (by
    rintro l k ⟨hs, h0, h1⟩
    rw [← vcSeN]
    have hle := pre_le 126 l
    have hb : ∀ b : UInt8, ((b.toNat : Nat) : Int) = 126 ↔ b = 126 := fun b => ⟨fun e => UInt8.toNat_inj.1 (by simp; omega), fun e => by subst e; rfl⟩
    refine condP (fun h => oblP ⟨h0, h⟩ (condE (fun h' => ?_) fun h' => ?_)) fun h => ?_
    · rw [hb] at h'
      have hk : k = (pre 126 l).length := by
        refine Classical.byContradiction fun hc => ?_
        exact pre_in (c := 126) (s := l) (i := k.toNat) (by omega) h'
      have hm : 126 ∈ l := by
        have : l.getD k.toNat 0 = l[k.toNat]'(by omega) := by simp [List.getD_eq_getElem?_getD, show k.toNat < l.length by omega]
        rw [this] at h'
        rw [← h']
        exact List.getElem_mem _
      have e1 : (k + 1).toNat = (pre 126 l).length + 1 := by omega
      have e2 : k.toNat = (pre 126 l).length := by omega
      refine oblI (incI (by omega) (by omega)) (oblP (by omega) ⟨_, rfl, rfl, by simp; omega, fun hno => ?_, fun t r i hyes => oblP (by omega) ⟨_, rfl, rfl, ?_⟩⟩)
      · rw [e1, List.take_length] at hno
        refine .inl ⟨hm, ?_⟩
        have : seenOk l = false := by simp [seenOk, hm, hno]
        rw [this]
      · rw [e1, List.take_length] at hyes
        refine .inl ⟨hm, ?_⟩
        have : seenOk l = nameOk (pre 126 l) := by simp [seenOk, hyes]
        rw [this, e2, List.drop_zero, pre_take]
    · rw [ne_eq, hb] at h'
      have hlt : k < (pre 126 l).length := by
        refine Classical.byContradiction fun hc => h' ?_
        have e2 : k.toNat = (pre 126 l).length := by omega
        rw [e2]
        exact pre_stop (by omega)
      exact oblI (incI (by omega) (by omega)) ⟨_, by omega, k + 1, rfl, ⟨hs, by omega, by omega⟩, rfl⟩
    · exact .inr ⟨pre_full.1 (by omega), rfl⟩)
  (by
    rintro s post ⟨l, rfl, h1, h2, h3⟩
    refine ⟨l, 0, rfl, ⟨h1, by omega, by omega⟩, ?_⟩
    rintro x (⟨h, rfl⟩ | ⟨h, rfl⟩)
    · exact h2 h
    · exact h3 h)
theorem okSeen : FD X 37 hSeen := FD.mk (H := [(48, hCut), (49, hParse), (50, hName)]) (hk := []) (by kernel_rfl) (.cons okCut (.cons okParse (.cons okName .nil))) .nil (by
  intro ps R post hh
  obtain ⟨s, rfl, rfl, hs, hp⟩ := hh
  rw [← vcSeen]
  refine ⟨s, [126], rfl, rfl, by omega, ?_⟩
  by_cases hm : (126 : UInt8) ∈ s
  · rw [cut_yes hm]
    refine condT rfl ⟨_, rfl, rfl, splitOk (by simp; omega), fun hno => ?_, fun t r i hyes => ⟨_, rfl, rfl, ?_⟩⟩
    · exact leafB hp (by simp [seenOk, hm, hno])
    · exact leafB hp (by simp [seenOk, hyes])
  · rw [cut_no hm]
    exact condF rfl ⟨_, rfl, rfl, leafB hp (by simp [seenOk, hm, pre_all hm])⟩)
def AllSeen (l : List (List UInt8)) : Prop := ∀ x ∈ l, seenOk x = true
theorem allSeen_nat (l : List (List UInt8)) : AllSeen l ↔ ∀ i : Nat, i < l.length → seenOk (l.getD i []) = true := by
  constructor
  · intro h i hi
    have := h l[i] (List.getElem_mem hi)
    simpa [List.getD_eq_getElem?_getD, hi] using this
  · intro h x hx
    obtain ⟨i, hi, rfl⟩ := List.getElem_of_mem hx
    have := h i hi
    simpa [List.getD_eq_getElem?_getD, hi] using this
def gSp : S → K (PX × S) := fun s post => ∃ l m m' n, s = spH l m m' n 0 ∧ (m' = l.length ∧ n = l.length ∧ l.length ≤ 2000001 ∧ ∀ x ∈ l, x.length ≤ 2000000) ∧
  (¬ AllSeen l → post (.ret, ⟨36, [(2, .sl 0 0 0), (3, iD 70), (6, .sl 1 0 m)], [(0, ⟨0, none, .arr 9 false []⟩), (1, ⟨0, none, .arr 9 false (l.map D.str)⟩)]⟩)) ∧
  (AllSeen l → post (.exit 1, ⟨36, [(6, .sl 0 0 m)], [(0, ⟨0, none, .arr 9 false (l.map D.str)⟩)]⟩))
theorem loopSp : LD X 20 8 (loopHook (kpF 20 8) gSp) := LD.par (H := [(37, hSeen)]) (hk := []) (by kernel_rfl) (by kernel_rfl) (.cons okSeen .nil) .nil
  (A := List (List UInt8) × Nat × Nat × Int) (B := Int) (fun a k => spH a.1 a.2.1 a.2.2.1 a.2.2.2 k)
  (fun a k => (a.2.2.1 = a.1.length ∧ a.2.2.2 = a.1.length ∧ a.1.length ≤ 2000001 ∧ ∀ x ∈ a.1, x.length ≤ 2000000) ∧ 0 ≤ k ∧ k ≤ a.1.length ∧ ∀ i : Nat, (i : Int) < k → seenOk (a.1.getD i []) = true)
  (fun a k => (a.1.length - k).toNat)
  (fun a x => (¬ AllSeen a.1 ∧ x = (.ret, ⟨36, [(2, .sl 0 0 0), (3, iD 70), (6, .sl 1 0 a.2.1)], [(0, ⟨0, none, .arr 9 false []⟩), (1, ⟨0, none, .arr 9 false (a.1.map D.str)⟩)]⟩)) ∨ (AllSeen a.1 ∧ x = (.exit 1, ⟨36, [(6, .sl 0 0 a.2.1)], [(0, ⟨0, none, .arr 9 false (a.1.map D.str)⟩)]⟩)))
  (by
    rintro ⟨l, m, m', n⟩ k ⟨⟨hm, hn, hl, hx⟩, h0, h1, he⟩
    dsimp only at *
    subst hm hn
    rw [← vcSpN]
    simp only [List.length_map]
    refine condP (fun h => ?_) fun h => .inr ⟨(allSeen_nat l).2 fun i hi => he i (by omega), rfl⟩
    have hk : k.toNat < l.length := by omega
    rw [tx_nth hk]
    have hlen : (l.getD k.toNat []).length ≤ 2000000 := by
      have := hx l[k.toNat] (List.getElem_mem hk)
      simpa [List.getD_eq_getElem?_getD, hk] using this
    refine oblP ⟨h0, h⟩ (oblP hk (oblI (isDs _) ⟨_, rfl, rfl, hlen, condI (fun h' => .inl ⟨fun hh => ?_, rfl⟩) fun h' => oblI (incI (by omega) (by omega)) ⟨_, by omega, k + 1, rfl, ⟨⟨by simp, by simp, hl, hx⟩, by omega, by first | omega | (dsimp only; omega), fun i hi => ?_⟩, rfl⟩⟩))
    · have := (allSeen_nat l).1 hh k.toNat hk
      rw [show (l.getD k.toNat [] : List UInt8) = (D.str (l.getD k.toNat [])).sVal from rfl] at this
      rw [this] at h'
      cases h'
    · by_cases e : (i : Int) = k
      · have : i = k.toNat := by omega
        rw [this]
        have h'' : (!seenOk (l.getD k.toNat [])) = false := h'
        simpa using h''
      · exact he i (by omega))
  (by
    rintro s post ⟨l, m, m', n, rfl, h1, h2, h3⟩
    refine ⟨(l, m, m', n), 0, rfl, ⟨h1, by omega, by first | omega | (dsimp only; omega), fun i hi => by omega⟩, ?_⟩
    rintro x (⟨h, rfl⟩ | ⟨h, rfl⟩)
    · exact h2 h
    · exact h3 h)
theorem tx_push {o : List (List UInt8)} {m : Nat} (h : m = o.length) (x : List UInt8) : List.take m (o.map D.str) ++ [D.str x] = (o ++ [x]).map D.str := by
  subst h
  rw [List.take_of_length_le (by simp)]
  simp
theorem room16 {m : Nat} (h : m ≤ 3000000) (x : D) : roomOk (m + List.length [x]) 16 = true := roomOk_small (by simp; omega) (by simp; omega)
def gSr : S → K (PX × S) := fun s post => ∃ l es, s = ⟨51, [(0, sD l), (4, .sl 0 0 0), (5, iD 1), (6, iD 1)], [(0, ⟨0, none, .arr 9 false es⟩)]⟩ ∧ (es = [] ∧ 1 ≤ l.length ∧ l.length ≤ 2000000) ∧
  (∀ (m : Nat) (o : List (List UInt8)), ¬ AllSeen (splitBy 47 (l.drop 1)) → post (.ret, ⟨51, [(2, .sl 0 0 0), (3, iD 70), (4, .sl 1 0 m)], [(0, ⟨0, none, .arr 9 false []⟩), (1, ⟨0, none, .arr 9 false (o.map D.str)⟩)]⟩)) ∧
  (∀ m, m = (splitBy 47 (l.drop 1)).length → AllSeen (splitBy 47 (l.drop 1)) → post (.exit 0, ⟨51, [(4, .sl 0 0 m)], [(0, ⟨0, none, .arr 9 false ((splitBy 47 (l.drop 1)).map D.str)⟩)]⟩))
/-- Where the document's walk through a path stands. -/
def SrInv (l : List UInt8) (o : List (List UInt8)) (f i : Int) : Prop :=
  AllSeen o ∧ o.length ≤ i ∧ ((1 ≤ f ∧ f ≤ i ∧ i ≤ l.length ∧ (∀ j : Nat, f ≤ j → (j : Int) < i → l.getD j 0 ≠ 47) ∧ o ++ splitBy 47 (l.drop f.toNat) = splitBy 47 (l.drop 1)) ∨ (i = l.length + 1 ∧ o = splitBy 47 (l.drop 1)))
theorem piece_no {l : List UInt8} {f i : Int} (h0 : 0 ≤ f) (h1 : f ≤ i) (hi : i ≤ l.length) (h : ∀ j : Nat, f ≤ j → (j : Int) < i → l.getD j 0 ≠ 47) : (47 : UInt8) ∉ (l.take i.toNat).drop f.toNat := by
  intro hm
  obtain ⟨j, hj, e⟩ := List.getElem_of_mem hm
  simp at hj
  have := h (f.toNat + j) (by omega) (by omega)
  refine this ?_
  rw [List.getElem_drop, List.getElem_take] at e
  simp [List.getD_eq_getElem?_getD, show f.toNat + j < l.length by omega, e]
theorem drop_cut {l : List UInt8} {f i : Int} (h0 : 0 ≤ f) (h1 : f ≤ i) (hi : i < l.length) : l.drop f.toNat = (l.take i.toNat).drop f.toNat ++ l.getD i.toNat 0 :: l.drop (i + 1).toNat := by
  have e : (i + 1).toNat = i.toNat + 1 := by omega
  have h2 : l.drop i.toNat = l.getD i.toNat 0 :: l.drop (i.toNat + 1) := by
    rw [List.drop_eq_getElem_cons (by omega)]
    simp [List.getD_eq_getElem?_getD, show i.toNat < l.length by omega]
  rw [e, ← h2]
  conv => lhs; rw [← List.take_append_drop i.toNat l]
  rw [List.drop_append, show f.toNat - (l.take i.toNat).length = 0 by simp; omega, List.drop_zero]
theorem loopSr (hS : FD X 42 hSeen) : LD X 23 8 (loopHook (kpF 23 8) gSr) := LD.par (H := [(42, hSeen)]) (hk := []) (by kernel_rfl) (by kernel_rfl) (.cons hS .nil) .nil
  (A := List UInt8) (B := List (List UInt8) × Nat × Int × Int) (fun a b => srH a b.1 b.2.1 b.2.2.1 b.2.2.2)
  (fun a b => (1 ≤ a.length ∧ a.length ≤ 2000000) ∧ b.2.1 = b.1.length ∧ 1 ≤ b.2.2.2 ∧ SrInv a b.1 b.2.2.1 b.2.2.2)
  (fun a b => (a.length + 1 - b.2.2.2).toNat)
  (fun a x => (∃ (m : Nat) (o : List (List UInt8)), ¬ AllSeen (splitBy 47 (a.drop 1)) ∧ x = (.ret, ⟨51, [(2, .sl 0 0 0), (3, iD 70), (4, .sl 1 0 m)], [(0, ⟨0, none, .arr 9 false []⟩), (1, ⟨0, none, .arr 9 false (o.map D.str)⟩)]⟩)) ∨
    (∃ m, m = (splitBy 47 (a.drop 1)).length ∧ AllSeen (splitBy 47 (a.drop 1)) ∧ x = (.exit 0, ⟨51, [(4, .sl 0 0 m)], [(0, ⟨0, none, .arr 9 false ((splitBy 47 (a.drop 1)).map D.str)⟩)]⟩)))
  (by
    rintro l ⟨o, m, f, i⟩ ⟨⟨hl0, hl⟩, hm, hi1, hseen, hol, hinv⟩
    dsimp only at *
    rw [← vcSrN]
    simp only [List.length_map]
    refine condP (fun h => ?_) fun h => ?_
    · have hinv' : 1 ≤ f ∧ f ≤ i ∧ i ≤ l.length ∧ (∀ j : Nat, f ≤ j → (j : Int) < i → l.getD j 0 ≠ 47) ∧ o ++ splitBy 47 (l.drop f.toNat) = splitBy 47 (l.drop 1) := by
        rcases hinv with hh | ⟨hc, _⟩
        · exact hh
        · omega
      obtain ⟨hf1, hfi, hil, hno, hsp⟩ := hinv'
      have hpl : (List.drop f.toNat (List.take i.toNat l)).length ≤ 2000000 := by simp; omega
      have hpn := piece_no (l := l) (by omega) hfi hil hno
      have hroom : ∀ x : D, (Nat.ble m o.length && roomOk (m + List.length [x]) 16) = true := fun x => by rw [room16 (by omega)]; simp; omega
      refine condE (fun h' => ?_) fun h' => ?_
      · -- the end
        have hd : l.drop f.toNat = (l.take i.toNat).drop f.toNat := by rw [show i.toNat = l.length by omega, List.take_length]
        have hlast : splitBy 47 (l.drop 1) = o ++ [(l.take i.toNat).drop f.toNat] := by rw [← hsp, hd, splitBy_no _ _ hpn]
        refine oblP (by omega) (oblP (by omega) ⟨_, rfl, rfl, hpl, condI (fun h2 => .inl ⟨m, o, fun hh => ?_, rfl⟩) fun h2 => oblP (by omega) (oblP (by omega) (oblI (hroom _) (oblI (incI (by omega) (by omega)) (oblI (incI (by omega) (by omega)) ?_))))⟩)
        · have := hh ((l.take i.toNat).drop f.toNat) (by rw [hlast]; simp)
          rw [this] at h2
          cases h2
        · rw [tx_push hm]
          refine ⟨_, ?_, (o ++ [(l.take i.toNat).drop f.toNat], m + 1, i + 1, i + 1), rfl, ⟨⟨hl0, hl⟩, by simp [hm], by first | omega | (dsimp only; omega), ?_⟩, rfl⟩
          · dsimp only; omega
          · refine ⟨fun x hx => ?_, by simp; omega, .inr ⟨by first | omega | (dsimp only; omega), hlast.symm⟩⟩
            rcases List.mem_append.1 hx with hx | hx
            · exact hseen x hx
            · simp at hx; subst hx; simpa using h2
      · have hlt : i < l.length := by omega
        refine oblP (by omega) (condE (fun h3 => ?_) fun h3 => ?_)
        · have hb : l.getD i.toNat 0 = 47 := UInt8.toNat_inj.1 (by rw [show (47 : UInt8).toNat = 47 from rfl]; omega)
          have hd := drop_cut (l := l) (f := f) (i := i) (by omega) hfi hlt
          rw [hb] at hd
          have hnext : splitBy 47 (l.drop 1) = (o ++ [(l.take i.toNat).drop f.toNat]) ++ splitBy 47 (l.drop (i + 1).toNat) := by rw [← hsp, hd, splitBy_app _ _ _ hpn]; simp
          refine oblP (by omega) (oblP (by omega) ⟨_, rfl, rfl, hpl, condI (fun h2 => .inl ⟨m, o, fun hh => ?_, rfl⟩) fun h2 => oblP (by omega) (oblP (by omega) (oblI (hroom _) (oblI (incI (by omega) (by omega)) (oblI (incI (by omega) (by omega)) ?_))))⟩)
          · have := hh ((l.take i.toNat).drop f.toNat) (by rw [hnext]; simp)
            rw [this] at h2
            cases h2
          · rw [tx_push hm]
            refine ⟨_, ?_, (o ++ [(l.take i.toNat).drop f.toNat], m + 1, i + 1, i + 1), rfl, ⟨⟨hl0, hl⟩, by simp [hm], by first | omega | (dsimp only; omega), ?_⟩, rfl⟩
            · dsimp only; omega
            · refine ⟨fun x hx => ?_, by simp; omega, .inl ⟨by first | omega | (dsimp only; omega), by first | omega | (dsimp only; omega), by first | omega | (dsimp only; omega), fun j hj hj' => by dsimp only at hj hj'; omega, hnext.symm⟩⟩
              rcases List.mem_append.1 hx with hx | hx
              · exact hseen x hx
              · simp at hx; subst hx; simpa using h2
        · refine oblI (incI (by omega) (by omega)) ⟨_, ?_, (o, m, f, i + 1), rfl, ⟨⟨hl0, hl⟩, hm, by first | omega | (dsimp only; omega), hseen, by first | omega | (dsimp only; omega), .inl ⟨hf1, by first | omega | (dsimp only; omega), by first | omega | (dsimp only; omega), fun j hj hj' => ?_, hsp⟩⟩, rfl⟩
          · dsimp only; omega
          · dsimp only at hj hj'
            by_cases e : (j : Int) = i
            · have : j = i.toNat := by omega
              rw [this]
              intro e2
              rw [e2] at h3
              exact h3 rfl
            · exact hno j hj (by omega)
    · rcases hinv with ⟨hf1, hfi, hil, hno, hsp⟩ | ⟨hc, ho⟩
      · omega
      · subst ho
        exact .inr ⟨m, hm, hseen, rfl⟩)
  (by
    rintro s post ⟨l, es, rfl, ⟨rfl, h0, h1⟩, h2, h3⟩
    refine ⟨l, ([], 0, 1, 1), rfl, ⟨⟨h0, h1⟩, rfl, by simp, fun x hx => (by cases hx), by simp, .inl ⟨by simp, by simp, by simp; omega, fun j hj hj' => by dsimp only at hj hj'; omega, by simp⟩⟩, ?_⟩
    rintro x (⟨m, o, h, rfl⟩ | ⟨m, h, h', rfl⟩)
    · exact h2 m o h
    · exact h3 m h h')
end
end Pi

/- Pathname: the functions: what their runs ask. -/
namespace Pi
open Go Go.Proofs
set_option maxRecDepth 100000
set_option maxHeartbeats 0
def joinR (l : List (List UInt8)) : List UInt8 := l.flatMap fun x => 47 :: x
def sumL (l : List (List UInt8)) : Nat := (joinR l).length
def gJn : S → K (PX × S) := fun s post => ∃ l, s = jnH l [] 0 ∧ sumL l ≤ 2000000 ∧ post (.exit 0, ⟨21, [(3, sD (joinR l))], []⟩)
def gSt : S → K (PX × S) := fun s post => ∃ v w, s = stH v w 0 ∧ (v.length = w.length ∧ v.length ≤ 3000000) ∧ (v ≠ w → post (.ret, ⟨26, [(4, bD' false)], []⟩)) ∧ (v = w → post (.exit 0, ⟨26, [], []⟩))
def hSameT : KF1 := fun ps R post => ∃ v w, ps = [tD v, tD w] ∧ R = [] ∧ v.length ≤ 3000000 ∧ post (bD' (decide (v = w)), [])
def hJoinP : KF1 := fun ps R post => ∃ l, ps = [tD l] ∧ R = [] ∧ sumL l ≤ 2000000 ∧ post (sD (joinP l), [])
theorem vcNameR (s : List UInt8) (post : P × List (Nat × En) → Prop) : (bif s == [] then post (P.d (D.bool false), []) else bif decide ((↑(List.length s) : Int) > (32 : Int)) then post (P.d (D.bool false), []) else bif s == [(46 : UInt8)] then post (P.d (D.bool false), []) else bif s == [(46 : UInt8), (46 : UInt8)] then post (P.d (D.bool false), []) else ∃ (l : List UInt8), S.mk 64 [(0, P.d (D.str s)), (3, P.d (D.int IntKind.i64 (0 : Int)))] [] = S.mk 64 [(0, P.d (D.str l)), (3, P.d (D.int IntKind.i64 (0 : Int)))] [] ∧ List.length l ≤ 32 ∧ ((¬∀ (b : UInt8), b ∈ l → nameB b = true) → post (P.d (D.bool false), [])) ∧ ((∀ (b : UInt8), b ∈ l → nameB b = true) → post (P.d (D.bool true), []))) = (bodyF [] [(4, loopHook (kpF 54 4) gNm)] 54 [sD s] []) post := by kernel_rfl
theorem vcSeenR (s : List UInt8) (post : P × List (Nat × En) → Prop) : (∃ (l : List UInt8), S.mk 33 [(0, P.d (D.str s)), (3, P.d (D.int IntKind.i64 (0 : Int)))] [] = S.mk 33 [(0, P.d (D.str l)), (3, P.d (D.int IntKind.i64 (0 : Int)))] [] ∧ List.length l ≤ 2000000 ∧ ((126 : UInt8) ∈ l → post (P.d (D.bool (seenOk l)), [])) ∧ (¬(126 : UInt8) ∈ l → ∃ (s : List UInt8), [P.d (D.str l)] = [P.d (D.str s)] ∧ EqR [] [] ∧ post (P.d (D.bool (nameOk s)), []))) = (bodyF [(54, hName)] [(2, loopHook (kpF 42 2) gSe)] 42 [sD s] []) post := by kernel_rfl
theorem vcSplitP (s : List UInt8) (post : P × List (Nat × En) → Prop) : (∃ (s_1 : List UInt8), ∃ (c : List UInt8), [P.d (D.str s), P.d (D.str [(47 : UInt8)])] = [P.d (D.str s_1), P.d (D.str c)] ∧ EqR [] [] ∧ bif !Lib.hasPrefix s_1 c then post (P.tup [P.sl 0 0 0, P.d (D.int IntKind.i64 (71 : Int))], [(0, En.mk 0 none (Obj.arr 9 false []))]) else bif Lib.trimPrefix s_1 c == [] then post (P.tup [P.sl 0 0 0, P.d (D.int IntKind.i64 (0 : Int))], [(0, En.mk 0 none (Obj.arr 9 false []))]) else ∃ (s : List UInt8), ∃ (sep : List UInt8), [P.d (D.str (Lib.trimPrefix s_1 c)), P.d (D.str [(47 : UInt8)])] = [P.d (D.str s), P.d (D.str sep)] ∧ EqR [] [] ∧ (List.length s < 4294967281 ∧ 1 ≤ List.length sep ∧ List.length (Lib.split s sep) = Lib.count s sep + 1 ∧ Lib.count s sep ≤ 4294967281) ∧ ∀ (l : List (List UInt8)), Lib.split s sep = l → ∃ (l_1 : List (List UInt8)), ∃ (m : Nat), ∃ (m' : Nat), ∃ (n : Int), S.mk 36 [(6, P.sl 0 0 (List.length l)), (22, P.sl 0 0 (List.length l)), (23, P.d (D.int IntKind.i64 (↑(List.length l) : Int))), (24, P.d (D.int IntKind.i64 (0 : Int)))] [(0, En.mk 0 none (Obj.arr 9 false (List.map D.str l)))] = S.mk 36 [(6, P.sl 0 0 m), (22, P.sl 0 0 m'), (23, P.d (D.int IntKind.i64 n)), (24, P.d (D.int IntKind.i64 (0 : Int)))] [(0, En.mk 0 none (Obj.arr 9 false (List.map D.str l_1)))] ∧ (m' = List.length l_1 ∧ n = (↑(List.length l_1) : Int) ∧ List.length l_1 ≤ 2000001 ∧ ∀ (x : List UInt8), x ∈ l_1 → List.length x ≤ 2000000) ∧ (¬AllSeen l_1 → post (P.tup [P.sl 0 0 0, P.d (D.int IntKind.i64 (70 : Int))], [(0, En.mk 0 none (Obj.arr 9 false []))])) ∧ (AllSeen l_1 → bif decide ((↑m : Int) > (20 : Int)) then post (P.tup [P.sl 0 0 0, P.d (D.int IntKind.i64 (2 : Int))], [(0, En.mk 0 none (Obj.arr 9 false []))]) else post (P.tup [P.sl 0 0 m, P.d (D.int IntKind.i64 (0 : Int))], [(0, En.mk 0 none (Obj.arr 9 false (List.map D.str l_1)))]))) = (bodyF [(35, hCutP), (36, hSplit)] [(8, loopHook (kpF 20 8) gSp)] 20 [sD s] []) post := by kernel_rfl
theorem vcSplitR (s : List UInt8) (post : P × List (Nat × En) → Prop) : (bif s == [(47 : UInt8)] then post (P.tup [P.sl 0 0 0, P.d (D.int IntKind.i64 (0 : Int))], [(0, En.mk 0 none (Obj.arr 9 false []))]) else bif s == [] then post (P.tup [P.sl 0 0 0, P.d (D.int IntKind.i64 (71 : Int))], [(0, En.mk 0 none (Obj.arr 9 false []))]) else bif decide ((0 : Int) ≤ (0 : Int) ∧ (0 : Int) < (↑(List.length s) : Int)) then bif (↑(UInt8.toNat (List.getD s 0 (0 : UInt8))) : Int) != (47 : Int) then post (P.tup [P.sl 0 0 0, P.d (D.int IntKind.i64 (71 : Int))], [(0, En.mk 0 none (Obj.arr 9 false []))]) else ∃ (l : List UInt8), ∃ (es : List D), S.mk 51 [(0, P.d (D.str s)), (4, P.sl 0 0 0), (5, P.d (D.int IntKind.i64 (1 : Int))), (6, P.d (D.int IntKind.i64 (1 : Int)))] [(0, En.mk 0 none (Obj.arr 9 false []))] = S.mk 51 [(0, P.d (D.str l)), (4, P.sl 0 0 0), (5, P.d (D.int IntKind.i64 (1 : Int))), (6, P.d (D.int IntKind.i64 (1 : Int)))] [(0, En.mk 0 none (Obj.arr 9 false es))] ∧ (es = [] ∧ 1 ≤ List.length l ∧ List.length l ≤ 2000000) ∧ (∀ (m : Nat) (o : List (List UInt8)), ¬AllSeen (splitBy (47 : UInt8) (List.drop 1 l)) → post (P.tup [P.sl 0 0 0, P.d (D.int IntKind.i64 (70 : Int))], [(0, En.mk 0 none (Obj.arr 9 false []))])) ∧ ∀ (m : Nat), m = List.length (splitBy (47 : UInt8) (List.drop 1 l)) → AllSeen (splitBy (47 : UInt8) (List.drop 1 l)) → bif decide ((↑m : Int) > (20 : Int)) then post (P.tup [P.sl 0 0 0, P.d (D.int IntKind.i64 (2 : Int))], [(0, En.mk 0 none (Obj.arr 9 false []))]) else post (P.tup [P.sl 0 0 m, P.d (D.int IntKind.i64 (0 : Int))], [(0, En.mk 0 none (Obj.arr 9 false (List.map D.str (splitBy (47 : UInt8) (List.drop 1 l)))))]) else False) = (bodyF [] [(8, loopHook (kpF 23 8) gSr)] 23 [sD s] []) post := by kernel_rfl
end Pi

/- Pathname: the functions. -/
namespace Pi
open Go Go.Proofs
set_option maxRecDepth 100000
section
variable {X : XF}
theorem okNameR : FD X 54 hName := FD.mk (H := []) (hk := [(4, loopHook (kpF 54 4) gNm)]) (by kernel_rfl) .nil (.cons loopNm .nil) (by
  intro ps R post hh
  obtain ⟨s, rfl, rfl, hp⟩ := hh
  rw [← vcNameR]
  refine condI (fun h1 => ?_) fun h1 => condP (fun h2 => ?_) fun h2 => condI (fun h3 => ?_) fun h3 => condI (fun h4 => ?_) fun h4 => ⟨s, rfl, by omega, fun hno => ?_, fun hyes => ?_⟩
  · exact leafB hp (decF fun h => h.1 (by simpa using h1))
  · exact leafB hp (decF fun h => by omega)
  · exact leafB hp (decF fun h => h.2.2.1 (by simpa using h3))
  · exact leafB hp (decF fun h => h.2.2.2.1 (by simpa using h4))
  · exact leafB hp (decF fun h => hno h.2.2.2.2)
  · exact leafB hp (decT ⟨by simpa using h1, by omega, by simpa using h3, by simpa using h4, hyes⟩))
theorem okSeenR : FD X 42 hSeen := FD.mk (H := [(54, hName)]) (hk := [(2, loopHook (kpF 42 2) gSe)]) (by kernel_rfl) (.cons okNameR .nil) (.cons (loopSe okNameR) .nil) (by
  intro ps R post hh
  obtain ⟨s, rfl, rfl, hs, hp⟩ := hh
  rw [← vcSeenR]
  exact ⟨s, rfl, hs, fun _ => hp, fun hm => ⟨s, rfl, rfl, leafB hp (by simp [seenOk, hm, pre_all hm])⟩⟩)
theorem allSeen_iff (l : List (List UInt8)) : l.all seenOk = true ↔ AllSeen l := by simp [AllSeen]
theorem splitP_no {s : List UInt8} (h : ∀ r, s ≠ 47 :: r) : splitP s = (71, []) := by
  unfold splitP
  split
  · rename_i r; exact absurd rfl (h r)
  · rfl
theorem splitP_cons (r : List UInt8) : splitP (47 :: r) = if r = [] then (0, []) else if (splitBy 47 r).all seenOk = true then (if 20 < (splitBy 47 r).length then (2, []) else (0, splitBy 47 r)) else (70, []) := rfl
theorem okSplitP : FD X 20 hSplitP := FD.mk (H := [(35, hCutP), (36, hSplit)]) (hk := [(8, loopHook (kpF 20 8) gSp)]) (by kernel_rfl) (.cons okCutP (.cons okSplit .nil)) (.cons loopSp .nil) (by
  intro ps R post hh
  obtain ⟨s, rfl, rfl, hs, hp⟩ := hh
  rw [← vcSplitP]
  refine ⟨s, [47], rfl, rfl, ?_⟩
  by_cases hc : ∃ r, s = 47 :: r
  · obtain ⟨r, rfl⟩ := hc
    have e1 : Lib.hasPrefix (47 :: r) [47] = true := by simp [Lib.hasPrefix]
    have e2 : Lib.trimPrefix (47 :: r) [47] = r := by simp [Lib.trimPrefix, Lib.hasPrefix]
    rw [splitP_cons] at hp
    simp at hs
    refine condF (by rw [e1]; rfl) ?_
    rw [e2]
    refine condI (fun h => hp 0 0 [] (by rw [if_pos (by simpa using h)]) rfl) fun h => ?_
    have hr : r ≠ [] := by simpa using h
    rw [if_neg hr] at hp
    have hcnt : r.count 47 ≤ r.length := List.count_le_length
    refine ⟨r, [47], rfl, rfl, ⟨by omega, by simp, by rw [split_by, splitBy_len, Lib.count_one], by rw [Lib.count_one]; omega⟩, fun l hl => ?_⟩
    rw [split_by] at hl
    subst hl
    refine ⟨_, _, _, _, rfl, ⟨rfl, rfl, by rw [splitBy_len]; omega, fun x hx => by have := splitBy_each 47 r x hx; omega⟩, fun hno => ?_, fun hyes => condP (fun h3 => ?_) fun h3 => ?_⟩
    · exact hp 0 70 [] (by rw [if_neg (by rw [allSeen_iff]; exact hno)]) rfl
    · exact hp 0 2 [] (by rw [if_pos ((allSeen_iff _).2 hyes), if_pos (by omega)]) rfl
    · exact hp _ _ _ (by rw [if_pos ((allSeen_iff _).2 hyes), if_neg (by omega)]) rfl
  · have hno : ∀ r, s ≠ 47 :: r := fun r e => hc ⟨r, e⟩
    have e1 : Lib.hasPrefix s [47] = false := by
      cases s with
      | nil => rfl
      | cons b t =>
        have hb : (47 : UInt8) ≠ b := fun e => hno t (by rw [e])
        simp [Lib.hasPrefix, List.isPrefixOf, hb]
    exact condT (by rw [e1]; rfl) (hp 0 71 [] (splitP_no hno) rfl))
theorem okSplitR : FD X 23 hSplitP := FD.mk (H := []) (hk := [(8, loopHook (kpF 23 8) gSr)]) (by kernel_rfl) .nil (.cons (loopSr okSeenR) .nil) (by
  intro ps R post hh
  obtain ⟨s, rfl, rfl, hs, hp⟩ := hh
  rw [← vcSplitR]
  refine condI (fun h => ?_) fun h => condI (fun h2 => ?_) fun h2 => ?_
  · have e : s = [47] := by simpa using h
    subst e
    exact hp 0 0 [] rfl rfl
  · have e : s = [] := by simpa using h2
    subst e
    exact hp 0 71 [] rfl rfl
  · obtain ⟨b, r, rfl⟩ : ∃ b r, s = b :: r := by cases s with | nil => simp at h2 | cons b r => exact ⟨b, r, rfl⟩
    refine oblP (by simp) (condN (fun h3 => ?_) fun h3 => ?_)
    · exact hp 0 71 [] (splitP_no fun r' e => by simp at e; rw [e.1] at h3; exact h3 rfl) rfl
    · have hb : b = 47 := UInt8.toNat_inj.1 (by rw [show (47 : UInt8).toNat = 47 from rfl]; simp at h3; omega)
      subst hb
      have hr : r ≠ [] := fun e => by subst e; simp at h
      rw [splitP_cons, if_neg hr] at hp
      refine ⟨_, _, rfl, ⟨rfl, by simp, hs⟩, fun m o hno => ?_, fun m hm hyes => condP (fun h3 => ?_) fun h3 => ?_⟩
      all_goals simp only [List.drop_succ_cons, List.drop_zero] at *
      · exact hp 0 70 [] (by rw [if_neg (by rw [allSeen_iff]; exact hno)]) rfl
      · exact hp 0 2 [] (by rw [if_pos ((allSeen_iff _).2 hyes), if_pos (by omega)]) rfl
      · exact hp _ _ _ (by rw [if_pos ((allSeen_iff _).2 hyes), if_neg (by omega)]) hm)
theorem joinR_take {l : List (List UInt8)} {i : Nat} (h : i < l.length) : joinR (l.take (i + 1)) = joinR (l.take i) ++ [47] ++ l.getD i [] := by
  have e : l.take (i + 1) = l.take i ++ [l[i]] := by rw [List.take_add_one, List.getElem?_eq_getElem h]; rfl
  rw [e, joinR, List.flatMap_append]
  simp [joinR, List.getD_eq_getElem?_getD, h]
theorem joinR_le (l : List (List UInt8)) (i : Nat) : (joinR (l.take i)).length ≤ sumL l := by
  have e : joinR l = joinR (l.take i) ++ joinR (l.drop i) := by
    unfold joinR
    rw [← List.flatMap_append, List.take_append_drop]
  unfold sumL
  rw [e, List.length_append]
  omega
theorem sum_len (l : List (List UInt8)) : l.length ≤ sumL l := by
  induction l with
  | nil => simp
  | cons x l ih => simp [sumL, joinR] at ih ⊢; omega
theorem joinR_P : ∀ l : List (List UInt8), l ≠ [] → joinR l = joinP l
  | [], h => absurd rfl h
  | [x], _ => by simp [joinR, joinP, join_one]
  | x :: y :: l, _ => by
    have ih := joinR_P (y :: l) (by simp)
    rw [joinP, join_cons2]
    rw [joinP] at ih
    rw [← ih]
    simp [joinR]
theorem joinP_len (l : List (List UInt8)) : (joinP l).length ≤ sumL l + 1 := by
  cases l with
  | nil => simp [joinP, Lib.join, List.intercalate]
  | cons x l => rw [← joinR_P (x :: l) (by simp)]; unfold sumL; omega
theorem ext_getT {a b : List (List UInt8)} (hl : a.length = b.length) (h : ∀ i, i < a.length → a.getD i [] = b.getD i []) : a = b := by
  apply List.ext_getElem hl
  intro i h1 h2
  have := h i h1
  simpa [List.getD_eq_getElem?_getD, h1, h2] using this
theorem textId_nil {t r i : Int} : textId t r i = [] ↔ rightId t r i = false := by
  unfold textId
  split
  · rename_i h
    simp [h, textS]
  · rename_i h
    simpa using h
end
end Pi

/- Archive: varint: what its runs ask. -/
namespace Pi
open Go Go.Proofs
set_option maxRecDepth 100000
set_option maxHeartbeats 0
/-- A number's bytes. -/
def natW (n : Nat) : List UInt8 := if n < 128 then [UInt8.ofNat n] else UInt8.ofNat (n % 128 + 128) :: natW (n / 128)
/-- A number at the head of a text: what is wrong, the number, what is behind. -/
def takeG (i : Nat) : List UInt8 → Int × Nat × List UInt8
  | [] => (10, 0, [])
  | b :: r => if b.toNat < 128 then (if b.toNat = 0 ∧ 0 < i then (11, 0, []) else (0, b.toNat, r)) else if i = 8 then (11, 0, []) else
    (if (takeG (i + 1) r).1 = 0 then (0, b.toNat - 128 + 128 * (takeG (i + 1) r).2.1, (takeG (i + 1) r).2.2) else takeG (i + 1) r)
abbrev u8R (c : List UInt8) : Obj := .arr 5 false (c.map bD)
abbrev puH (c : Option (List UInt8)) (n : Int) : S := match c with
  | none => ⟨20, [(0, .d .nils), (1, .d (.int .u64 n))], []⟩
  | some c => ⟨20, [(0, .sl 0 0 c.length), (1, .d (.int .u64 n))], [(0, ⟨0, none, u8R c⟩)]⟩
abbrev takH (s : List UInt8) (n i : Int) : S := ⟨52, [(0, sD s), (2, iD n), (5, iD i)], []⟩
def hPut : KF1 := fun ps R post => ∃ n : Int, ps = [.d .nils, .d (.int .u64 n)] ∧ R = [] ∧ (0 ≤ n ∧ n < 9223372036854775808) ∧ ∀ c k, c = natW n.toNat → k = c.length → post (.sl 0 0 k, [(0, ⟨0, none, u8R c⟩)])
theorem vcPut0 (n : Int) (post : PX × S → Prop) : (bif decide (n ≥ (128 : Int)) then post (PX.normal, S.mk 20 [(0, P.sl 0 0 1), (1, P.d (D.int IntKind.u64 (Int.fdiv n ((2 : Int) ^ 7))))] [(0, En.mk 0 none (Obj.arr 5 false [D.int IntKind.u8 (IntKind.wrap IntKind.u8 (↑(BitVec.toNat (BitVec.ofInt 8 (IntKind.wrap IntKind.u8 n) ||| BitVec.ofInt 8 (128 : Int))) : Int))]))]) else post (PX.exit 0, S.mk 20 [(0, P.d D.nils), (1, P.d (D.int IntKind.u64 n))] [])) = (roundL [] [] 31 1 (puH none n)) post := by kernel_rfl
theorem vcPut1 (c : List UInt8) (n : Int) (post : PX × S → Prop) : (bif decide (n ≥ (128 : Int)) then bif Nat.ble (List.length c) (List.length (List.map bD c)) && roomOk (List.length c + List.length [D.int IntKind.u8 (IntKind.wrap IntKind.u8 (↑(BitVec.toNat (BitVec.ofInt 8 (IntKind.wrap IntKind.u8 n) ||| BitVec.ofInt 8 (128 : Int))) : Int))]) 1 then post (PX.normal, S.mk 20 [(0, P.sl 0 0 (List.length c + List.length [D.int IntKind.u8 (IntKind.wrap IntKind.u8 (↑(BitVec.toNat (BitVec.ofInt 8 (IntKind.wrap IntKind.u8 n) ||| BitVec.ofInt 8 (128 : Int))) : Int))])), (1, P.d (D.int IntKind.u64 (Int.fdiv n ((2 : Int) ^ 7))))] [(0, En.mk 0 none (Obj.arr 5 false (List.take (List.length c) (List.map bD c) ++ [D.int IntKind.u8 (IntKind.wrap IntKind.u8 (↑(BitVec.toNat (BitVec.ofInt 8 (IntKind.wrap IntKind.u8 n) ||| BitVec.ofInt 8 (128 : Int))) : Int))])))]) else False else post (PX.exit 0, S.mk 20 [(0, P.sl 0 0 (List.length c)), (1, P.d (D.int IntKind.u64 n))] [(0, En.mk 0 none (Obj.arr 5 false (List.map bD c)))])) = (roundL [] [] 31 1 (puH (some c) n)) post := by kernel_rfl
theorem vcTakN (s : List UInt8) (n i : Int) (post : PX × S → Prop) : (bif i == (↑(List.length s) : Int) then post (PX.ret, S.mk 52 [(0, P.d (D.str s)), (2, P.d (D.int IntKind.i64 (0 : Int))), (3, P.d (D.str [])), (4, P.d (D.int IntKind.i64 (10 : Int))), (5, P.d (D.int IntKind.i64 i))] []) else bif decide ((0 : Int) ≤ i ∧ i < (↑(List.length s) : Int)) then bif decide ((↑(UInt8.toNat (List.getD s (Int.toNat i) (0 : UInt8))) : Int) < (128 : Int)) then post (PX.exit 0, S.mk 52 [(0, P.d (D.str s)), (2, P.d (D.int IntKind.i64 n)), (5, P.d (D.int IntKind.i64 i))] []) else bif i == (8 : Int) then post (PX.ret, S.mk 52 [(0, P.d (D.str s)), (2, P.d (D.int IntKind.i64 (0 : Int))), (3, P.d (D.str [])), (4, P.d (D.int IntKind.i64 (11 : Int))), (5, P.d (D.int IntKind.i64 i))] []) else bif decide ((0 : Int) ≤ i ∧ i < (↑(List.length s) : Int)) then bif decide ((-9223372036854775808 : Int) ≤ IntKind.wrap IntKind.u8 (↑(BitVec.toNat (BitVec.ofInt 8 (↑(UInt8.toNat (List.getD s (Int.toNat i) (0 : UInt8))) : Int) &&& BitVec.ofInt 8 (127 : Int))) : Int) ∧ IntKind.wrap IntKind.u8 (↑(BitVec.toNat (BitVec.ofInt 8 (↑(UInt8.toNat (List.getD s (Int.toNat i) (0 : UInt8))) : Int) &&& BitVec.ofInt 8 (127 : Int))) : Int) ≤ (9223372036854775807 : Int)) then bif decide ((-9223372036854775808 : Int) ≤ (7 : Int) * i ∧ (7 : Int) * i ≤ (9223372036854775807 : Int)) then bif decide ((0 : Int) ≤ (7 : Int) * i) then bif decide ((-9223372036854775808 : Int) ≤ IntKind.wrap IntKind.u8 (↑(BitVec.toNat (BitVec.ofInt 8 (↑(UInt8.toNat (List.getD s (Int.toNat i) (0 : UInt8))) : Int) &&& BitVec.ofInt 8 (127 : Int))) : Int) * (2 : Int) ^ min (Int.toNat ((7 : Int) * i)) 64 ∧ IntKind.wrap IntKind.u8 (↑(BitVec.toNat (BitVec.ofInt 8 (↑(UInt8.toNat (List.getD s (Int.toNat i) (0 : UInt8))) : Int) &&& BitVec.ofInt 8 (127 : Int))) : Int) * (2 : Int) ^ min (Int.toNat ((7 : Int) * i)) 64 ≤ (9223372036854775807 : Int)) then bif decide ((-9223372036854775808 : Int) ≤ i + (1 : Int) ∧ i + (1 : Int) ≤ (9223372036854775807 : Int)) then post (PX.normal, S.mk 52 [(0, P.d (D.str s)), (2, P.d (D.int IntKind.i64 (IntKind.wrap IntKind.i64 (↑(BitVec.toNat (BitVec.ofInt 64 n ||| BitVec.ofInt 64 (IntKind.wrap IntKind.u8 (↑(BitVec.toNat (BitVec.ofInt 8 (↑(UInt8.toNat (List.getD s (Int.toNat i) (0 : UInt8))) : Int) &&& BitVec.ofInt 8 (127 : Int))) : Int) * (2 : Int) ^ min (Int.toNat ((7 : Int) * i)) 64))) : Int)))), (5, P.d (D.int IntKind.i64 (i + (1 : Int))))] []) else False else False else False else False else False else False else False) = (roundL [] [] 27 2 (takH s n i)) post := by kernel_rfl
def gPut : S → K (PX × S) := fun s post => ∃ n, s = puH none n ∧ (0 ≤ n ∧ n < 9223372036854775808) ∧ (n < 128 → post (.exit 0, puH none n)) ∧ ∀ c m, m < 128 → c ++ [UInt8.ofNat m.toNat] = natW n.toNat → 0 ≤ m → c.length < 10 → post (.exit 0, puH (some c) m)
theorem vcPut (n : Int) (post : P × List (Nat × En) → Prop) : (∃ (n_1 : Int), S.mk 20 [(0, P.d D.nils), (1, P.d (D.int IntKind.u64 n))] [] = S.mk 20 [(0, P.d D.nils), (1, P.d (D.int IntKind.u64 n_1))] [] ∧ ((0 : Int) ≤ n_1 ∧ n_1 < (9223372036854775808 : Int)) ∧ (n_1 < (128 : Int) → post (P.sl 0 0 1, [(0, En.mk 0 none (Obj.arr 5 false [D.int IntKind.u8 (IntKind.wrap IntKind.u8 n_1)]))])) ∧ ∀ (c : List UInt8) (m : Int), m < (128 : Int) → c ++ [UInt8.ofNat (Int.toNat m)] = natW (Int.toNat n_1) → (0 : Int) ≤ m → List.length c < 10 → bif Nat.ble (List.length c) (List.length (List.map bD c)) && roomOk (List.length c + List.length [D.int IntKind.u8 (IntKind.wrap IntKind.u8 m)]) 1 then post (P.sl 0 0 (List.length c + List.length [D.int IntKind.u8 (IntKind.wrap IntKind.u8 m)]), [(0, En.mk 0 none (Obj.arr 5 false (List.take (List.length c) (List.map bD c) ++ [D.int IntKind.u8 (IntKind.wrap IntKind.u8 m)])))]) else False) = (bodyF [] [(1, loopHook (kpF 31 1) gPut)] 31 [.d .nils, .d (.int .u64 n)] []) post := by kernel_rfl
theorem vcNat (n : Int) (post : P × List (Nat × En) → Prop) : (bif decide (n < (0 : Int)) then post (P.tup [P.d (D.str []), P.d (D.int IntKind.i64 (1 : Int))], []) else ∃ (n_1 : Int), [P.d D.nils, P.d (D.int IntKind.u64 (IntKind.wrap IntKind.u64 n))] = [P.d D.nils, P.d (D.int IntKind.u64 n_1)] ∧ EqR [] [] ∧ ((0 : Int) ≤ n_1 ∧ n_1 < (9223372036854775808 : Int)) ∧ ∀ (c : List UInt8) (k : Nat), c = natW (Int.toNat n_1) → k = List.length c → bif bytesB (List.take k (List.map bD c)) then post (P.tup [P.d (D.str (bytesOf (List.take k (List.map bD c)))), P.d (D.int IntKind.i64 (0 : Int))], []) else False) = (bodyF [(31, hPut)] [] 14 [iD n] []) post := by kernel_rfl
theorem vcBytes (s : List UInt8) (post : P × List (Nat × En) → Prop) : (∃ (n : Int), [P.d D.nils, P.d (D.int IntKind.u64 (IntKind.wrap IntKind.u64 (↑(List.length s) : Int)))] = [P.d D.nils, P.d (D.int IntKind.u64 n)] ∧ EqR [] [] ∧ ((0 : Int) ≤ n ∧ n < (9223372036854775808 : Int)) ∧ ∀ (c : List UInt8) (k : Nat), c = natW (Int.toNat n) → k = List.length c → bif bytesB (List.take k (List.map bD c)) then bif decide (List.length (bytesOf (List.take k (List.map bD c))) + List.length s ≤ 9223372036854775807) then post (P.d (D.str (bytesOf (List.take k (List.map bD c)) ++ s)), []) else False else False) = (bodyF [(31, hPut)] [] 16 [sD s] []) post := by kernel_rfl
end Pi

/- Archive: varint: numbers to bytes. -/
namespace Pi
open Go Go.Proofs
set_option maxRecDepth 100000
theorem natW_lt {n : Nat} (h : n < 128) : natW n = [UInt8.ofNat n] := by rw [natW, if_pos h]
theorem natW_ge {n : Nat} (h : ¬ n < 128) : natW n = UInt8.ofNat (n % 128 + 128) :: natW (n / 128) := by rw [natW, if_neg h]
theorem natW_len (k : Nat) : ∀ n, n < 128 ^ k → (natW n).length ≤ max k 1 := by
  induction k with
  | zero => intro n h; rw [natW_lt (by simp at h; omega)]; simp
  | succ k ih =>
    intro n h
    by_cases hn : n < 128
    · rw [natW_lt hn]; simp only [List.length_singleton]; omega
    · rw [natW_ge hn]
      have := ih (n / 128) (by rw [Nat.pow_succ] at h; omega)
      have hk : 0 < k := by
        rcases Nat.eq_zero_or_pos k with rfl | hk
        · simp at h; omega
        · exact hk
      simp only [List.length_cons]
      omega
theorem natW_pos (n : Nat) : 0 < (natW n).length := by
  by_cases h : n < 128
  · rw [natW_lt h]; simp
  · rw [natW_ge h]; simp
theorem natW9 {n : Nat} (h : n < 9223372036854775808) : (natW n).length ≤ 9 := by
  have := natW_len 9 n (by rw [show 128 ^ 9 = 9223372036854775808 from rfl]; exact h)
  omega
theorem wrap_u8 (n : Int) : IntKind.wrap .u8 n = n % 256 := by
  simp only [IntKind.wrap, IntKind.bits, IntKind.signed]
  rfl
theorem wrap_u64 {n : Int} (h : 0 ≤ n) (h2 : n < 18446744073709551616) : IntKind.wrap .u64 n = n := by
  have e : IntKind.wrap .u64 n = n % 18446744073709551616 := by
    simp only [IntKind.wrap, IntKind.bits, IntKind.signed]
    rfl
  rw [e]; omega
theorem small_byte {m : Int} (h0 : 0 ≤ m) (h1 : m < 128) : D.int .u8 (IntKind.wrap .u8 m) = bD (UInt8.ofNat m.toNat) := by
  rw [wrap_u8]
  simp only [bD, D.int.injEq, true_and]
  simp only [UInt8.toNat_ofNat']
  omega
theorem put_fin : ∀ k : Fin 256, (BitVec.ofInt 8 (k.val : Int) ||| BitVec.ofInt 8 (128 : Int)).toNat = k.val % 128 + 128 := by decide
theorem put_byte {m : Int} (h0 : 0 ≤ m) : D.int .u8 (IntKind.wrap .u8 (↑(BitVec.toNat (BitVec.ofInt 8 (IntKind.wrap .u8 m) ||| BitVec.ofInt 8 (128 : Int))) : Int)) = bD (UInt8.ofNat (m.toNat % 128 + 128)) := by
  have hk : m.toNat % 256 < 256 := Nat.mod_lt _ (by omega)
  have e : IntKind.wrap .u8 m = ((⟨m.toNat % 256, hk⟩ : Fin 256).val : Int) := by rw [wrap_u8]; simp only; omega
  rw [e, put_fin, wrap_u8]
  simp only [bD, D.int.injEq, true_and]
  simp only [UInt8.toNat_ofNat']
  omega
theorem u8_fdiv {m : Int} (h0 : 0 ≤ m) : Int.fdiv m ((2 : Int) ^ 7) = ((m.toNat / 128 : Nat) : Int) := by
  rw [Int.fdiv_eq_ediv_of_nonneg _ (by decide)]
  have : (2 : Int) ^ 7 = 128 := rfl
  rw [this]
  omega
abbrev cOf (c : Option (List UInt8)) : List UInt8 := c.getD []
section
variable {X : XF}
theorem loopPut : LD X 31 1 (loopHook (kpF 31 1) gPut) := LD.par (H := []) (hk := []) (by kernel_rfl) (by kernel_rfl) .nil .nil
  (A := Int) (B := Option (List UInt8) × Int) (fun _ b => puH b.1 b.2)
  (fun a b => (0 ≤ a ∧ a < 9223372036854775808) ∧ 0 ≤ b.2 ∧ cOf b.1 ++ natW b.2.toNat = natW a.toNat ∧ (b.1 = none → b.2 = a))
  (fun _ b => b.2.toNat)
  (fun a x => ∃ c m, x = (.exit 0, puH c m) ∧ m < 128 ∧ 0 ≤ m ∧ cOf c ++ natW m.toNat = natW a.toNat ∧ (c = none → m = a))
  (by
    rintro a ⟨c, m⟩ ⟨ha, h0, he, hn⟩
    dsimp only at *
    have hlen := congrArg List.length he
    have h9 := natW9 (n := a.toNat) (by omega)
    have hp := natW_pos m.toNat
    rw [List.length_append] at hlen
    cases c with
    | none =>
      rw [← vcPut0]
      refine condP (fun h => ?_) fun h => ⟨none, m, rfl, by omega, h0, he, hn⟩
      refine ⟨_, ?_, (some [UInt8.ofNat (m.toNat % 128 + 128)], ((m.toNat / 128 : Nat) : Int)), ?_, ⟨ha, by dsimp only; omega, ?_, fun h => by cases h⟩, rfl⟩
      · dsimp only; omega
      · rw [put_byte h0, u8_fdiv h0]; rfl
      · dsimp only
        rw [← he, natW_ge (n := m.toNat) (by omega)]
        rfl
    | some c =>
      rw [← vcPut1]
      refine condP (fun h => ?_) fun h => ⟨some c, m, rfl, by omega, h0, he, hn⟩
      simp only [cOf, Option.getD_some] at he hlen
      refine oblI (roomI (by simp; omega) (by simp; omega) _ (by simp)) ?_
      refine ⟨_, ?_, (some (c ++ [UInt8.ofNat (m.toNat % 128 + 128)]), ((m.toNat / 128 : Nat) : Int)), ?_, ⟨ha, by dsimp only; omega, ?_, fun h => by cases h⟩, rfl⟩
      · dsimp only; omega
      · rw [put_byte h0, u8_fdiv h0, List.take_of_length_le (by simp)]
        simp only [puH, u8R, List.map_append, List.map_cons, List.map_nil, List.length_append, List.length_cons, List.length_nil]
      · dsimp only [cOf, Option.getD_some]
        rw [← he, natW_ge (n := m.toNat) (by omega), List.append_assoc]
        rfl)
  (by
    rintro s post ⟨n, rfl, hn, h1, h2⟩
    refine ⟨n, (none, n), rfl, ⟨hn, hn.1, rfl, fun _ => rfl⟩, ?_⟩
    rintro x ⟨c, m, rfl, h3, h4, h5, h6⟩
    cases c with
    | none =>
      have := h6 rfl
      subst this
      exact h1 h3
    | some c =>
      rw [natW_lt (n := m.toNat) (by omega)] at h5
      have h9 := natW9 (n := n.toNat) (by omega)
      have hl := congrArg List.length h5
      simp at hl
      exact h2 c m h3 h5 h4 (by omega))
theorem okPut : FD X 31 hPut := FD.mk (H := []) (hk := [(1, loopHook (kpF 31 1) gPut)]) (by kernel_rfl) .nil (.cons loopPut .nil) (by
  intro ps R post hh
  obtain ⟨n, rfl, rfl, hn, hp⟩ := hh
  rw [← vcPut]
  refine ⟨n, rfl, hn, fun h => ?_, fun c m h1 h2 h3 h4 => ?_⟩
  · rw [small_byte hn.1 h]
    exact hp [UInt8.ofNat n.toNat] 1 (by rw [natW_lt (by omega)]) rfl
  · rw [small_byte h3 h1, List.take_of_length_le (by simp)]
    refine oblI (roomI (by simp; omega) (by simp; omega) _ (by simp)) ?_
    have := hp (c ++ [UInt8.ofNat m.toNat]) (c.length + 1) h2 (by simp)
    simp only [u8R, List.map_append, List.map_cons, List.map_nil] at this
    exact this)
def hNat : KF1 := fun ps R post => ∃ n : Int, ps = [iD n] ∧ R = [] ∧ (0 ≤ n ∧ n < 9223372036854775808) ∧ post (.tup [sD (natW n.toNat), iD 0], [])
def hBytes : KF1 := fun ps R post => ∃ s, ps = [sD s] ∧ R = [] ∧ s.length ≤ 2000000 ∧ post (sD (natW s.length ++ s), [])
theorem bytes_row (c : List UInt8) {k : Nat} (hk : k = c.length) : bytesB (List.take k (List.map bD c)) = true ∧ bytesOf (List.take k (List.map bD c)) = c := by
  subst hk
  rw [List.take_of_length_le (by simp)]
  induction c with
  | nil => exact ⟨rfl, rfl⟩
  | cons b c ih =>
    refine ⟨?_, ?_⟩
    · simp only [List.map_cons, bytesB, bD]
      exact ih.1
    · simp only [List.map_cons, bytesOf, bD]
      rw [ih.2]
      simp [D.iVal]
theorem okNat : FD X 14 hNat := FD.mk (H := [(31, hPut)]) (hk := []) (by kernel_rfl) (.cons okPut .nil) .nil (by
  intro ps R post hh
  obtain ⟨n, rfl, rfl, hn, hp⟩ := hh
  rw [← vcNat]
  refine condP (fun h => by omega) fun _ => ⟨n, by rw [wrap_u64 hn.1 (by omega)], rfl, hn, fun c k hc hk => ?_⟩
  obtain ⟨h1, h2⟩ := bytes_row c hk
  rw [h1, h2, hc]
  exact hp)
theorem okBytes : FD X 16 hBytes := FD.mk (H := [(31, hPut)]) (hk := []) (by kernel_rfl) (.cons okPut .nil) .nil (by
  intro ps R post hh
  obtain ⟨s, rfl, rfl, hs, hp⟩ := hh
  rw [← vcBytes]
  refine ⟨s.length, by rw [wrap_u64 (by omega) (by omega)], rfl, ⟨by omega, by omega⟩, fun c k hc hk => ?_⟩
  obtain ⟨h1, h2⟩ := bytes_row c hk
  rw [h1, h2, hc, show ((s.length : Int)).toNat = s.length from rfl]
  have := natW9 (n := s.length) (by omega)
  exact oblP (by omega) hp)
end
end Pi

/- Archive: varint: bytes to numbers: what its runs ask. -/
namespace Pi
open Go Go.Proofs
set_option maxRecDepth 100000
set_option maxHeartbeats 0
def TakEnd (s : List UInt8) (n i : Int) : Prop := (0 ≤ i ∧ i ≤ 8 ∧ i.toNat < s.length) ∧ (0 ≤ n ∧ n.toNat < 2 ^ (7 * i.toNat)) ∧ (s.getD i.toNat 0).toNat < 128 ∧
  takeG 0 s = (if (s.getD i.toNat 0).toNat = 0 ∧ 0 < i.toNat then (11, 0, []) else (0, n.toNat + (s.getD i.toNat 0).toNat * 2 ^ (7 * i.toNat), s.drop (i.toNat + 1)))
def gTak : S → K (PX × S) := fun st post => ∃ s, st = takH s 0 0 ∧ s.length ≤ 2000000 ∧ (∀ e i, takeG 0 s = (e, 0, []) → post (.ret, ⟨52, [(0, sD s), (2, iD 0), (3, sD []), (4, iD e), (5, iD i)], []⟩)) ∧
  ∀ (n i : Int), TakEnd s n i → post (.exit 0, takH s n i)
def hTake : KF1 := fun ps R post => ∃ s, ps = [sD s] ∧ R = [] ∧ s.length ≤ 2000000 ∧ ∀ e n r, takeG 0 s = (e, n, r) → post (.tup [iD n, sD r, iD e], [])
def hValid : KF1 := fun ps R post => ∃ s, ps = [sD s] ∧ R = [] ∧ s.length ≤ 2000000 ∧ post (bD' (Lib.validD s), [])
def hCount : KF1 := fun ps R post => ∃ s, ps = [sD s] ∧ R = [] ∧ s.length ≤ 2000000 ∧ post (iD (Lib.runeCount ⟨⟨s⟩⟩), [])
theorem vcTake (s : List UInt8) (post : P × List (Nat × En) → Prop) : (∃ (s_1 : List UInt8), S.mk 52 [(0, P.d (D.str s)), (2, P.d (D.int IntKind.i64 (0 : Int))), (5, P.d (D.int IntKind.i64 (0 : Int)))] [] = S.mk 52 [(0, P.d (D.str s_1)), (2, P.d (D.int IntKind.i64 (0 : Int))), (5, P.d (D.int IntKind.i64 (0 : Int)))] [] ∧ List.length s_1 ≤ 2000000 ∧ (∀ (e i : Int), takeG 0 s_1 = (e, 0, []) → post (P.tup [P.d (D.int IntKind.i64 (0 : Int)), P.d (D.str []), P.d (D.int IntKind.i64 e)], [])) ∧ ∀ (n i : Int), TakEnd s_1 n i → bif decide ((0 : Int) ≤ i ∧ i < (↑(List.length s_1) : Int)) then bif (↑(UInt8.toNat (List.getD s_1 (Int.toNat i) (0 : UInt8))) : Int) == (0 : Int) then bif decide (i > (0 : Int)) then post (P.tup [P.d (D.int IntKind.i64 (0 : Int)), P.d (D.str []), P.d (D.int IntKind.i64 (11 : Int))], []) else bif decide ((0 : Int) ≤ i ∧ i < (↑(List.length s_1) : Int)) then bif decide ((-9223372036854775808 : Int) ≤ (↑(UInt8.toNat (List.getD s_1 (Int.toNat i) (0 : UInt8))) : Int) ∧ (↑(UInt8.toNat (List.getD s_1 (Int.toNat i) (0 : UInt8))) : Int) ≤ (9223372036854775807 : Int)) then bif decide ((-9223372036854775808 : Int) ≤ (7 : Int) * i ∧ (7 : Int) * i ≤ (9223372036854775807 : Int)) then bif decide ((0 : Int) ≤ (7 : Int) * i) then bif decide ((-9223372036854775808 : Int) ≤ (↑(UInt8.toNat (List.getD s_1 (Int.toNat i) (0 : UInt8))) : Int) * (2 : Int) ^ min (Int.toNat ((7 : Int) * i)) 64 ∧ (↑(UInt8.toNat (List.getD s_1 (Int.toNat i) (0 : UInt8))) : Int) * (2 : Int) ^ min (Int.toNat ((7 : Int) * i)) 64 ≤ (9223372036854775807 : Int)) then bif decide ((-9223372036854775808 : Int) ≤ i + (1 : Int) ∧ i + (1 : Int) ≤ (9223372036854775807 : Int)) then bif decide ((0 : Int) ≤ i + (1 : Int) ∧ i + (1 : Int) ≤ (↑(List.length s_1) : Int)) then post (P.tup [P.d (D.int IntKind.i64 (IntKind.wrap IntKind.i64 (↑(BitVec.toNat (BitVec.ofInt 64 n ||| BitVec.ofInt 64 ((↑(UInt8.toNat (List.getD s_1 (Int.toNat i) (0 : UInt8))) : Int) * (2 : Int) ^ min (Int.toNat ((7 : Int) * i)) 64))) : Int))), P.d (D.str (List.drop (Int.toNat (i + (1 : Int))) (List.take (List.length s_1) s_1))), P.d (D.int IntKind.i64 (0 : Int))], []) else False else False else False else False else False else False else False else bif decide ((0 : Int) ≤ i ∧ i < (↑(List.length s_1) : Int)) then bif decide ((-9223372036854775808 : Int) ≤ (↑(UInt8.toNat (List.getD s_1 (Int.toNat i) (0 : UInt8))) : Int) ∧ (↑(UInt8.toNat (List.getD s_1 (Int.toNat i) (0 : UInt8))) : Int) ≤ (9223372036854775807 : Int)) then bif decide ((-9223372036854775808 : Int) ≤ (7 : Int) * i ∧ (7 : Int) * i ≤ (9223372036854775807 : Int)) then bif decide ((0 : Int) ≤ (7 : Int) * i) then bif decide ((-9223372036854775808 : Int) ≤ (↑(UInt8.toNat (List.getD s_1 (Int.toNat i) (0 : UInt8))) : Int) * (2 : Int) ^ min (Int.toNat ((7 : Int) * i)) 64 ∧ (↑(UInt8.toNat (List.getD s_1 (Int.toNat i) (0 : UInt8))) : Int) * (2 : Int) ^ min (Int.toNat ((7 : Int) * i)) 64 ≤ (9223372036854775807 : Int)) then bif decide ((-9223372036854775808 : Int) ≤ i + (1 : Int) ∧ i + (1 : Int) ≤ (9223372036854775807 : Int)) then bif decide ((0 : Int) ≤ i + (1 : Int) ∧ i + (1 : Int) ≤ (↑(List.length s_1) : Int)) then post (P.tup [P.d (D.int IntKind.i64 (IntKind.wrap IntKind.i64 (↑(BitVec.toNat (BitVec.ofInt 64 n ||| BitVec.ofInt 64 ((↑(UInt8.toNat (List.getD s_1 (Int.toNat i) (0 : UInt8))) : Int) * (2 : Int) ^ min (Int.toNat ((7 : Int) * i)) 64))) : Int))), P.d (D.str (List.drop (Int.toNat (i + (1 : Int))) (List.take (List.length s_1) s_1))), P.d (D.int IntKind.i64 (0 : Int))], []) else False else False else False else False else False else False else False else False) = (bodyF [] [(2, loopHook (kpF 27 2) gTak)] 27 [sD s] []) post := by kernel_rfl
theorem vcTakeB (s : List UInt8) (post : P × List (Nat × En) → Prop) : (∃ (s_1 : List UInt8), [P.d (D.str s)] = [P.d (D.str s_1)] ∧ EqR [] [] ∧ List.length s_1 ≤ 2000000 ∧ ∀ (e : Int) (n : Nat) (r : List UInt8), takeG 0 s_1 = (e, n, r) → bif e != (0 : Int) then post (P.tup [P.d (D.str []), P.d (D.str []), P.d (D.int IntKind.i64 e)], []) else bif decide ((↑n : Int) > (↑(List.length r) : Int)) then post (P.tup [P.d (D.str []), P.d (D.str []), P.d (D.int IntKind.i64 (10 : Int))], []) else bif decide ((0 : Int) ≤ (↑n : Int) ∧ (↑n : Int) ≤ (↑(List.length r) : Int)) then bif decide ((0 : Int) ≤ (↑n : Int) ∧ (↑n : Int) ≤ (↑(List.length r) : Int)) then post (P.tup [P.d (D.str (List.drop 0 (List.take n r))), P.d (D.str (List.drop n (List.take (List.length r) r))), P.d (D.int IntKind.i64 (0 : Int))], []) else False else False) = (bodyF [(27, hTake)] [] 44 [sD s] []) post := by kernel_rfl
theorem vcLen (s : List UInt8) (post : P × List (Nat × En) → Prop) : (∃ (s_1 : List UInt8), [P.d (D.str s)] = [P.d (D.str s_1)] ∧ EqR [] [] ∧ List.length s_1 ≤ 2000000 ∧ bif !Lib.validD s_1 then post (P.tup [P.d (D.int IntKind.i64 (0 : Int)), P.d (D.int IntKind.i64 (60 : Int))], []) else ∃ (s_2 : List UInt8), [P.d (D.str s)] = [P.d (D.str s_2)] ∧ EqR [] [] ∧ List.length s_2 ≤ 2000000 ∧ post (P.tup [P.d (D.int IntKind.i64 (↑(Lib.runeCount (ByteArray.mk (Array.mk s_2))) : Int)), P.d (D.int IntKind.i64 (0 : Int))], [])) = (bodyF [(38, hValid), (39, hCount)] [] 21 [sD s] []) post := by kernel_rfl
end Pi

/- Archive: varint: bytes to numbers. -/
namespace Pi
open Go Go.Proofs
set_option maxRecDepth 100000
theorem wrap_i64 {n : Int} (h : 0 ≤ n) (h2 : n < 9223372036854775808) : IntKind.wrap .i64 n = n := by
  have e : IntKind.wrap .i64 n = if decide (n % 18446744073709551616 ≥ 9223372036854775808) = true then n % 18446744073709551616 - 18446744073709551616 else n % 18446744073709551616 := by
    simp only [IntKind.wrap, IntKind.bits, IntKind.signed, Bool.true_and]
    rfl
  rw [e, if_neg (by simp; omega)]
  omega
theorem orI {n b k : Nat} (hn : n < 2 ^ k) (hb : n + b * 2 ^ k < 9223372036854775808) : IntKind.wrap .i64 (↑(BitVec.toNat (BitVec.ofInt 64 (n : Int) ||| BitVec.ofInt 64 ((b : Int) * (2 : Int) ^ k))) : Int) = ((n + b * 2 ^ k : Nat) : Int) := by
  have e1 : ((b : Int) * (2 : Int) ^ k) = ((b * 2 ^ k : Nat) : Int) := by simp
  rw [e1, BitVec.ofInt_natCast, BitVec.ofInt_natCast, BitVec.toNat_or, BitVec.toNat_ofNat, BitVec.toNat_ofNat, Nat.mod_eq_of_lt (by omega), Nat.mod_eq_of_lt (by omega)]
  have e2 : n ||| b * 2 ^ k = n + b * 2 ^ k := by
    rw [Nat.or_comm, Nat.mul_comm b, ← Nat.two_pow_add_eq_or_of_lt hn b, Nat.add_comm]
  rw [e2, wrap_i64 (by omega) (by omega)]
theorem and_fin : ∀ k : Fin 256, IntKind.wrap .u8 (↑(BitVec.toNat (BitVec.ofInt 8 ((k.val : Nat) : Int) &&& BitVec.ofInt 8 (127 : Int))) : Int) = ((k.val % 128 : Nat) : Int) := by
  intro k
  rw [wrap_u8]
  have : ∀ k : Fin 256, (BitVec.ofInt 8 ((k.val : Nat) : Int) &&& BitVec.ofInt 8 (127 : Int)).toNat = k.val % 128 := by decide
  rw [this]
  omega
theorem and_byte (b : UInt8) : IntKind.wrap .u8 (↑(BitVec.toNat (BitVec.ofInt 8 (↑(UInt8.toNat b) : Int) &&& BitVec.ofInt 8 (127 : Int))) : Int) = ((b.toNat % 128 : Nat) : Int) :=
  and_fin ⟨b.toNat, b.toNat_lt⟩
theorem pow7 {i : Nat} (h : i ≤ 8) : 2 ^ (7 * i) ≤ 72057594037927936 := by
  have : 2 ^ (7 * i) ≤ 2 ^ 56 := Nat.pow_le_pow_right (by omega) (by omega)
  exact this
theorem takeG_err (i : Nat) (s : List UInt8) : (takeG i s).1 ≠ 0 → (takeG i s).2 = (0, []) := by
  induction s generalizing i with
  | nil => intro _; rfl
  | cons b r ih =>
    unfold takeG
    split
    · split
      · intro _; rfl
      · intro h; exact absurd rfl h
    · split
      · intro _; rfl
      · split
        · intro h; exact absurd rfl h
        · exact ih (i + 1)
def comb (n k : Nat) (r : Int × Nat × List UInt8) : Int × Nat × List UInt8 := if r.1 = 0 then (0, n + 2 ^ k * r.2.1, r.2.2) else r
theorem comb_err {n k : Nat} {r : Int × Nat × List UInt8} (h : r.1 ≠ 0) : comb n k r = r := if_neg h
theorem drop_getD {s : List UInt8} {i : Nat} (h : i < s.length) : s.drop i = s.getD i 0 :: s.drop (i + 1) := by
  rw [List.drop_eq_getElem_cons h]
  simp [List.getD_eq_getElem?_getD, h]
theorem pow_min {i : Int} (h0 : 0 ≤ i) (h8 : i ≤ 8) : min (Int.toNat ((7 : Int) * i)) 64 = 7 * i.toNat := by omega
section
variable {X : XF}
theorem loopTak : LD X 27 2 (loopHook (kpF 27 2) gTak) := LD.par (H := []) (hk := []) (by kernel_rfl) (by kernel_rfl) .nil .nil
  (A := List UInt8) (B := Int × Int) (fun s b => takH s b.1 b.2)
  (fun s b => s.length ≤ 2000000 ∧ (0 ≤ b.2 ∧ b.2 ≤ 8 ∧ b.2.toNat ≤ s.length) ∧ (0 ≤ b.1 ∧ b.1.toNat < 2 ^ (7 * b.2.toNat)) ∧ takeG 0 s = comb b.1.toNat (7 * b.2.toNat) (takeG b.2.toNat (s.drop b.2.toNat)))
  (fun s b => (s.length - b.2).toNat)
  (fun s x => (∃ e i, takeG 0 s = (e, 0, []) ∧ x = (.ret, ⟨52, [(0, sD s), (2, iD 0), (3, sD []), (4, iD e), (5, iD i)], []⟩)) ∨ ∃ n i, TakEnd s n i ∧ x = (.exit 0, takH s n i))
  (by
    rintro s ⟨n, i⟩ ⟨hl, ⟨hi0, hi8, hil⟩, ⟨hn0, hn1⟩, he⟩
    dsimp only at *
    rw [← vcTakN]
    refine condI (fun h => ?_) fun h => ?_
    · have e : i.toNat = s.length := by simp at h; omega
      refine .inl ⟨10, i, ?_, rfl⟩
      rw [he, e, List.drop_length]
      rfl
    · have hlt : i.toNat < s.length := by simp at h; omega
      have hb := (s.getD i.toNat 0).toNat_lt
      refine oblP ⟨hi0, by omega⟩ (condP (fun h2 => ?_) fun h2 => condI (fun h3 => ?_) fun h3 => oblP ⟨hi0, by omega⟩ ?_)
      · refine .inr ⟨n, i, ⟨⟨hi0, hi8, hlt⟩, ⟨hn0, hn1⟩, by omega, ?_⟩, rfl⟩
        rw [he, drop_getD hlt]
        simp only [takeG]
        rw [if_pos (by omega)]
        split
        · rfl
        · simp only [comb, if_true, Nat.mul_comm]
      · refine .inl ⟨11, i, ?_, rfl⟩
        have e8 : i = 8 := by simpa using h3
        rw [he, drop_getD hlt]
        simp only [takeG]
        rw [if_neg (by omega), if_pos (by omega)]
        rfl
      · have hne : i ≠ 8 := by simpa using h3
        have hp := pow7 (i := i.toNat) (by omega)
        have hp2 : 2 ^ (7 * (i.toNat + 1)) = 128 * 2 ^ (7 * i.toNat) := by rw [show 7 * (i.toNat + 1) = 7 * i.toNat + 7 by omega, Nat.pow_add]; omega
        have hp3 := pow7 (i := i.toNat + 1) (by omega)
        have hm : (s.getD i.toNat 0).toNat % 128 * 2 ^ (7 * i.toNat) ≤ 127 * 2 ^ (7 * i.toNat) := Nat.mul_le_mul_right _ (by omega)
        rw [and_byte, pow_min hi0 hi8]
        have ec : ((((s.getD i.toNat 0).toNat % 128 : Nat) : Int) * (2 : Int) ^ (7 * i.toNat)) = (((s.getD i.toNat 0).toNat % 128 * 2 ^ (7 * i.toNat) : Nat) : Int) := by simp
        refine oblP (by omega) (oblP (by omega) (oblP (by omega) (oblP (by rw [ec]; omega) (oblI (incI (by omega) (by omega)) ?_))))
        obtain ⟨m, rfl⟩ : ∃ m : Nat, n = m := ⟨n.toNat, by omega⟩
        simp only [Int.toNat_natCast] at hn1 he
        rw [orI hn1 (by omega)]
        refine ⟨_, ?_, (((m + (s.getD i.toNat 0).toNat % 128 * 2 ^ (7 * i.toNat) : Nat) : Int), i + 1), rfl, ⟨hl, ⟨by dsimp only; omega, by dsimp only; omega, by dsimp only; omega⟩, ⟨by dsimp only; omega, ?_⟩, ?_⟩, rfl⟩
        · dsimp only; omega
        · dsimp only
          rw [show (i + 1).toNat = i.toNat + 1 by omega, hp2, Int.toNat_natCast]
          omega
        · dsimp only
          rw [he, show (i + 1).toNat = i.toNat + 1 by omega, drop_getD hlt, Int.toNat_natCast]
          conv => lhs; unfold takeG
          rw [if_neg (by omega), if_neg (by omega)]
          have emod : (s.getD i.toNat 0).toNat % 128 = (s.getD i.toNat 0).toNat - 128 := by omega
          rw [emod]
          by_cases hz : (takeG (i.toNat + 1) (s.drop (i.toNat + 1))).1 = 0
          · rw [if_pos hz]
            unfold comb
            rw [if_pos rfl, if_pos hz, hp2]
            simp only [Prod.mk.injEq, true_and, and_true]
            rw [Nat.mul_add, Nat.add_assoc, Nat.mul_comm (2 ^ (7 * i.toNat)) ((s.getD i.toNat 0).toNat - 128), ← Nat.mul_assoc, Nat.mul_comm (2 ^ (7 * i.toNat)) 128]
          · rw [if_neg hz, comb_err hz, comb_err hz])
  (by
    rintro st post ⟨s, rfl, hl, h1, h2⟩
    refine ⟨s, (0, 0), rfl, ⟨hl, ⟨by decide, by decide, by simp⟩, ⟨by decide, by simp⟩, ?_⟩, ?_⟩
    · simp only [Int.toNat_zero, List.drop_zero, comb]
      split
      · rename_i h
        have : takeG 0 s = (0, (takeG 0 s).2.1, (takeG 0 s).2.2) := by rw [← h]
        rw [this]
        simp
      · rfl
    · rintro x (⟨e, i, h3, rfl⟩ | ⟨n, i, h3, rfl⟩)
      · exact h1 e i h3
      · exact h2 n i h3)
theorem okTake : FD X 27 hTake := FD.mk (H := []) (hk := [(2, loopHook (kpF 27 2) gTak)]) (by kernel_rfl) .nil (.cons loopTak .nil) (by
  intro ps R post hh
  obtain ⟨s, rfl, rfl, hs, hp⟩ := hh
  rw [← vcTake]
  refine ⟨s, rfl, hs, fun e i h => hp e 0 [] h, fun n i hE => ?_⟩
  obtain ⟨⟨hi0, hi8, hlt⟩, ⟨hn0, hn1⟩, hb, he⟩ := hE
  have hpw := pow7 (i := i.toNat) (by omega)
  have hm : (s.getD i.toNat 0).toNat * 2 ^ (7 * i.toNat) ≤ 127 * 2 ^ (7 * i.toNat) := Nat.mul_le_mul_right _ (by omega)
  have ec : (((s.getD i.toNat 0).toNat : Int) * (2 : Int) ^ (7 * i.toNat)) = (((s.getD i.toNat 0).toNat * 2 ^ (7 * i.toNat) : Nat) : Int) := by simp
  obtain ⟨m, rfl⟩ : ∃ m : Nat, n = m := ⟨n.toNat, by omega⟩
  simp only [Int.toNat_natCast] at hn1 he
  have fin : ¬ ((s.getD i.toNat 0).toNat = 0 ∧ 0 < i.toNat) → ∀ (Z : Prop), (post (.tup [iD ((m + (s.getD i.toNat 0).toNat * 2 ^ (7 * i.toNat) : Nat) : Int), sD (s.drop (i.toNat + 1)), iD 0], []) → Z) → Z := fun hno Z hZ =>
    hZ (hp 0 _ _ (by rw [he, if_neg hno]))
  rw [pow_min hi0 hi8]
  refine oblP ⟨hi0, by omega⟩ (condI (fun h0 => condP (fun h1 => ?_) fun h1 => ?_) fun h0 => ?_)
  · exact hp 11 0 [] (by rw [he, if_pos ⟨by simpa using h0, by omega⟩])
  all_goals
    refine fin (fun h => ?_) _ fun hpost => ?_
    · first
      | omega
      | (rw [h.1] at h0; simp at h0)
    · refine oblP ⟨hi0, by omega⟩ (oblP (by omega) (oblP (by omega) (oblP (by omega) (oblP (by rw [ec]; omega) (oblI (incI (by omega) (by omega)) (oblP (by omega) ?_))))))
      rw [orI hn1 (by omega), List.take_length, show (i + 1).toNat = i.toNat + 1 by omega]
      exact hpost)
/-- A text with its length ahead, at the head of a text. -/
def takeBG (s : List UInt8) : Int × List UInt8 × List UInt8 :=
  if (takeG 0 s).1 ≠ 0 then ((takeG 0 s).1, [], []) else if (takeG 0 s).2.2.length < (takeG 0 s).2.1 then (10, [], []) else (0, (takeG 0 s).2.2.take (takeG 0 s).2.1, (takeG 0 s).2.2.drop (takeG 0 s).2.1)
def hTakeB : KF1 := fun ps R post => ∃ s, ps = [sD s] ∧ R = [] ∧ s.length ≤ 2000000 ∧ ∀ e t r, takeBG s = (e, t, r) → post (.tup [sD t, sD r, iD e], [])
theorem okTakeB : FD X 44 hTakeB := FD.mk (H := [(27, hTake)]) (hk := []) (by kernel_rfl) (.cons okTake .nil) .nil (by
  intro ps R post hh
  obtain ⟨s, rfl, rfl, hs, hp⟩ := hh
  rw [← vcTakeB]
  refine ⟨s, rfl, rfl, hs, fun e n r he => condN (fun h => ?_) fun h => condP (fun h2 => ?_) fun h2 => ?_⟩
  · exact hp _ _ _ (by unfold takeBG; rw [if_pos (by rw [he]; exact h)]; rw [he])
  · exact hp _ _ _ (by unfold takeBG; rw [if_neg (by rw [he]; simpa using h), if_pos (by rw [he]; dsimp only; omega)])
  · refine oblP (by omega) (oblP (by omega) ?_)
    rw [List.drop_zero, List.take_length]
    exact hp _ _ _ (by unfold takeBG; rw [if_neg (by rw [he]; simpa using h), if_neg (by rw [he]; dsimp only; omega), he]))
def hLen : KF1 := fun ps R post => ∃ s, ps = [sD s] ∧ R = [] ∧ s.length ≤ 2000000 ∧ ∀ n e, e = (if Lib.validD s = true then 0 else 60) → post (.tup [iD n, iD e], [])
theorem okValid : FD X 38 hValid := FD.ofX Tryz.func38 (by kernel_rfl) (by kernel_rfl) (by
  rintro ps R post ⟨s, rfl, rfl, hs, hp⟩
  exact ⟨_, if_pos (by omega), hp⟩)
theorem okCount : FD X 39 hCount := FD.ofX Tryz.func39 (by kernel_rfl) (by kernel_rfl) (by
  rintro ps R post ⟨s, rfl, rfl, hs, hp⟩
  exact ⟨_, if_pos (by omega), hp⟩)
theorem okLen : FD X 21 hLen := FD.mk (H := [(38, hValid), (39, hCount)]) (hk := []) (by kernel_rfl) (.cons okValid (.cons okCount .nil)) .nil (by
  intro ps R post hh
  obtain ⟨s, rfl, rfl, hs, hp⟩ := hh
  rw [← vcLen]
  refine ⟨s, rfl, rfl, hs, condI (fun h => ?_) fun h => ⟨s, rfl, rfl, hs, ?_⟩⟩
  · exact hp _ _ (by rw [if_neg (by simpa using h)])
  · exact hp _ _ (by rw [if_pos (by simpa using h)]))
end
end Pi

/- Archive: Check: what its runs ask. -/
namespace Pi
open Go Go.Proofs
set_option maxRecDepth 100000
set_option maxHeartbeats 0
abbrev En3 := List UInt8 × Bool × List UInt8
def enD (e : En3) : D := .agg [.str e.1, .bool e.2.1, .str e.2.2]
abbrev esP (l : List En3) : P := .d (.sl 3 (l.map enD))
def hLastI : KF1 := fun ps R post => ∃ s c, ps = [sD s, sD c] ∧ R = [] ∧ s.length ≤ 2000000 ∧ post (iD (Lib.lastIndex s c), [])
abbrev chH (l : List En3) (get : D → Option D) (n : Nat) (last : List UInt8) (m k : Int) : S := ⟨87, [(3, .mp 0 0), (4, sD last), (17, esP l), (18, iD m), (19, iD k)], [(0, ⟨0, none, .map 9 get n false⟩)]⟩
def dirAt (l : List En3) (k : Nat) (p : List UInt8) : Bool := p == [] || (l.take k).any (fun e => e.2.1 && e.1 == p)
def lastAt (l : List En3) (k : Nat) : List UInt8 := if k = 0 then [] else (l.getD (k - 1) ([], false, [])).1
def upP (p : List UInt8) : List UInt8 := p.take (max 0 (Lib.lastIndex p [47])).toNat
def entOk (l : List En3) (i : Nat) (e : En3) : Bool :=
  (splitP e.1).1 == 0 && Lib.validD e.2.2 && !((splitP e.1).2 == []) && dirAt l i (upP e.1) && !(Op.bytesLess e.1 (lastAt l i) || e.1 == lastAt l i) && (!e.2.1 || e.2.2 == [])
def ChkL (l : List En3) : Prop := ∀ i, i < l.length → entOk l i (l.getD i ([], false, [])) = true
def SmE (l : List En3) : Prop := l.length ≤ 2000000 ∧ ∀ e ∈ l, e.1.length ≤ 2000000 ∧ e.2.2.length ≤ 2000000
def GetI (get : D → Option D) (f : List UInt8 → Bool) : Prop := ∀ p, (get (.str p)).isSome = f p ∧ getO (get (.str p)) (.agg []) = .agg []
def gCh : S → K (PX × S) := fun s post => ∃ l get n last m k, s = chH l get n last m k ∧ ((k = 0 ∧ last = [] ∧ m = (l.map enD).length ∧ SmE l) ∧ GetI get fun p => p == []) ∧ (¬ ChkL l → post (.ret, ⟨87, [(2, iD 80)], []⟩)) ∧ (ChkL l → post (.exit 0, ⟨87, [], []⟩))
def hCheck : KF1 := fun ps R post => ∃ l, ps = [esP l] ∧ R = [] ∧ SmE l ∧ ∀ e, ((ChkL l → e = 0) ∧ (¬ ChkL l → e = 80)) → post (iD e, [])
theorem vcCheck (l : List En3) (post : P × List (Nat × En) → Prop) : (∃ (l_1 : List En3), ∃ (get : D → Option D), ∃ (n : Nat), ∃ (last : List UInt8), ∃ (m : Int), ∃ (k : Int), S.mk 87 [(3, P.mp 0 0), (4, P.d (D.str [])), (17, P.d (D.sl 3 (List.map enD l))), (18, P.d (D.int IntKind.i64 (↑(List.length (List.map enD l)) : Int))), (19, P.d (D.int IntKind.i64 (0 : Int)))] [(0, En.mk 0 none (Obj.map 9 (fun (k' : D) => bif D.eqB (D.str (Array.toList (ByteArray.data (ByteArray.mk #[])))) k' then some (D.agg []) else (fun (x : D) => none) k') 1 false))] = S.mk 87 [(3, P.mp 0 0), (4, P.d (D.str last)), (17, P.d (D.sl 3 (List.map enD l_1))), (18, P.d (D.int IntKind.i64 m)), (19, P.d (D.int IntKind.i64 k))] [(0, En.mk 0 none (Obj.map 9 get n false))] ∧ ((k = (0 : Int) ∧ last = [] ∧ m = (↑(List.length (List.map enD l_1)) : Int) ∧ SmE l_1) ∧ GetI get fun (p : List UInt8) => p == []) ∧ (¬ChkL l_1 → post (P.d (D.int IntKind.i64 (80 : Int)), [])) ∧ (ChkL l_1 → post (P.d (D.int IntKind.i64 (0 : Int)), []))) = (bodyF [] [(3, loopHook (kpF 9 3) gCh)] 9 [esP l] []) post := by kernel_rfl
theorem vcChN (l : List En3) (get : D → Option D) (n : Nat) (last : List UInt8) (m k : Int) (post : PX × S → Prop) : (bif decide (k < m) then bif decide ((0 : Int) ≤ k ∧ k < (↑(List.length (List.map enD l)) : Int)) then bif isD PR 34 (D.nth (List.map enD l) (Int.toNat k)) then ∃ (s : List UInt8), [P.d (D.str (D.sVal (D.cAt (D.nth (List.map enD l) (Int.toNat k)) 0)))] = [P.d (D.str s)] ∧ EqR [] [] ∧ List.length s ≤ 2000000 ∧ ∀ (n_1 : Nat) (e : Int) (l_1 : List (List UInt8)), splitP s = (e, l_1) → n_1 = List.length l_1 → ∃ (s : List UInt8), [P.d (D.str (D.sVal (D.cAt (D.nth (List.map enD l) (Int.toNat k)) 2)))] = [P.d (D.str s)] ∧ EqR [] [] ∧ List.length s ≤ 2000000 ∧ ∀ (n_2 e_1 : Int), (e_1 = if Lib.validD s = true then (0 : Int) else (60 : Int)) → ∃ (s : List UInt8), ∃ (c : List UInt8), [P.d (D.str (D.sVal (D.cAt (D.nth (List.map enD l) (Int.toNat k)) 0))), P.d (D.str [(47 : UInt8)])] = [P.d (D.str s), P.d (D.str c)] ∧ EqR [] [] ∧ List.length s ≤ 2000000 ∧ bif decide ((0 : Int) ≤ max (0 : Int) (Lib.lastIndex s c) ∧ max (0 : Int) (Lib.lastIndex s c) ≤ (↑(List.length (D.sVal (D.cAt (D.nth (List.map enD l) (Int.toNat k)) 0))) : Int)) then bif isD PR 48 (getO (get (D.str (List.drop 0 (List.take (Int.toNat (max (0 : Int) (Lib.lastIndex s c))) (D.sVal (D.cAt (D.nth (List.map enD l) (Int.toNat k)) 0)))))) (D.agg [])) then bif e != (0 : Int) then post (PX.ret, S.mk 87 [(2, P.d (D.int IntKind.i64 (80 : Int)))] []) else bif e_1 != (0 : Int) then post (PX.ret, S.mk 87 [(2, P.d (D.int IntKind.i64 (80 : Int)))] []) else bif (↑n_1 : Int) == (0 : Int) then post (PX.ret, S.mk 87 [(2, P.d (D.int IntKind.i64 (80 : Int)))] []) else bif !Option.isSome (get (D.str (List.drop 0 (List.take (Int.toNat (max (0 : Int) (Lib.lastIndex s c))) (D.sVal (D.cAt (D.nth (List.map enD l) (Int.toNat k)) 0)))))) then post (PX.ret, S.mk 87 [(2, P.d (D.int IntKind.i64 (80 : Int)))] []) else bif Op.bytesLess (D.sVal (D.cAt (D.nth (List.map enD l) (Int.toNat k)) 0)) last || D.sVal (D.cAt (D.nth (List.map enD l) (Int.toNat k)) 0) == last then post (PX.ret, S.mk 87 [(2, P.d (D.int IntKind.i64 (80 : Int)))] []) else bif D.bVal (D.cAt (D.nth (List.map enD l) (Int.toNat k)) 1) then bif !D.sVal (D.cAt (D.nth (List.map enD l) (Int.toNat k)) 2) == [] then post (PX.ret, S.mk 87 [(2, P.d (D.int IntKind.i64 (80 : Int)))] []) else bif D.bVal (D.cAt (D.nth (List.map enD l) (Int.toNat k)) 1) then bif decide ((-9223372036854775808 : Int) ≤ k + (1 : Int) ∧ k + (1 : Int) ≤ (9223372036854775807 : Int)) then post (PX.normal, S.mk 87 [(3, P.mp 0 0), (4, P.d (D.str (D.sVal (D.cAt (D.nth (List.map enD l) (Int.toNat k)) 0)))), (17, P.d (D.sl 3 (List.map enD l))), (18, P.d (D.int IntKind.i64 m)), (19, P.d (D.int IntKind.i64 (k + (1 : Int))))] [(0, En.mk 0 none (Obj.map 9 (fun (k' : D) => bif D.eqB (D.str (D.sVal (D.cAt (D.nth (List.map enD l) (Int.toNat k)) 0))) k' then some (D.agg []) else get k') (bif Option.isSome (get (D.str (D.sVal (D.cAt (D.nth (List.map enD l) (Int.toNat k)) 0)))) then n else n + 1) false))]) else False else bif decide ((-9223372036854775808 : Int) ≤ k + (1 : Int) ∧ k + (1 : Int) ≤ (9223372036854775807 : Int)) then post (PX.normal, S.mk 87 [(3, P.mp 0 0), (4, P.d (D.str (D.sVal (D.cAt (D.nth (List.map enD l) (Int.toNat k)) 0)))), (17, P.d (D.sl 3 (List.map enD l))), (18, P.d (D.int IntKind.i64 m)), (19, P.d (D.int IntKind.i64 (k + (1 : Int))))] [(0, En.mk 0 none (Obj.map 9 get n false))]) else False else bif D.bVal (D.cAt (D.nth (List.map enD l) (Int.toNat k)) 1) then bif decide ((-9223372036854775808 : Int) ≤ k + (1 : Int) ∧ k + (1 : Int) ≤ (9223372036854775807 : Int)) then post (PX.normal, S.mk 87 [(3, P.mp 0 0), (4, P.d (D.str (D.sVal (D.cAt (D.nth (List.map enD l) (Int.toNat k)) 0)))), (17, P.d (D.sl 3 (List.map enD l))), (18, P.d (D.int IntKind.i64 m)), (19, P.d (D.int IntKind.i64 (k + (1 : Int))))] [(0, En.mk 0 none (Obj.map 9 (fun (k' : D) => bif D.eqB (D.str (D.sVal (D.cAt (D.nth (List.map enD l) (Int.toNat k)) 0))) k' then some (D.agg []) else get k') (bif Option.isSome (get (D.str (D.sVal (D.cAt (D.nth (List.map enD l) (Int.toNat k)) 0)))) then n else n + 1) false))]) else False else bif decide ((-9223372036854775808 : Int) ≤ k + (1 : Int) ∧ k + (1 : Int) ≤ (9223372036854775807 : Int)) then post (PX.normal, S.mk 87 [(3, P.mp 0 0), (4, P.d (D.str (D.sVal (D.cAt (D.nth (List.map enD l) (Int.toNat k)) 0)))), (17, P.d (D.sl 3 (List.map enD l))), (18, P.d (D.int IntKind.i64 m)), (19, P.d (D.int IntKind.i64 (k + (1 : Int))))] [(0, En.mk 0 none (Obj.map 9 get n false))]) else False else False else False else False else False else post (PX.exit 0, S.mk 87 [] [])) = (roundL [(20, hSplitP), (21, hLen), (22, hLastI)] [] 9 3 (chH l get n last m k)) post := by kernel_rfl
end Pi

/- Archive: Check. -/
namespace Pi
open Go Go.Proofs
set_option maxRecDepth 100000
theorem en_nth {l : List En3} {i : Nat} (h : i < l.length) : D.nth (l.map enD) i = enD (l.getD i ([], false, [])) := by
  rw [nth_map enD l i h]
  simp [List.getD_eq_getElem?_getD, h]
theorem isDe (e : En3) : isD PR 34 (enD e) = true := by
  obtain ⟨a, b, c⟩ := e
  kernel_rfl
theorem isDu : isD PR 48 (.agg []) = true := by kernel_rfl
theorem last_le (s : List UInt8) : Lib.lastIndex s [47] ≤ s.length := by
  unfold Lib.lastIndex
  split
  · rcases Lib.lastOcc_spec s [47] (s.length - [(47 : UInt8)].length + 1) with ⟨h, _⟩ | ⟨i, h1, h2, _⟩
    · rw [h]; omega
    · rename_i h3
      rw [h2]
      simp at h1 h3
      omega
  · omega
theorem eqB_str (a b : List UInt8) : D.eqB (.str a) (.str b) = (a == b) := rfl
theorem dirAt_succ {l : List En3} {k : Nat} (h : k < l.length) (p : List UInt8) : dirAt l (k + 1) p = (dirAt l k p || ((l.getD k ([], false, [])).2.1 && (l.getD k ([], false, [])).1 == p)) := by
  unfold dirAt
  rw [List.take_add_one, List.getElem?_eq_getElem h, List.any_append]
  simp only [List.getD_eq_getElem?_getD, List.getElem?_eq_getElem h, Option.getD_some, Option.toList_some, List.any_cons, List.any_nil, Bool.or_false, Bool.or_assoc]
theorem lastAt_succ (l : List En3) (k : Nat) : lastAt l (k + 1) = (l.getD k ([], false, [])).1 := by simp [lastAt]
theorem splitP_err {s : List UInt8} {e : Int} {l : List (List UInt8)} (h : splitP s = (e, l)) (he : e ≠ 0) : l = [] := by
  cases s with
  | nil => cases h; rfl
  | cons b r =>
    by_cases hb : b = 47
    · subst hb
      rw [splitP_cons] at h
      split at h
      · cases h; rfl
      · split at h
        · split at h
          · cases h; rfl
          · cases h; exact absurd rfl he
        · cases h; rfl
    · rw [splitP_no (fun r' e' => by cases e'; exact hb rfl)] at h
      cases h
      rfl
section
variable {X : XF}
theorem okLastI : FD X 22 hLastI := FD.ofX Tryz.func22 (by kernel_rfl) (by kernel_rfl) (by
  rintro ps R post ⟨s, c, rfl, rfl, hs, hp⟩
  exact ⟨_, if_pos (by omega), hp⟩)
theorem loopCh : LD X 9 3 (loopHook (kpF 9 3) gCh) := LD.par (H := [(20, hSplitP), (21, hLen), (22, hLastI)]) (hk := []) (by kernel_rfl) (by kernel_rfl) (.cons okSplitP (.cons okLen (.cons okLastI .nil))) .nil
  (A := List En3 × Int) (B := (D → Option D) × Nat × List UInt8 × Int) (fun a b => chH a.1 b.1 b.2.1 b.2.2.1 a.2 b.2.2.2)
  (fun a b => (a.2 = a.1.length ∧ SmE a.1) ∧ (0 ≤ b.2.2.2 ∧ b.2.2.2.toNat ≤ a.1.length) ∧ GetI b.1 (dirAt a.1 b.2.2.2.toNat) ∧ b.2.2.1 = lastAt a.1 b.2.2.2.toNat ∧ ∀ i, i < b.2.2.2.toNat → entOk a.1 i (a.1.getD i ([], false, [])) = true)
  (fun a b => (a.1.length - b.2.2.2).toNat)
  (fun a x => (ChkL a.1 ∧ x = (.exit 0, ⟨87, [], []⟩)) ∨ (¬ ChkL a.1 ∧ x = (.ret, ⟨87, [(2, iD 80)], []⟩)))
  (by
    rintro ⟨l, m⟩ ⟨get, n, last, k⟩ ⟨⟨hm, hS⟩, ⟨hk0, hkl⟩, hG, hlast, hall⟩
    dsimp only at *
    rw [← vcChN]
    simp only [List.length_map]
    refine condP (fun h => ?_) fun h => ?_
    · have hk : k.toNat < l.length := by omega
      rw [en_nth hk]
      have hmem : l.getD k.toNat ([], false, []) ∈ l := by simp [List.getD_eq_getElem?_getD, hk]
      have hds := dirAt_succ hk
      have hls := lastAt_succ l k.toNat
      have hinc : (k + 1).toNat = k.toNat + 1 := by omega
      have hall2 : entOk l k.toNat (l.getD k.toNat ([], false, [])) = true → ∀ i, i < k.toNat + 1 → entOk l i (l.getD i ([], false, [])) = true := fun h1 i hi => by
        by_cases hik : i = k.toNat
        · rw [hik]; exact h1
        · exact hall i (by omega)
      have hbad : entOk l k.toNat (l.getD k.toNat ([], false, [])) = false → ¬ ChkL l := fun h1 hc => by
        have := hc k.toNat hk
        rw [h1] at this
        cases this
      obtain ⟨hs1, hs2⟩ := hS.2 _ hmem
      have hS1 := hS.1
      generalize l.getD k.toNat ([], false, []) = e at hmem hds hls hall2 hbad hs1 hs2
      have v0 : D.sVal (D.cAt (enD e) 0) = e.1 := rfl
      have v1 : D.bVal (D.cAt (enD e) 1) = e.2.1 := rfl
      have v2 : D.sVal (D.cAt (enD e) 2) = e.2.2 := rfl
      rw [v0, v1, v2]
      have hli : max 0 (Lib.lastIndex e.1 [47]) ≤ (e.1.length : Int) := by
        have := last_le e.1
        omega
      refine oblP ⟨hk0, by omega⟩ (oblI (isDe e) ⟨_, rfl, rfl, hs1, fun n1 er names hsp hn1 => ⟨_, rfl, rfl, hs2, fun n2 e1 he1 => ⟨_, _, rfl, rfl, hs1, oblP ⟨by omega, hli⟩ ?_⟩⟩⟩)
      have hup : List.drop 0 (List.take (Int.toNat (max 0 (Lib.lastIndex e.1 [47]))) e.1) = upP e.1 := rfl
      rw [hup]
      obtain ⟨g1, g2⟩ := hG (upP e.1)
      have hg2 : (match get (D.str (upP e.1)) with | some x => x | none => D.agg []) = .agg [] := by
        rw [← g2]; cases get (D.str (upP e.1)) <;> rfl
      refine oblI (by rw [g2]; exact isDu) ?_
      have bad : entOk l k.toNat e = false → (¬ ChkL l ∧ (PX.ret, S.mk 87 [(2, iD 80)] []) = (PX.ret, S.mk 87 [(2, iD 80)] [])) := fun h1 => ⟨hbad h1, rfl⟩
      have hne0 : er ≠ 0 → (splitP e.1).1 ≠ 0 := fun h1 => by rw [hsp]; exact h1
      refine condN (fun h1 => .inr (bad ?_)) fun h1 => condN (fun h2 => .inr (bad ?_)) fun h2 => condI (fun h3 => .inr (bad ?_)) fun h3 => condI (fun h4 => .inr (bad ?_)) fun h4 => condI (fun h5 => .inr (bad ?_)) fun h5 => ?_
      · simp [entOk, hsp, h1]
      · have : Lib.validD e.2.2 = false := by
          cases hv : Lib.validD e.2.2 with
          | false => rfl
          | true => rw [hv] at he1; exact absurd he1 h2
        simp [entOk, this]
      · have : names = [] := by
          apply List.eq_nil_of_length_eq_zero
          simp at h3
          omega
        simp [entOk, hsp, this]
      · rw [g1] at h4
        simp at h4
        simp [entOk, h4]
      · rw [hlast] at h5
        simp only [entOk, h5]
        simp
      · have ok1 : (!e.2.1 || e.2.2 == []) = true → entOk l k.toNat e = true := fun h6 => by
          have hv : Lib.validD e.2.2 = true := by
            cases hv : Lib.validD e.2.2 with
            | true => rfl
            | false => rw [hv] at he1; simp at he1; omega
          have hnm : names ≠ [] := fun h7 => by subst h7; simp at hn1; subst hn1; simp at h3
          rw [g1] at h4
          rw [hlast] at h5
          simp only [entOk, hsp, h1, hv, h5, h6]
          simp at h4
          simp [h4, hnm]
        have step : ∀ (get' : D → Option D) (n' : Nat), entOk l k.toNat e = true → GetI get' (dirAt l (k.toNat + 1)) → ∃ m', m' < (l.length - k).toNat ∧ ∃ b' : (D → Option D) × Nat × List UInt8 × Int, chH l get' n' e.1 m (k + 1) = chH l b'.1 b'.2.1 b'.2.2.1 m b'.2.2.2 ∧
            ((m = l.length ∧ SmE l) ∧ (0 ≤ b'.2.2.2 ∧ b'.2.2.2.toNat ≤ l.length) ∧ GetI b'.1 (dirAt l b'.2.2.2.toNat) ∧ b'.2.2.1 = lastAt l b'.2.2.2.toNat ∧ ∀ i, i < b'.2.2.2.toNat → entOk l i (l.getD i ([], false, [])) = true) ∧ m' = (l.length - b'.2.2.2).toNat := fun get' n' h6 h7 =>
          ⟨_, (by dsimp only; omega), (get', n', e.1, k + 1), rfl, ⟨⟨hm, hS⟩, ⟨by dsimp only; omega, by dsimp only; omega⟩, by dsimp only; rw [hinc]; exact h7, by dsimp only; rw [hinc, hls], by dsimp only; rw [hinc]; exact hall2 h6⟩, rfl⟩
        have hdir : e.2.1 = true → GetI (fun (k' : D) => bif D.eqB (D.str e.1) k' then some (D.agg []) else get k') (dirAt l (k.toNat + 1)) := fun h6 p => by
          obtain ⟨q1, q2⟩ := hG p
          rw [hds, h6]
          simp only [eqB_str, Bool.true_and]
          cases hp : e.1 == p with
          | true => simp [getO]
          | false => simp [q1]; exact q2
        have hfile : e.2.1 = false → GetI get (dirAt l (k.toNat + 1)) := fun h6 p => by
          obtain ⟨q1, q2⟩ := hG p
          rw [hds, h6]
          simp [q1]
          exact q2
        refine condI (fun h6 => condI (fun h7 => .inr (bad ?_)) fun h7 => condI (fun h8 => oblI (incI (by omega) (by omega)) (step _ _ (ok1 ?_) (hdir h6))) fun h8 => ?_) fun h6 => condI (fun h8 => ?_) fun h8 => oblI (incI (by omega) (by omega)) (step _ _ (ok1 ?_) (hfile h6))
        · simp only [entOk, h6]
          simp at h7
          simp [h7]
        · simp at h7
          simp [h7]
        · rw [h6] at h8; cases h8
        · rw [h6] at h8; cases h8
        · simp [h6]
    · refine .inl ⟨fun i hi => hall i (by omega), rfl⟩)
  (by
    rintro st post ⟨l, get, n, last, m, k, rfl, ⟨⟨rfl, rfl, hm, hS⟩, hG⟩, h1, h2⟩
    refine ⟨(l, m), (get, n, [], 0), rfl, ⟨⟨by simpa using hm, hS⟩, ⟨Int.le_refl 0, by simp⟩, fun p => ?_, rfl, fun i hi => by simp at hi⟩, ?_⟩
    · have := hG p
      simpa [dirAt] using this
    · rintro x (⟨h3, rfl⟩ | ⟨h3, rfl⟩)
      · exact h2 h3
      · exact h1 h3)
theorem okCheck : FD X 9 hCheck := FD.mk (H := []) (hk := [(3, loopHook (kpF 9 3) gCh)]) (by kernel_rfl) .nil (.cons loopCh .nil) (by
  intro ps R post hh
  obtain ⟨l, rfl, rfl, hS, hp⟩ := hh
  rw [← vcCheck]
  refine ⟨l, _, 1, [], _, 0, rfl, ⟨⟨rfl, rfl, rfl, hS⟩, fun p => ?_⟩, fun h => hp 80 ⟨fun h' => absurd h' h, fun _ => rfl⟩, fun h => hp 0 ⟨fun _ => rfl, fun h' => absurd h h'⟩⟩
  simp only [eqB_str]
  cases p with
  | nil => exact ⟨rfl, rfl⟩
  | cons b r => exact ⟨rfl, rfl⟩)
end
end Pi

/- Archive: the builder, Encode: what its runs ask. -/
namespace Pi
open Go Go.Proofs
set_option maxRecDepth 100000
set_option maxHeartbeats 0
abbrev bO (t0 t1 : Option Nat) (p : P) (c : List UInt8) : List (Nat × En) := [(0, ⟨0, t0, .box 38 [p, .sl 1 0 c.length]⟩), (1, ⟨0, t1, u8R c⟩)]
abbrev bN : P := .d .nilp
abbrev bS : P := .ref 0 0 0
def hCC : KF1 := fun ps R post => ∃ p c, ps = [bS] ∧ R = bO (some 0) (some 1) p c ∧ (p = bN ∨ p = bS) ∧ post (.tup [], bO (some 0) (some 1) bS c)
def hWS : KF1 := fun ps R post => ∃ p c s, ps = [bS, sD s] ∧ R = bO (some 0) (some 1) p c ∧ (p = bN ∨ p = bS) ∧ (c.length ≤ 100000000 ∧ s.length ≤ 100000000) ∧ ∀ c' n, c' = c ++ s → post (.tup [iD n, .d .nili], bO (some 0) none bS c')
def hWB : KF1 := fun ps R post => ∃ p c b, ps = [bS, .d (.int .u8 b)] ∧ R = bO (some 0) (some 1) p c ∧ (p = bN ∨ p = bS) ∧ (c.length ≤ 100000000 ∧ 0 ≤ b ∧ b < 256) ∧ ∀ c', c' = c ++ [UInt8.ofNat b.toNat] → post (.d .nili, bO (some 0) none bS c')
def hStr : KF1 := fun ps R post => ∃ c, ps = [bS] ∧ R = bO (some 0) (some 1) bS c ∧ c ≠ [] ∧ post (sD c, [(0, ⟨0, some 0, .box 38 [bS, .sl 1 0 c.length]⟩), (1, ⟨0, some 1, .gone⟩)])
theorem vcWS0 (c s : List UInt8) (post : P × List (Nat × En) → Prop) : (∃ (p : P), ∃ (c_1 : List UInt8), [P.ref 0 0 0] = [P.ref 0 0 0] ∧ [(0, En.mk 0 (some 0) (Obj.box 38 [P.d D.nilp, P.sl 1 0 (List.length c)])), (1, En.mk 0 (some 1) (Obj.arr 5 false (List.map bD c)))] = [(0, En.mk 0 (some 0) (Obj.box 38 [p, P.sl 1 0 (List.length c_1)])), (1, En.mk 0 (some 1) (Obj.arr 5 false (List.map bD c_1)))] ∧ (p = bN ∨ p = bS) ∧ bif Nat.ble (List.length c_1) (List.length (List.map bD c_1)) && roomOk (List.length c_1 + List.length (List.map bD s)) 1 then post (P.tup [P.d (D.int IntKind.i64 (↑(List.length s) : Int)), P.d D.nili], [(0, En.mk 0 (some 0) (Obj.box 38 [P.ref 0 0 0, P.sl 1 0 (List.length c_1 + List.length (List.map bD s))])), (1, En.mk 0 none (Obj.arr 5 false (List.take (List.length c_1) (List.map bD c_1) ++ List.map bD s)))]) else False) = (bodyF [(32, hCC)] [] 15 [bS, sD s] (bO (some 0) (some 1) bN c)) post := by kernel_rfl
theorem vcWS1 (c s : List UInt8) (post : P × List (Nat × En) → Prop) : (∃ (p : P), ∃ (c_1 : List UInt8), [P.ref 0 0 0] = [P.ref 0 0 0] ∧ [(0, En.mk 0 (some 0) (Obj.box 38 [P.ref 0 0 0, P.sl 1 0 (List.length c)])), (1, En.mk 0 (some 1) (Obj.arr 5 false (List.map bD c)))] = [(0, En.mk 0 (some 0) (Obj.box 38 [p, P.sl 1 0 (List.length c_1)])), (1, En.mk 0 (some 1) (Obj.arr 5 false (List.map bD c_1)))] ∧ (p = bN ∨ p = bS) ∧ bif Nat.ble (List.length c_1) (List.length (List.map bD c_1)) && roomOk (List.length c_1 + List.length (List.map bD s)) 1 then post (P.tup [P.d (D.int IntKind.i64 (↑(List.length s) : Int)), P.d D.nili], [(0, En.mk 0 (some 0) (Obj.box 38 [P.ref 0 0 0, P.sl 1 0 (List.length c_1 + List.length (List.map bD s))])), (1, En.mk 0 none (Obj.arr 5 false (List.take (List.length c_1) (List.map bD c_1) ++ List.map bD s)))]) else False) = (bodyF [(32, hCC)] [] 15 [bS, sD s] (bO (some 0) (some 1) bS c)) post := by kernel_rfl
theorem vcWB0 (c : List UInt8) (b : Int) (post : P × List (Nat × En) → Prop) : (∃ (p : P), ∃ (c_1 : List UInt8), [P.ref 0 0 0] = [P.ref 0 0 0] ∧ [(0, En.mk 0 (some 0) (Obj.box 38 [P.d D.nilp, P.sl 1 0 (List.length c)])), (1, En.mk 0 (some 1) (Obj.arr 5 false (List.map bD c)))] = [(0, En.mk 0 (some 0) (Obj.box 38 [p, P.sl 1 0 (List.length c_1)])), (1, En.mk 0 (some 1) (Obj.arr 5 false (List.map bD c_1)))] ∧ (p = bN ∨ p = bS) ∧ bif Nat.ble (List.length c_1) (List.length (List.map bD c_1)) && roomOk (List.length c_1 + List.length [D.int IntKind.u8 b]) 1 then post (P.d D.nili, [(0, En.mk 0 (some 0) (Obj.box 38 [P.ref 0 0 0, P.sl 1 0 (List.length c_1 + List.length [D.int IntKind.u8 b])])), (1, En.mk 0 none (Obj.arr 5 false (List.take (List.length c_1) (List.map bD c_1) ++ [D.int IntKind.u8 b])))]) else False) = (bodyF [(32, hCC)] [] 17 [bS, .d (.int .u8 b)] (bO (some 0) (some 1) bN c)) post := by kernel_rfl
theorem vcWB1 (c : List UInt8) (b : Int) (post : P × List (Nat × En) → Prop) : (∃ (p : P), ∃ (c_1 : List UInt8), [P.ref 0 0 0] = [P.ref 0 0 0] ∧ [(0, En.mk 0 (some 0) (Obj.box 38 [P.ref 0 0 0, P.sl 1 0 (List.length c)])), (1, En.mk 0 (some 1) (Obj.arr 5 false (List.map bD c)))] = [(0, En.mk 0 (some 0) (Obj.box 38 [p, P.sl 1 0 (List.length c_1)])), (1, En.mk 0 (some 1) (Obj.arr 5 false (List.map bD c_1)))] ∧ (p = bN ∨ p = bS) ∧ bif Nat.ble (List.length c_1) (List.length (List.map bD c_1)) && roomOk (List.length c_1 + List.length [D.int IntKind.u8 b]) 1 then post (P.d D.nili, [(0, En.mk 0 (some 0) (Obj.box 38 [P.ref 0 0 0, P.sl 1 0 (List.length c_1 + List.length [D.int IntKind.u8 b])])), (1, En.mk 0 none (Obj.arr 5 false (List.take (List.length c_1) (List.map bD c_1) ++ [D.int IntKind.u8 b])))]) else False) = (bodyF [(32, hCC)] [] 17 [bS, .d (.int .u8 b)] (bO (some 0) (some 1) bS c)) post := by kernel_rfl
def encE (e : En3) : List UInt8 := natW e.1.length ++ e.1 ++ (if e.2.1 = true then [1] else 0 :: (natW e.2.2.length ++ e.2.2))
def SmX (l : List En3) : Prop := l.length ≤ 2000 ∧ ∀ e ∈ l, e.1.length ≤ 10000 ∧ e.2.2.length ≤ 10000
abbrev encH (l : List En3) (c : List UInt8) (m k : Int) : S := ⟨43, [(5, bS), (23, esP l), (24, iD m), (25, iD k)], bO none none bS c⟩
def gEnc : S → K (PX × S) := fun s post => ∃ l c m k, s = encH l c m k ∧ (k = 0 ∧ m = (l.map enD).length ∧ SmX l ∧ c.length ≤ 100) ∧ ∀ c', c' = c ++ l.flatMap encE → post (.exit 0, ⟨43, [(5, bS)], bO none none bS c'⟩)
def hEnc : KF1 := fun ps R post => ∃ l, ps = [esP l] ∧ R = [] ∧ SmX l ∧ ∀ s e, ((ChkL l → e = 0 ∧ s = natW l.length ++ l.flatMap encE) ∧ (¬ ChkL l → e = 80 ∧ s = [])) → post (.tup [sD s, iD e], [])
abbrev hsE : List (FuncId × KF1) := [(9, hCheck), (14, hNat), (15, hWS), (17, hWB), (16, hBytes), (18, hStr)]
theorem vcEncN (l : List En3) (c : List UInt8) (m k : Int) (post : PX × S → Prop) : (bif decide (k < m) then bif decide ((0 : Int) ≤ k ∧ k < (↑(List.length (List.map enD l)) : Int)) then bif isD PR 34 (D.nth (List.map enD l) (Int.toNat k)) then ∃ (s : List UInt8), [P.d (D.str (D.sVal (D.cAt (D.nth (List.map enD l) (Int.toNat k)) 0)))] = [P.d (D.str s)] ∧ EqR [] [] ∧ List.length s ≤ 2000000 ∧ ∃ (p : P), ∃ (c_1 : List UInt8), ∃ (s_1 : List UInt8), [P.ref 0 0 0, P.d (D.str (natW (List.length s) ++ s))] = [P.ref 0 0 0, P.d (D.str s_1)] ∧ [(0, En.mk 0 (some 0) (Obj.box 38 [P.ref 0 0 0, P.sl 1 0 (List.length c)])), (1, En.mk 0 (some 1) (Obj.arr 5 false (List.map bD c)))] = [(0, En.mk 0 (some 0) (Obj.box 38 [p, P.sl 1 0 (List.length c_1)])), (1, En.mk 0 (some 1) (Obj.arr 5 false (List.map bD c_1)))] ∧ (p = bN ∨ p = bS) ∧ (List.length c_1 ≤ 100000000 ∧ List.length s_1 ≤ 100000000) ∧ ∀ (c' : List UInt8) (n : Int), c' = c_1 ++ s_1 → bif D.bVal (D.cAt (D.nth (List.map enD l) (Int.toNat k)) 1) then ∃ (p : P), ∃ (c : List UInt8), ∃ (b : Int), [P.ref 0 0 0, P.d (D.int IntKind.u8 (1 : Int))] = [P.ref 0 0 0, P.d (D.int IntKind.u8 b)] ∧ [(0, En.mk 0 (some 0) (Obj.box 38 [P.ref 0 0 0, P.sl 1 0 (List.length c')])), (1, En.mk 0 (some 1) (Obj.arr 5 false (List.map bD c')))] = [(0, En.mk 0 (some 0) (Obj.box 38 [p, P.sl 1 0 (List.length c)])), (1, En.mk 0 (some 1) (Obj.arr 5 false (List.map bD c)))] ∧ (p = bN ∨ p = bS) ∧ (List.length c ≤ 100000000 ∧ (0 : Int) ≤ b ∧ b < (256 : Int)) ∧ ∀ (c' : List UInt8), c' = c ++ [UInt8.ofNat (Int.toNat b)] → bif decide ((-9223372036854775808 : Int) ≤ k + (1 : Int) ∧ k + (1 : Int) ≤ (9223372036854775807 : Int)) then post (PX.normal, S.mk 43 [(5, P.ref 0 0 0), (23, P.d (D.sl 3 (List.map enD l))), (24, P.d (D.int IntKind.i64 m)), (25, P.d (D.int IntKind.i64 (k + (1 : Int))))] [(0, En.mk 0 none (Obj.box 38 [P.ref 0 0 0, P.sl 1 0 (List.length c')])), (1, En.mk 0 none (Obj.arr 5 false (List.map bD c')))]) else False else ∃ (p : P), ∃ (c : List UInt8), ∃ (b : Int), [P.ref 0 0 0, P.d (D.int IntKind.u8 (0 : Int))] = [P.ref 0 0 0, P.d (D.int IntKind.u8 b)] ∧ [(0, En.mk 0 (some 0) (Obj.box 38 [P.ref 0 0 0, P.sl 1 0 (List.length c')])), (1, En.mk 0 (some 1) (Obj.arr 5 false (List.map bD c')))] = [(0, En.mk 0 (some 0) (Obj.box 38 [p, P.sl 1 0 (List.length c)])), (1, En.mk 0 (some 1) (Obj.arr 5 false (List.map bD c)))] ∧ (p = bN ∨ p = bS) ∧ (List.length c ≤ 100000000 ∧ (0 : Int) ≤ b ∧ b < (256 : Int)) ∧ ∀ (c' : List UInt8), c' = c ++ [UInt8.ofNat (Int.toNat b)] → ∃ (s : List UInt8), [P.d (D.str (D.sVal (D.cAt (D.nth (List.map enD l) (Int.toNat k)) 2)))] = [P.d (D.str s)] ∧ EqR [] [] ∧ List.length s ≤ 2000000 ∧ ∃ (p : P), ∃ (c : List UInt8), ∃ (s_2 : List UInt8), [P.ref 0 0 0, P.d (D.str (natW (List.length s) ++ s))] = [P.ref 0 0 0, P.d (D.str s_2)] ∧ [(0, En.mk 0 (some 0) (Obj.box 38 [P.ref 0 0 0, P.sl 1 0 (List.length c')])), (1, En.mk 0 (some 1) (Obj.arr 5 false (List.map bD c')))] = [(0, En.mk 0 (some 0) (Obj.box 38 [p, P.sl 1 0 (List.length c)])), (1, En.mk 0 (some 1) (Obj.arr 5 false (List.map bD c)))] ∧ (p = bN ∨ p = bS) ∧ (List.length c ≤ 100000000 ∧ List.length s_2 ≤ 100000000) ∧ ∀ (c' : List UInt8) (n : Int), c' = c ++ s_2 → bif decide ((-9223372036854775808 : Int) ≤ k + (1 : Int) ∧ k + (1 : Int) ≤ (9223372036854775807 : Int)) then post (PX.normal, S.mk 43 [(5, P.ref 0 0 0), (23, P.d (D.sl 3 (List.map enD l))), (24, P.d (D.int IntKind.i64 m)), (25, P.d (D.int IntKind.i64 (k + (1 : Int))))] [(0, En.mk 0 none (Obj.box 38 [P.ref 0 0 0, P.sl 1 0 (List.length c')])), (1, En.mk 0 none (Obj.arr 5 false (List.map bD c')))]) else False else False else False else post (PX.exit 0, S.mk 43 [(5, P.ref 0 0 0)] [(0, En.mk 0 none (Obj.box 38 [P.ref 0 0 0, P.sl 1 0 (List.length c)])), (1, En.mk 0 none (Obj.arr 5 false (List.map bD c)))])) = (roundL hsE [] 7 8 (encH l c m k)) post := by kernel_rfl
theorem vcEnc (l : List En3) (post : P × List (Nat × En) → Prop) : (∃ (l_1 : List En3), [P.d (D.sl 3 (List.map enD l))] = [P.d (D.sl 3 (List.map enD l_1))] ∧ EqR [] [] ∧ SmE l_1 ∧ ∀ (e : Int), (ChkL l_1 → e = (0 : Int)) ∧ (¬ChkL l_1 → e = (80 : Int)) → bif e != (0 : Int) then post (P.tup [P.d (D.str []), P.d (D.int IntKind.i64 e)], []) else ∃ (n : Int), [P.d (D.int IntKind.i64 (↑(List.length (List.map enD l)) : Int))] = [P.d (D.int IntKind.i64 n)] ∧ EqR [] [] ∧ ((0 : Int) ≤ n ∧ n < (9223372036854775808 : Int)) ∧ ∃ (p : P), ∃ (c : List UInt8), ∃ (s : List UInt8), [P.ref 0 0 0, P.d (D.str (natW (Int.toNat n)))] = [P.ref 0 0 0, P.d (D.str s)] ∧ [(0, En.mk 0 (some 0) (Obj.box 38 [P.d D.nilp, P.sl 1 0 0])), (1, En.mk 0 (some 1) (Obj.arr 5 false []))] = [(0, En.mk 0 (some 0) (Obj.box 38 [p, P.sl 1 0 (List.length c)])), (1, En.mk 0 (some 1) (Obj.arr 5 false (List.map bD c)))] ∧ (p = bN ∨ p = bS) ∧ (List.length c ≤ 100000000 ∧ List.length s ≤ 100000000) ∧ ∀ (c' : List UInt8) (n : Int), c' = c ++ s → ∃ (l_2 : List En3), ∃ (c : List UInt8), ∃ (m : Int), ∃ (k : Int), S.mk 43 [(5, P.ref 0 0 0), (23, P.d (D.sl 3 (List.map enD l))), (24, P.d (D.int IntKind.i64 (↑(List.length (List.map enD l)) : Int))), (25, P.d (D.int IntKind.i64 (0 : Int)))] [(0, En.mk 0 none (Obj.box 38 [P.ref 0 0 0, P.sl 1 0 (List.length c')])), (1, En.mk 0 none (Obj.arr 5 false (List.map bD c')))] = S.mk 43 [(5, P.ref 0 0 0), (23, P.d (D.sl 3 (List.map enD l_2))), (24, P.d (D.int IntKind.i64 m)), (25, P.d (D.int IntKind.i64 k))] [(0, En.mk 0 none (Obj.box 38 [P.ref 0 0 0, P.sl 1 0 (List.length c)])), (1, En.mk 0 none (Obj.arr 5 false (List.map bD c)))] ∧ (k = (0 : Int) ∧ m = (↑(List.length (List.map enD l_2)) : Int) ∧ SmX l_2 ∧ List.length c ≤ 100) ∧ ∀ (c' : List UInt8), c' = c ++ List.flatMap encE l_2 → ∃ (c : List UInt8), [P.ref 0 0 0] = [P.ref 0 0 0] ∧ [(0, En.mk 0 (some 0) (Obj.box 38 [P.ref 0 0 0, P.sl 1 0 (List.length c')])), (1, En.mk 0 (some 1) (Obj.arr 5 false (List.map bD c')))] = [(0, En.mk 0 (some 0) (Obj.box 38 [P.ref 0 0 0, P.sl 1 0 (List.length c)])), (1, En.mk 0 (some 1) (Obj.arr 5 false (List.map bD c)))] ∧ c ≠ [] ∧ post (P.tup [P.d (D.str c), P.d (D.int IntKind.i64 (0 : Int))], [])) = (bodyF hsE [(8, loopHook (kpF 7 8) gEnc)] 7 [esP l] []) post := by kernel_rfl
end Pi

/- Archive: the builder, Encode. -/
namespace Pi
open Go Go.Proofs
set_option maxRecDepth 100000
theorem row_app (c s : List UInt8) : List.take c.length (List.map bD c) ++ List.map bD s = List.map bD (c ++ s) := by
  rw [List.take_of_length_le (by simp), List.map_append]
theorem byteD {b : Int} (h0 : 0 ≤ b) (h1 : b < 256) : D.int .u8 b = bD (UInt8.ofNat b.toNat) := by
  simp only [bD, D.int.injEq, true_and]
  simp only [UInt8.toNat_ofNat']
  omega
section
variable {X : XF}
theorem okCC : FD X 32 hCC := FD.ofX Tryz.func32 (by kernel_rfl) (by kernel_rfl) (by
  rintro ps R post ⟨p, c, rfl, rfl, hpp, hp⟩
  rcases hpp with rfl | rfl
  · exact ⟨_, rfl, hp⟩
  · exact ⟨_, rfl, hp⟩)
theorem okStr : FD X 18 hStr := FD.ofX Tryz.func18 (by kernel_rfl) (by kernel_rfl) (by
  rintro ps R post ⟨c, rfl, rfl, hne, hp⟩
  refine ⟨_, ?_, hp⟩
  have hl : 0 < c.length := List.length_pos_iff.2 hne
  have e1 : u8s ((c.map bD).take c.length) = some c := by
    rw [List.take_of_length_le (by simp)]
    exact u8s_map c
  have e2 : (Nat.beq c.length c.length && Nat.blt 0 c.length) = true := by simp [Nat.blt_eq, hl]
  have e3 : xStr [.ref 0 0 0] (bO (some 0) (some 1) bS c) = (match u8s (List.take c.length (List.map bD c)) with
    | some l => if (Nat.beq l.length c.length && Nat.blt 0 c.length) = true then some (.d (.str l), [(0, ⟨0, some 0, .box 38 [bS, .sl 1 0 c.length]⟩), (1, ⟨0, some 1, .gone⟩)]) else none
    | none => none) := rfl
  show xStr [.ref 0 0 0] (bO (some 0) (some 1) bS c) = _
  rw [e3, e1]
  exact if_pos e2)
theorem okWS : FD X 15 hWS := FD.mk (H := [(32, hCC)]) (hk := []) (by kernel_rfl) (.cons okCC .nil) .nil (by
  intro ps R post hh
  obtain ⟨p, c, s, rfl, rfl, hpp, ⟨hc, hs⟩, hp⟩ := hh
  have hpost : ∀ n, post (.tup [iD n, .d .nili], [(0, ⟨0, some 0, .box 38 [bS, .sl 1 0 (c.length + (List.map bD s).length)]⟩), (1, ⟨0, none, .arr 5 false (List.take c.length (List.map bD c) ++ List.map bD s)⟩)]) := fun n => by
    rw [row_app, List.length_map]
    have := hp (c ++ s) n rfl
    simpa only [bO, u8R, List.length_append] using this
  rcases hpp with rfl | rfl
  · rw [← vcWS0]
    exact ⟨_, c, rfl, rfl, .inl rfl, oblI (roomI (by simp; omega) (by simp; omega) _ (by simp)) (hpost _)⟩
  · rw [← vcWS1]
    exact ⟨_, c, rfl, rfl, .inr rfl, oblI (roomI (by simp; omega) (by simp; omega) _ (by simp)) (hpost _)⟩)
theorem okWB : FD X 17 hWB := FD.mk (H := [(32, hCC)]) (hk := []) (by kernel_rfl) (.cons okCC .nil) .nil (by
  intro ps R post hh
  obtain ⟨p, c, b, rfl, rfl, hpp, ⟨hc, hb0, hb1⟩, hp⟩ := hh
  have hpost : post (.d .nili, [(0, ⟨0, some 0, .box 38 [bS, .sl 1 0 (c.length + [D.int .u8 b].length)]⟩), (1, ⟨0, none, .arr 5 false (List.take c.length (List.map bD c) ++ [D.int .u8 b])⟩)]) := by
    rw [byteD hb0 hb1]
    have e := row_app c [UInt8.ofNat b.toNat]
    simp only [List.map_cons, List.map_nil] at e
    rw [e]
    have := hp (c ++ [UInt8.ofNat b.toNat]) rfl
    simp only [bO, u8R, List.length_append, List.length_cons, List.length_nil] at this ⊢
    exact this
  rcases hpp with rfl | rfl
  · rw [← vcWB0]
    exact ⟨_, c, rfl, rfl, .inl rfl, oblI (roomI (by simp; omega) (by simp; omega) _ (by simp)) hpost⟩
  · rw [← vcWB1]
    exact ⟨_, c, rfl, rfl, .inr rfl, oblI (roomI (by simp; omega) (by simp; omega) _ (by simp)) hpost⟩)
theorem encE_len {e : En3} (h : e.1.length ≤ 10000 ∧ e.2.2.length ≤ 10000) : (encE e).length ≤ 20020 := by
  have h1 := natW9 (n := e.1.length) (by omega)
  have h2 := natW9 (n := e.2.2.length) (by omega)
  unfold encE
  split
  · simp; omega
  · simp; omega
theorem enc_len (l : List En3) (h : ∀ e ∈ l, e.1.length ≤ 10000 ∧ e.2.2.length ≤ 10000) : (l.flatMap encE).length ≤ l.length * 20020 := by
  induction l with
  | nil => simp
  | cons e l ih =>
    have h1 := encE_len (h e (by simp))
    have h2 := ih (fun x hx => h x (by simp [hx]))
    simp only [List.flatMap_cons, List.length_append, List.length_cons]
    omega
theorem take_flat {l : List En3} {k : Nat} (h : k < l.length) : (l.take (k + 1)).flatMap encE = (l.take k).flatMap encE ++ encE (l.getD k ([], false, [])) := by
  rw [List.take_add_one, List.getElem?_eq_getElem h, List.flatMap_append]
  simp [List.getD_eq_getElem?_getD, h]
theorem hsOK : HD X hsE := .cons okCheck (.cons okNat (.cons okWS (.cons okWB (.cons okBytes (.cons okStr .nil)))))
theorem loopEnc : LD X 7 8 (loopHook (kpF 7 8) gEnc) := LD.par (H := hsE) (hk := []) (by kernel_rfl) (by kernel_rfl) hsOK .nil
  (A := List En3 × Int × List UInt8) (B := List UInt8 × Int) (fun a b => encH a.1 b.1 a.2.1 b.2)
  (fun a b => (a.2.1 = a.1.length ∧ SmX a.1 ∧ a.2.2.length ≤ 100) ∧ (0 ≤ b.2 ∧ b.2.toNat ≤ a.1.length) ∧ b.1 = a.2.2 ++ (a.1.take b.2.toNat).flatMap encE)
  (fun a b => (a.1.length - b.2).toNat)
  (fun a x => x = (.exit 0, ⟨43, [(5, bS)], bO none none bS (a.2.2 ++ a.1.flatMap encE)⟩))
  (by
    rintro ⟨l, m, c0⟩ ⟨c, k⟩ ⟨⟨hm, hS, hc0⟩, ⟨hk0, hkl⟩, hc⟩
    dsimp only at *
    rw [← vcEncN]
    simp only [List.length_map]
    refine condP (fun h => ?_) fun h => ?_
    · have hk : k.toNat < l.length := by omega
      rw [en_nth hk]
      have htf := take_flat hk
      have hmem : l.getD k.toNat ([], false, []) ∈ l := by simp [List.getD_eq_getElem?_getD, hk]
      obtain ⟨hs1, hs2⟩ := hS.2 _ hmem
      have hel := enc_len (l.take k.toNat) (fun e he => hS.2 e (List.mem_of_mem_take he))
      have hcl : c.length ≤ 50000000 := by
        rw [hc, List.length_append]
        have := hS.1
        rw [List.length_take, Nat.min_eq_left (by omega)] at hel
        omega
      have hS1 := hS.1
      generalize l.getD k.toNat ([], false, []) = e at htf hs1 hs2
      have v0 : D.sVal (D.cAt (enD e) 0) = e.1 := rfl
      have v1 : D.bVal (D.cAt (enD e) 1) = e.2.1 := rfl
      have v2 : D.sVal (D.cAt (enD e) 2) = e.2.2 := rfl
      rw [v0, v1, v2]
      have n1 := natW9 (n := e.1.length) (by omega)
      have n2 := natW9 (n := e.2.2.length) (by omega)
      have step : ∀ c', c' = c ++ encE e → ∃ m', m' < (l.length - k).toNat ∧ ∃ b' : List UInt8 × Int, encH l c' m (k + 1) = encH l b'.1 m b'.2 ∧
          ((m = l.length ∧ SmX l ∧ c0.length ≤ 100) ∧ (0 ≤ b'.2 ∧ b'.2.toNat ≤ l.length) ∧ b'.1 = c0 ++ (l.take b'.2.toNat).flatMap encE) ∧ m' = (l.length - b'.2).toNat := fun c' hc' =>
        ⟨_, (by dsimp only; omega), (c', k + 1), rfl, ⟨⟨hm, hS, hc0⟩, ⟨by dsimp only; omega, by dsimp only; omega⟩, by dsimp only; rw [show (k + 1).toNat = k.toNat + 1 by omega, htf, hc', hc, List.append_assoc]⟩, rfl⟩
      refine oblP ⟨hk0, by omega⟩ (oblI (isDe e) ⟨_, rfl, rfl, by omega, _, c, _, rfl, rfl, .inr rfl, ⟨by omega, by simp; omega⟩, fun c1 _ h1 => condI (fun hd => ?_) fun hd => ?_⟩)
      · have l1 : c1.length ≤ 100000000 := by rw [h1]; simp; omega
        refine ⟨_, c1, 1, rfl, rfl, .inr rfl, ⟨l1, by decide, by decide⟩, fun c2 h2 => oblI (incI (by omega) (by omega)) (step c2 ?_)⟩
        rw [h2, h1, encE, if_pos hd]
        simp
      · have l1 : c1.length ≤ 60000000 := by rw [h1]; simp; omega
        refine ⟨_, c1, 0, rfl, rfl, .inr rfl, ⟨by omega, by decide, by decide⟩, fun c2 h2 => ⟨_, rfl, rfl, by omega, _, c2, _, rfl, rfl, .inr rfl, ⟨by rw [h2]; simp; omega, by simp; omega⟩, fun c3 _ h3 => oblI (incI (by omega) (by omega)) (step c3 ?_)⟩⟩
        rw [h3, h2, h1, encE, if_neg (by rw [hd]; simp)]
        simp
    · have : k.toNat = l.length := by omega
      rw [this, List.take_length] at hc
      subst hc
      rfl)
  (by
    rintro st post ⟨l, c, m, k, rfl, ⟨rfl, hm, hS, hc⟩, hp⟩
    refine ⟨(l, m, c), (c, 0), rfl, ⟨⟨by simpa using hm, hS, hc⟩, ⟨Int.le_refl 0, by simp⟩, by simp⟩, ?_⟩
    rintro x rfl
    exact hp _ rfl)
theorem SmX.e {l : List En3} (h : SmX l) : SmE l := ⟨by have := h.1; omega, fun e he => by have := h.2 e he; omega⟩
theorem okEnc : FD X 7 hEnc := FD.mk (H := hsE) (hk := [(8, loopHook (kpF 7 8) gEnc)]) (by kernel_rfl) hsOK (.cons loopEnc .nil) (by
  intro ps R post hh
  obtain ⟨l, rfl, rfl, hS, hp⟩ := hh
  have hS1 := hS.1
  rw [← vcEnc]
  refine ⟨l, rfl, rfl, hS.e, fun e he => condN (fun h => ?_) fun h => ?_⟩
  · have hno : ¬ ChkL l := fun hc => h (he.1 hc)
    exact hp [] e ⟨fun hc => absurd hc hno, fun hc => ⟨he.2 hc, rfl⟩⟩
  · have hyes : ChkL l := Classical.byContradiction fun hc => by rw [he.2 hc] at h; cases h
    have h9 := natW9 (n := l.length) (by omega)
    have hpos := natW_pos l.length
    refine ⟨_, rfl, rfl, ⟨by omega, by simp; omega⟩, bN, [], _, rfl, rfl, .inl rfl, ⟨by simp, by simp; omega⟩, fun c1 _ h1 => ⟨l, c1, _, 0, rfl, ⟨rfl, rfl, hS, by rw [h1]; simp; omega⟩, fun c2 h2 => ⟨c2, rfl, rfl, ?_, hp c2 0 ⟨fun _ => ⟨rfl, ?_⟩, fun hc => absurd hyes hc⟩⟩⟩⟩
    · intro h0
      have := congrArg List.length h2
      rw [h0, h1] at this
      simp at this
      omega
    · rw [h2, h1]
      simp)
end
end Pi

/- Archive: Decode: what its runs ask. -/
namespace Pi
open Go Go.Proofs
set_option maxRecDepth 100000
set_option maxHeartbeats 0
/-- The entry at the head of bytes. -/
def takE (s : List UInt8) : Option (En3 × List UInt8) :=
  match takeBG s with
  | (e, p, r) => if e ≠ 0 then none else match r with
    | [] => none
    | b :: r' => if b.toNat = 1 then some ((p, true, []), r') else if b.toNat = 0 then (if (takeBG r').1 = 0 then some ((p, false, (takeBG r').2.1), (takeBG r').2.2) else none) else none
def hTakE : KF1 := fun ps R post => ∃ s, ps = [sD s] ∧ R = [] ∧ s.length ≤ 2000000 ∧ (∀ e r, takE s = some (e, r) → post (.tup [.d (enD e), sD r, bD' true], [])) ∧ (takE s = none → ∀ e r, post (.tup [.d (enD e), sD r, bD' false], []))
theorem vcTakE (s : List UInt8) (post : P × List (Nat × En) → Prop) : (∃ (s_1 : List UInt8), [P.d (D.str s)] = [P.d (D.str s_1)] ∧ EqR [] [] ∧ List.length s_1 ≤ 2000000 ∧ ∀ (e : Int) (t r : List UInt8), takeBG s_1 = (e, t, r) → bif e != (0 : Int) then post (P.tup [P.d (D.agg [D.str [], D.bool false, D.str []]), P.d (D.str []), P.d (D.bool false)], []) else bif r == [] then post (P.tup [P.d (D.agg [D.str [], D.bool false, D.str []]), P.d (D.str []), P.d (D.bool false)], []) else bif decide ((0 : Int) ≤ (0 : Int) ∧ (0 : Int) < (↑(List.length r) : Int)) then bif decide ((↑(UInt8.toNat (List.getD r 0 (0 : UInt8))) : Int) > (1 : Int)) then post (P.tup [P.d (D.agg [D.str [], D.bool false, D.str []]), P.d (D.str []), P.d (D.bool false)], []) else bif decide ((0 : Int) ≤ (0 : Int) ∧ (0 : Int) < (↑(List.length r) : Int)) then bif decide ((0 : Int) ≤ (1 : Int) ∧ (1 : Int) ≤ (↑(List.length r) : Int)) then bif (↑(UInt8.toNat (List.getD r 0 (0 : UInt8))) : Int) == (1 : Int) then post (P.tup [P.d (D.agg [D.str t, D.bool ((↑(UInt8.toNat (List.getD r 0 (0 : UInt8))) : Int) == (1 : Int)), D.str []]), P.d (D.str (List.drop 1 (List.take (List.length r) r))), P.d (D.bool true)], []) else ∃ (s : List UInt8), [P.d (D.str (List.drop 1 (List.take (List.length r) r)))] = [P.d (D.str s)] ∧ EqR [] [] ∧ List.length s ≤ 2000000 ∧ ∀ (e : Int) (t_1 r_1 : List UInt8), takeBG s = (e, t_1, r_1) → post (P.tup [P.d (D.agg [D.str t, D.bool ((↑(UInt8.toNat (List.getD r 0 (0 : UInt8))) : Int) == (1 : Int)), D.str t_1]), P.d (D.str r_1), P.d (D.bool (e == (0 : Int)))], []) else False else False else False) = (bodyF [(44, hTakeB)] [] 28 [sD s] []) post := by kernel_rfl
/-- So many entries at the head of bytes; what is behind them. -/
def decN : Nat → List UInt8 → Option (List En3 × List UInt8)
  | 0, s => some ([], s)
  | n + 1, s => match takE s with
    | none => none
    | some (e, r) => match decN n r with | some (l, r') => some (e :: l, r') | none => none
abbrev deH (n : Int) (s : List UInt8) (o : List En3) (b : Bool) : S := ⟨51, [(4, iD n), (5, sD s), (7, .sl 0 0 o.length), (8, bD' b)], [(0, ⟨0, none, .arr 34 false (o.map enD)⟩)]⟩
def gDe : S → K (PX × S) := fun st post => ∃ n s b, st = deH n s [] b ∧ (s.length ≤ 2000000 ∧ 0 ≤ n) ∧ (b = true → (decN n.toNat s = none → ∀ (r : List UInt8) (o : List En3), o.length ≤ 2000000 → post (.exit 0, ⟨51, [(5, sD r), (7, .sl 0 0 o.length), (8, bD' false)], [(0, ⟨0, none, .arr 34 false (o.map enD)⟩)]⟩)) ∧ ∀ (o : List En3) (r : List UInt8), decN n.toNat s = some (o, r) → post (.exit 0, ⟨51, [(5, sD r), (7, .sl 0 0 o.length), (8, bD' true)], [(0, ⟨0, none, .arr 34 false (o.map enD)⟩)]⟩)) ∧
  (b = false → post (.exit 0, ⟨51, [(5, sD s), (7, .sl 0 0 0), (8, bD' false)], [(0, ⟨0, none, .arr 34 false []⟩)]⟩))
theorem vcDeN (n : Int) (s : List UInt8) (o : List En3) (b : Bool) (post : PX × S → Prop) : (bif b then bif decide ((↑(List.length o) : Int) < n) then ∃ (s_1 : List UInt8), [P.d (D.str s)] = [P.d (D.str s_1)] ∧ EqR [] [] ∧ List.length s_1 ≤ 2000000 ∧ (∀ (e : En3) (r : List UInt8), takE s_1 = some (e, r) → bif Nat.ble (List.length o) (List.length (List.map enD o)) && roomOk (List.length o + List.length [D.agg [D.str (Prod.fst e), D.bool (Prod.fst (Prod.snd e)), D.str (Prod.snd (Prod.snd e))]]) 40 then post (PX.normal, S.mk 51 [(4, P.d (D.int IntKind.i64 n)), (5, P.d (D.str r)), (7, P.sl 0 0 (List.length o + List.length [D.agg [D.str (Prod.fst e), D.bool (Prod.fst (Prod.snd e)), D.str (Prod.snd (Prod.snd e))]])), (8, P.d (D.bool true))] [(0, En.mk 0 none (Obj.arr 34 false (List.take (List.length o) (List.map enD o) ++ [D.agg [D.str (Prod.fst e), D.bool (Prod.fst (Prod.snd e)), D.str (Prod.snd (Prod.snd e))]])))]) else False) ∧ (takE s_1 = none → ∀ (e : En3) (r : List UInt8), post (PX.exit 0, S.mk 51 [(5, P.d (D.str r)), (7, P.sl 0 0 (List.length o)), (8, P.d (D.bool false))] [(0, En.mk 0 none (Obj.arr 34 false (List.map enD o)))])) else post (PX.exit 0, S.mk 51 [(5, P.d (D.str s)), (7, P.sl 0 0 (List.length o)), (8, P.d (D.bool b))] [(0, En.mk 0 none (Obj.arr 34 false (List.map enD o)))]) else post (PX.exit 0, S.mk 51 [(5, P.d (D.str s)), (7, P.sl 0 0 (List.length o)), (8, P.d (D.bool b))] [(0, En.mk 0 none (Obj.arr 34 false (List.map enD o)))])) = (roundL [(28, hTakE)] [] 11 3 (deH n s o b)) post := by kernel_rfl
theorem vcDe (s : List UInt8) (post : P × List (Nat × En) → Prop) : (∃ (s_1 : List UInt8), [P.d (D.str s)] = [P.d (D.str s_1)] ∧ EqR [] [] ∧ List.length s_1 ≤ 2000000 ∧ ∀ (e : Int) (n : Nat) (r : List UInt8), takeG 0 s_1 = (e, n, r) → ∃ (n_1 : Int), ∃ (s : List UInt8), ∃ (b : Bool), S.mk 51 [(4, P.d (D.int IntKind.i64 (↑n : Int))), (5, P.d (D.str r)), (7, P.sl 0 0 0), (8, P.d (D.bool (e == (0 : Int))))] [(0, En.mk 0 none (Obj.arr 34 false []))] = S.mk 51 [(4, P.d (D.int IntKind.i64 n_1)), (5, P.d (D.str s)), (7, P.sl 0 0 0), (8, P.d (D.bool b))] [(0, En.mk 0 none (Obj.arr 34 false []))] ∧ (List.length s ≤ 2000000 ∧ (0 : Int) ≤ n_1) ∧ (b = true → (decN (Int.toNat n_1) s = none → ∀ (r : List UInt8) (o : List En3), List.length o ≤ 2000000 → post (P.tup [P.sl 0 0 0, P.d (D.int IntKind.i64 (80 : Int))], [(0, En.mk 0 none (Obj.arr 34 false []))])) ∧ ∀ (o : List En3) (r : List UInt8), decN (Int.toNat n_1) s = some (o, r) → bif !r == [] then post (P.tup [P.sl 0 0 0, P.d (D.int IntKind.i64 (80 : Int))], [(0, En.mk 0 none (Obj.arr 34 false []))]) else ∃ (l : List En3), [P.d (D.sl 3 (List.take (List.length o) (List.map enD o)))] = [P.d (D.sl 3 (List.map enD l))] ∧ EqR [] [] ∧ SmE l ∧ ∀ (e : Int), (ChkL l → e = (0 : Int)) ∧ (¬ChkL l → e = (80 : Int)) → bif e != (0 : Int) then post (P.tup [P.sl 0 0 0, P.d (D.int IntKind.i64 (80 : Int))], [(0, En.mk 0 none (Obj.arr 34 false []))]) else post (P.tup [P.sl 0 0 (List.length o), P.d (D.int IntKind.i64 (0 : Int))], [(0, En.mk 0 none (Obj.arr 34 true (List.map enD o)))])) ∧ (b = false → post (P.tup [P.sl 0 0 0, P.d (D.int IntKind.i64 (80 : Int))], [(0, En.mk 0 none (Obj.arr 34 false []))]))) = (bodyF [(27, hTake), (9, hCheck)] [(3, loopHook (kpF 11 3) gDe)] 11 [sD s] []) post := by kernel_rfl
end Pi

/- Archive: Decode. -/
namespace Pi
open Go Go.Proofs
set_option maxRecDepth 100000
theorem takeG_len (s : List UInt8) : ∀ i, (takeG i s).1 = 0 → (takeG i s).2.2.length < s.length := by
  induction s with
  | nil => intro i h; cases h
  | cons b r ih =>
    intro i
    unfold takeG
    split
    · split
      · intro h; cases h
      · intro _; simp
    · split
      · intro h; cases h
      · split
        · rename_i h
          intro _
          have := ih (i + 1) h
          simp only [List.length_cons]
          omega
        · rename_i h
          intro h2
          exact absurd h2 h
theorem takeBG_len {s : List UInt8} (h : (takeBG s).1 = 0) : (takeBG s).2.2.length < s.length ∧ (takeBG s).2.1.length + (takeBG s).2.2.length < s.length := by
  unfold takeBG at h ⊢
  split
  · rename_i h1; rw [if_pos h1] at h; exact absurd h h1
  · rename_i h1
    rw [if_neg h1] at h
    split
    · rename_i h2; rw [if_pos h2] at h; cases h
    · rename_i h2
      have := takeG_len s 0 (Classical.byContradiction h1)
      simp only [List.length_take, List.length_drop]
      omega
theorem takE_len {s r : List UInt8} {e : En3} (h : takE s = some (e, r)) : r.length < s.length ∧ e.1.length + e.2.2.length < s.length := by
  unfold takE at h
  have hb := @takeBG_len s
  generalize takeBG s = x at h hb
  obtain ⟨a, p, q⟩ := x
  simp only at h hb
  split at h
  · cases h
  · rename_i ha
    have hb := hb (Classical.byContradiction ha)
    split at h
    · cases h
    · rename_i b q'
      simp only [List.length_cons] at hb
      split at h
      · cases h
        simp only [List.length_nil]
        omega
      · split at h
        · split at h
          · rename_i h3
            have hb2 := takeBG_len h3
            cases h
            dsimp only
            omega
          · cases h
        · cases h
theorem decN_len (n : Nat) : ∀ (s : List UInt8) (l : List En3) (r : List UInt8), decN n s = some (l, r) → l.length + r.length ≤ s.length ∧ l.length = n ∧ ∀ e ∈ l, e.1.length + e.2.2.length ≤ s.length := by
  induction n with
  | zero => intro s l r h; cases h; simp
  | succ n ih =>
    intro s l r h
    unfold decN at h
    split at h
    · cases h
    · rename_i e r1 h1
      have ht := takE_len h1
      split at h
      · rename_i l' r' h2
        cases h
        obtain ⟨a1, a2, a3⟩ := ih r1 l' r h2
        refine ⟨by simp only [List.length_cons]; omega, by simp [a2], fun x hx => ?_⟩
        rcases List.mem_cons.1 hx with rfl | hx
        · omega
        · have := a3 x hx; omega
      · cases h
section
variable {X : XF}
theorem okTakE : FD X 28 hTakE := FD.mk (H := [(44, hTakeB)]) (hk := []) (by kernel_rfl) (.cons okTakeB .nil) .nil (by
  intro ps R post hh
  obtain ⟨s, rfl, rfl, hs, h1, h2⟩ := hh
  rw [← vcTakE]
  refine ⟨s, rfl, rfl, hs, fun a p q hx => ?_⟩
  have hlen := @takeBG_len s
  unfold takE at h1 h2
  rw [hx] at h1 h2 hlen
  simp only at h1 h2 hlen
  refine condN (fun ha => ?_) fun ha => ?_
  · rw [if_pos ha] at h2
    exact h2 rfl ([], false, []) []
  · rw [if_neg (by simpa using ha)] at h1 h2
    have hlen := hlen ha
    cases q with
    | nil => exact h2 rfl ([], false, []) []
    | cons b r =>
      simp only [List.length_cons] at hlen
      have hb := b.toNat_lt
      have g0 : List.getD (b :: r) 0 (0 : UInt8) = b := rfl
      have tk : List.drop 1 (List.take (b :: r).length (b :: r)) = r := by rw [List.take_length]; rfl
      rw [g0, tk]
      refine condF (by simp) (oblP (by simp) (condP (fun h3 => ?_) fun h3 => oblP (by simp) (oblP (by simp only [List.length_cons]; omega) (condI (fun h4 => ?_) fun h4 => ⟨r, rfl, rfl, by omega, fun e2 t2 r2 hx2 => ?_⟩))))
      · simp only at h2
        rw [if_neg (by omega), if_neg (by omega)] at h2
        exact h2 rfl ([], false, []) []
      · have hb1 : b.toNat = 1 := by simp at h4; omega
        simp only at h1
        rw [if_pos hb1] at h1
        rw [hb1]
        exact h1 _ _ rfl
      · have hb0 : b.toNat = 0 := by simp at h4; omega
        simp only at h1 h2
        rw [if_neg (by omega), if_pos hb0, hx2] at h1 h2
        rw [hb0]
        simp only at h1 h2
        by_cases he : e2 = 0
        · subst he
          exact h1 _ _ rfl
        · rw [if_neg he] at h2
          have : ((e2 == 0) : Bool) = false := by simpa using he
          rw [this]
          exact h2 rfl (p, false, t2) r2)
theorem takE_none {s : List UInt8} (n : Nat) (h : takE s = none) : decN (n + 1) s = none := by unfold decN; rw [h]
theorem loopDe : LD X 11 3 (loopHook (kpF 11 3) gDe) := LD.par (H := [(28, hTakE)]) (hk := []) (by kernel_rfl) (by kernel_rfl) (.cons okTakE .nil) .nil
  (A := Int × List UInt8 × Bool) (B := List UInt8 × List En3) (fun a b => deH a.1 b.1 b.2 a.2.2)
  (fun a b => (a.2.1.length ≤ 2000000 ∧ 0 ≤ a.1) ∧ (a.2.2 = true → b.2.length ≤ a.1.toNat ∧ b.2.length + b.1.length ≤ a.2.1.length ∧ decN a.1.toNat a.2.1 = (match decN (a.1.toNat - b.2.length) b.1 with | some (l, r) => some (b.2 ++ l, r) | none => none)) ∧ (a.2.2 = false → b.1 = a.2.1 ∧ b.2 = []))
  (fun _ b => b.1.length)
  (fun a x => (a.2.2 = true ∧ ∃ o r, decN a.1.toNat a.2.1 = some (o, r) ∧ x = (.exit 0, ⟨51, [(5, sD r), (7, .sl 0 0 o.length), (8, bD' true)], [(0, ⟨0, none, .arr 34 false (o.map enD)⟩)]⟩)) ∨
    (a.2.2 = true ∧ ∃ (r : List UInt8) (o : List En3), decN a.1.toNat a.2.1 = none ∧ o.length ≤ 2000000 ∧ x = (.exit 0, ⟨51, [(5, sD r), (7, .sl 0 0 o.length), (8, bD' false)], [(0, ⟨0, none, .arr 34 false (o.map enD)⟩)]⟩)) ∨
    (a.2.2 = false ∧ x = (.exit 0, ⟨51, [(5, sD a.2.1), (7, .sl 0 0 0), (8, bD' false)], [(0, ⟨0, none, .arr 34 false []⟩)]⟩)))
  (by
    rintro ⟨n, s0, b⟩ ⟨s, o⟩ ⟨⟨hs0, hn0⟩, hT, hF⟩
    dsimp only at *
    rw [← vcDeN]
    cases b with
    | false =>
      obtain ⟨rfl, rfl⟩ := hF rfl
      exact condF rfl (.inr (.inr ⟨rfl, rfl⟩))
    | true =>
      obtain ⟨hol, hsl, hd⟩ := hT rfl
      refine condT rfl (condP (fun h => ?_) fun h => ?_)
      · obtain ⟨m, hm⟩ : ∃ m, n.toNat - o.length = m + 1 := ⟨n.toNat - o.length - 1, by omega⟩
        rw [hm] at hd
        refine ⟨s, rfl, rfl, by omega, fun e r he => ?_, fun he e r => ?_⟩
        · have ht := takE_len he
          refine oblI (roomI (by simp; omega) (by simp; omega) _ (by simp)) ⟨_, ?_, (r, o ++ [e]), ?_, ⟨⟨hs0, hn0⟩, fun _ => ⟨?_, ?_, ?_⟩, fun h => by cases h⟩, rfl⟩
          · dsimp only; omega
          · rw [List.take_of_length_le (by simp)]
            simp only [deH, List.map_append, List.map_cons, List.map_nil, List.length_append, List.length_cons, List.length_nil]
            rfl
          · simp; omega
          · simp; omega
          · dsimp only
            rw [hd, show n.toNat - (o ++ [e]).length = m by simp; omega]
            simp only [decN, he]
            cases decN m r with
            | none => rfl
            | some x => simp
        · refine .inr (.inl ⟨rfl, r, o, ?_, by omega, rfl⟩)
          rw [hd, takE_none m he]
      · refine .inl ⟨rfl, o, s, ?_, rfl⟩
        rw [hd, show n.toNat - o.length = 0 by omega]
        simp [decN])
  (by
    rintro st post ⟨n, s, b, rfl, ⟨hs, hn⟩, h1, h2⟩
    refine ⟨(n, s, b), (s, []), rfl, ⟨⟨hs, hn⟩, fun _ => ⟨by simp, by simp, ?_⟩, fun _ => ⟨rfl, rfl⟩⟩, ?_⟩
    · simp only [List.length_nil, Nat.sub_zero, List.nil_append]
      cases decN n.toNat s with
      | none => rfl
      | some x => rfl
    · rintro x (⟨hb, o, r, hd, rfl⟩ | ⟨hb, r, o, hd, ho, rfl⟩ | ⟨hb, rfl⟩)
      · exact (h1 hb).2 o r hd
      · exact (h1 hb).1 hd r o ho
      · exact h2 hb)
/-- The entries of bytes. -/
def DecR (s : List UInt8) (l : List En3) : Prop := (takeG 0 s).1 = 0 ∧ decN (takeG 0 s).2.1 (takeG 0 s).2.2 = some (l, []) ∧ ChkL l
def hDec : KF1 := fun ps R post => ∃ s, ps = [sD s] ∧ R = [] ∧ s.length ≤ 2000000 ∧ (∀ l, DecR s l → post (.tup [.sl 0 0 l.length, iD 0], [(0, ⟨0, none, .arr 34 true (l.map enD)⟩)])) ∧ ((∀ l, ¬ DecR s l) → post (.tup [.sl 0 0 0, iD 80], [(0, ⟨0, none, .arr 34 false []⟩)]))
theorem okDec : FD X 11 hDec := FD.mk (H := [(27, hTake), (9, hCheck)]) (hk := [(3, loopHook (kpF 11 3) gDe)]) (by kernel_rfl) (.cons okTake (.cons okCheck .nil)) (.cons loopDe .nil) (by
  intro ps R post hh
  obtain ⟨s, rfl, rfl, hs, h1, h2⟩ := hh
  rw [← vcDe]
  refine ⟨s, rfl, rfl, hs, fun e n r ht => ⟨n, r, e == 0, rfl, ⟨?_, by omega⟩, fun hb => ⟨fun hd r' o _ => ?_, fun o r' hd => ?_⟩, fun hb => ?_⟩⟩
  · by_cases h0 : (takeG 0 s).1 = 0
    · have := takeG_len s 0 h0
      rw [ht] at this
      dsimp only at this
      omega
    · have := takeG_err 0 s h0
      rw [ht] at this
      simp only [Prod.mk.injEq] at this
      rw [this.2]
      simp
  · refine h2 fun l hl => ?_
    have := hl.2.1
    rw [ht] at this
    simp only [Int.toNat_natCast] at hd
    rw [hd] at this
    cases this
  · simp only [Int.toNat_natCast] at hd
    obtain ⟨d1, d2, d3⟩ := decN_len n r o r' hd
    have hrl : r.length ≤ 2000000 := by
      have := takeG_len s 0 (by rw [ht]; simpa using hb)
      rw [ht] at this
      dsimp only at this
      omega
    have uniq : ∀ l, DecR s l → l = o ∧ r' = [] := fun l hl => by
      have := hl.2.1
      rw [ht] at this
      dsimp only at this
      rw [hd] at this
      cases this
      exact ⟨rfl, rfl⟩
    refine condI (fun h => h2 fun l hl => ?_) fun h => ?_
    · have := (uniq l hl).2
      rw [this] at h
      cases h
    · have hr : r' = [] := by simpa using h
      subst hr
      refine ⟨o, by rw [List.take_of_length_le (by simp)], rfl, ⟨by omega, fun x hx => by have := d3 x hx; omega⟩, fun e1 he1 => condN (fun h3 => h2 fun l hl => ?_) fun h3 => ?_⟩
      · obtain ⟨rfl, _⟩ := uniq l hl
        exact h3 (he1.1 hl.2.2)
      · have hc : ChkL o := Classical.byContradiction fun hc => by rw [he1.2 hc] at h3; cases h3
        exact h1 o ⟨by rw [ht]; simpa using hb, by rw [ht]; exact hd, hc⟩
  · refine h2 fun l hl => ?_
    have := hl.1
    rw [ht] at this
    dsimp only at this
    rw [this] at hb
    cases hb)
end
end Pi

/- Archive: entries and bytes: plain facts. -/
namespace Pi
open Go Go.Proofs
set_option maxRecDepth 100000
theorem takeG_nat : ∀ (k n i : Nat) (r : List UInt8), n < 128 ^ k → i + k ≤ 9 → 0 < k → (i = 0 ∨ 0 < n) → takeG i (natW n ++ r) = (0, n, r) := by
  intro k
  induction k with
  | zero => intro n i r _ _ h; omega
  | succ k ih =>
    intro n i r hn hi _ h0
    by_cases h : n < 128
    · rw [natW_lt h]
      simp only [List.cons_append, List.nil_append, takeG]
      have e : (UInt8.ofNat n).toNat = n := by simp [UInt8.toNat_ofNat']; omega
      rw [e, if_pos h, if_neg (by omega)]
    · rw [natW_ge h]
      simp only [List.cons_append, takeG]
      have e : (UInt8.ofNat (n % 128 + 128)).toNat = n % 128 + 128 := by simp [UInt8.toNat_ofNat']; omega
      have hk : 0 < k := by
        rcases Nat.eq_zero_or_pos k with rfl | hk
        · simp at hn; omega
        · exact hk
      have := ih (n / 128) (i + 1) r (by rw [Nat.pow_succ] at hn; omega) (by omega) hk (.inr (by omega))
      rw [e, if_neg (by omega), if_neg (by omega), this]
      simp only [if_true, Prod.mk.injEq, true_and, and_true]
      omega
theorem takeG_natW {n : Nat} (r : List UInt8) (h : n < 9223372036854775808) : takeG 0 (natW n ++ r) = (0, n, r) :=
  takeG_nat 9 n 0 r (by rw [show 128 ^ 9 = 9223372036854775808 from rfl]; exact h) (by omega) (by omega) (.inl rfl)
theorem takeG_inv (s : List UInt8) : ∀ (i n : Nat) (r : List UInt8), takeG i s = (0, n, r) → s = natW n ++ r ∧ (0 < i → 0 < n) := by
  induction s with
  | nil => intro i n r h; cases h
  | cons b s ih =>
    intro i n r h
    have hb := b.toNat_lt
    unfold takeG at h
    split at h
    · rename_i h1
      split at h
      · cases h
      · rename_i h2
        simp only [Prod.mk.injEq, true_and] at h
        obtain ⟨rfl, rfl⟩ := h
        refine ⟨by rw [natW_lt h1]; simp, fun hi => by omega⟩
    · rename_i h1
      split at h
      · cases h
      · split at h
        · rename_i h3
          simp only [Prod.mk.injEq, true_and] at h
          obtain ⟨rfl, rfl⟩ := h
          obtain ⟨e, hp⟩ := ih (i + 1) (takeG (i + 1) s).2.1 (takeG (i + 1) s).2.2 (by rw [← h3])
          have hp := hp (by omega)
          refine ⟨?_, fun _ => by omega⟩
          rw [natW_ge (by omega)]
          have e1 : (b.toNat - 128 + 128 * (takeG (i + 1) s).2.1) % 128 + 128 = b.toNat := by omega
          have e2 : (b.toNat - 128 + 128 * (takeG (i + 1) s).2.1) / 128 = (takeG (i + 1) s).2.1 := by omega
          rw [e1, e2, List.cons_append, ← e]
          simp
        · rename_i h3
          rw [h] at h3
          exact absurd rfl h3
theorem takeBG_ok (t r : List UInt8) (h : t.length < 9223372036854775808) : takeBG (natW t.length ++ t ++ r) = (0, t, r) := by
  unfold takeBG
  rw [List.append_assoc, takeG_natW _ h]
  simp only [ne_eq, not_true, if_false]
  rw [if_neg (by simp)]
  simp
theorem takeBG_inv {s t r : List UInt8} (h : takeBG s = (0, t, r)) : s = natW t.length ++ t ++ r := by
  unfold takeBG at h
  split at h
  · rename_i h1; simp only [Prod.mk.injEq] at h; exact absurd h.1 h1
  · rename_i h1
    split at h
    · cases h
    · rename_i h2
      simp only [Prod.mk.injEq, true_and] at h
      obtain ⟨rfl, rfl⟩ := h
      have h1 : (takeG 0 s).1 = 0 := Classical.byContradiction h1
      obtain ⟨e, _⟩ := takeG_inv s 0 (takeG 0 s).2.1 (takeG 0 s).2.2 (by rw [← h1])
      rw [List.length_take, Nat.min_eq_left (by omega), List.append_assoc, List.take_append_drop]
      exact e
def okE (e : En3) : Prop := (e.2.1 = true → e.2.2 = []) ∧ e.1.length < 9223372036854775808 ∧ e.2.2.length < 9223372036854775808
theorem takE_ok {e : En3} (r : List UInt8) (h : okE e) : takE (encE e ++ r) = some (e, r) := by
  obtain ⟨p, d, t⟩ := e
  obtain ⟨h1, h2, h3⟩ := h
  simp only at h1 h2 h3
  unfold takE encE
  cases d with
  | true =>
    have := h1 rfl
    subst this
    simp only [if_true]
    rw [List.append_assoc, takeBG_ok _ _ h2]
    simp
  | false =>
    simp only [Bool.false_eq_true, if_false]
    rw [List.append_assoc, takeBG_ok _ _ h2]
    have e2 : takeBG (natW t.length ++ (t ++ r)) = (0, t, r) := by rw [← List.append_assoc]; exact takeBG_ok t r h3
    simp [e2]
theorem takE_inv {s r : List UInt8} {e : En3} (h : takE s = some (e, r)) : s = encE e ++ r ∧ (e.2.1 = true → e.2.2 = []) := by
  unfold takE at h
  have hb := @takeBG_inv s
  generalize takeBG s = x at h hb
  obtain ⟨a, p, q⟩ := x
  simp only at h
  split at h
  · cases h
  · rename_i ha
    have ha : a = 0 := Classical.byContradiction ha
    subst ha
    have hb2 := hb rfl
    clear hb
    split at h
    · cases h
    · rename_i b q'
      split at h
      · rename_i h1
        simp only [Option.some.injEq, Prod.mk.injEq] at h
        obtain ⟨rfl, rfl⟩ := h
        refine ⟨?_, fun _ => rfl⟩
        have : b = 1 := by apply UInt8.toNat_inj.1; simpa using h1
        subst this
        rw [hb2]
        simp [encE]
      · split at h
        · rename_i h1
          split at h
          · rename_i h3
            simp only [Option.some.injEq, Prod.mk.injEq] at h
            obtain ⟨rfl, rfl⟩ := h
            refine ⟨?_, fun h => by cases h⟩
            have : b = 0 := by apply UInt8.toNat_inj.1; simpa using h1
            subst this
            have e2 := takeBG_inv (s := q') (t := (takeBG q').2.1) (r := (takeBG q').2.2) (by rw [← h3])
            have e3 : (0 : UInt8) :: q' = 0 :: (natW (takeBG q').2.1.length ++ (takeBG q').2.1) ++ (takeBG q').2.2 := by rw [List.cons_append, ← e2]
            rw [hb2, e3]
            simp [encE]
          · cases h
        · cases h
theorem decN_ok : ∀ (l : List En3) (r : List UInt8), (∀ e ∈ l, okE e) → decN l.length (l.flatMap encE ++ r) = some (l, r)
  | [], r, _ => rfl
  | e :: l, r, h => by
    simp only [List.length_cons, List.flatMap_cons, decN, List.append_assoc]
    rw [takE_ok _ (h e (by simp))]
    simp only
    rw [decN_ok l r fun x hx => h x (by simp [hx])]
theorem decN_inv : ∀ (n : Nat) (s : List UInt8) (l : List En3) (r : List UInt8), decN n s = some (l, r) → s = l.flatMap encE ++ r ∧ l.length = n
  | 0, s, l, r, h => by cases h; simp
  | n + 1, s, l, r, h => by
    unfold decN at h
    split at h
    · cases h
    · rename_i e r1 h1
      obtain ⟨e1, _⟩ := takE_inv h1
      split at h
      · rename_i l' r' h2
        simp only [Option.some.injEq, Prod.mk.injEq] at h
        obtain ⟨rfl, rfl⟩ := h
        obtain ⟨e2, e3⟩ := decN_inv n r1 l' r' h2
        exact ⟨by rw [e1, e2]; simp, by simp [e3]⟩
      · cases h
/-- All bytes of entries. -/
def encL (l : List En3) : List UInt8 := natW l.length ++ l.flatMap encE
theorem chk_dir {l : List En3} (h : ChkL l) : ∀ e ∈ l, (e.2.1 = true → e.2.2 = []) ∧ e.1 ≠ [] := by
  intro e he
  obtain ⟨i, hi, rfl⟩ := List.getElem_of_mem he
  have := h i hi
  rw [show l.getD i ([], false, []) = l[i] by simp [List.getD_eq_getElem?_getD, hi]] at this
  unfold entOk at this
  simp only [Bool.and_eq_true] at this
  obtain ⟨⟨⟨⟨⟨a1, a2⟩, a3⟩, a4⟩, a5⟩, a6⟩ := this
  refine ⟨fun hd => ?_, fun hn => ?_⟩
  · rw [hd] at a6
    simpa using a6
  · rw [hn] at a3
    simp [splitP] at a3
theorem decR_ok {l : List En3} (h : ChkL l) (hl : l.length < 9223372036854775808) (hs : ∀ e ∈ l, e.1.length < 9223372036854775808 ∧ e.2.2.length < 9223372036854775808) : DecR (encL l) l := by
  unfold DecR encL
  rw [takeG_natW _ hl]
  refine ⟨rfl, ?_, h⟩
  have := decN_ok l [] fun e he => ⟨(chk_dir h e he).1, hs e he⟩
  rw [List.append_nil] at this
  exact this
theorem decR_inv {s : List UInt8} {l : List En3} (h : DecR s l) : s = encL l ∧ ChkL l := by
  obtain ⟨h1, h2, h3⟩ := h
  obtain ⟨e, _⟩ := takeG_inv s 0 (takeG 0 s).2.1 (takeG 0 s).2.2 (by rw [← h1])
  obtain ⟨e2, e3⟩ := decN_inv _ _ _ _ h2
  refine ⟨?_, h3⟩
  rw [List.append_nil] at e2
  unfold encL
  rw [e3, ← e2]
  exact e
theorem decR_uniq {s : List UInt8} {l m : List En3} (h : DecR s l) (k : DecR s m) : l = m := by
  have := h.2.1.symm.trans k.2.1
  simpa using this
theorem encE_ge {e : En3} (h : e.1 ≠ []) : 3 ≤ (encE e).length := by
  have h1 := natW_pos e.1.length
  have h2 : 0 < e.1.length := List.length_pos_iff.2 h
  unfold encE
  split
  · simp; omega
  · simp; omega
theorem encL_ge {l : List En3} (h : ∀ e ∈ l, e.1 ≠ []) : 3 * l.length ≤ (l.flatMap encE).length := by
  induction l with
  | nil => simp
  | cons e l ih =>
    have h1 := encE_ge (h e (by simp))
    have h2 := ih fun x hx => h x (by simp [hx])
    simp only [List.length_cons, List.flatMap_cons, List.length_append]
    omega
theorem mem_enc {l : List En3} {e : En3} (h : e ∈ l) : e.1.length + e.2.2.length ≤ (l.flatMap encE).length ∨ e.2.1 = true ∧ e.1.length ≤ (l.flatMap encE).length := by
  induction l with
  | nil => cases h
  | cons x l ih =>
    simp only [List.flatMap_cons, List.length_append]
    rcases List.mem_cons.1 h with rfl | h
    · unfold encE
      split
      · rename_i hd; right; exact ⟨hd, by simp; omega⟩
      · left; simp; omega
    · rcases ih h with h | ⟨h1, h2⟩
      · left; omega
      · right; exact ⟨h1, by omega⟩
theorem decR_small {s : List UInt8} {l : List En3} (h : DecR s l) (hs : s.length ≤ 5000) : SmX l := by
  obtain ⟨rfl, hc⟩ := decR_inv h
  have h1 := encL_ge fun e he => (chk_dir hc e he).2
  unfold encL at hs
  rw [List.length_append] at hs
  refine ⟨by omega, fun e he => ?_⟩
  rcases mem_enc he with h | ⟨h, h'⟩
  · omega
  · rw [(chk_dir hc e he).1 h]
    simp
    omega
theorem few_small {l : List En3} (h : l.length ≤ 60 ∧ ∀ e ∈ l, e.2.2.length ≤ 200 ∧ e.1.length ≤ 1000) : SmX l := ⟨by omega, fun e he => by have := h.2 e he; omega⟩
theorem encL_inj {l m : List En3} (hl : ChkL l) (hm : ChkL m) (sl : SmX l) (sm : SmX m) (h : encL l = encL m) : l = m :=
  decR_uniq (decR_ok hl (by have := sl.1; omega) fun e he => by have := sl.2 e he; omega) (by rw [h]; exact decR_ok hm (by have := sm.1; omega) fun e he => by have := sm.2 e he; omega)
theorem encL_len {l : List En3} (h : l.length ≤ 60 ∧ ∀ e ∈ l, e.2.2.length ≤ 200 ∧ e.1.length ≤ 1000) : (encL l).length ≤ 2000000 := by
  have h1 := enc_len l fun e he => by have := h.2 e he; omega
  have h2 := natW9 (n := l.length) (by omega)
  unfold encL
  rw [List.length_append]
  omega
end Pi

/- Archive: Same, few, awake, the law: what their runs ask. -/
namespace Pi
open Go Go.Proofs
set_option maxRecDepth 100000
set_option maxHeartbeats 0
abbrev saH (a b : List En3) (k : Int) : S := ⟨26, [(0, esP a), (1, esP b), (5, iD k)], []⟩
abbrev feH (a : List En3) (k : Int) : S := ⟨33, [(0, esP a), (3, iD k)], []⟩
def gSa : S → K (PX × S) := fun s post => ∃ v w, s = saH v w 0 ∧ (v.length = w.length ∧ v.length ≤ 3000000) ∧ (v ≠ w → post (.ret, ⟨26, [(4, bD' false)], []⟩)) ∧ (v = w → post (.exit 0, ⟨26, [], []⟩))
def hSameE : KF1 := fun ps R post => ∃ v w, ps = [esP v, esP w] ∧ R = [] ∧ v.length ≤ 3000000 ∧ ∀ b, (b = true ↔ v = w) → post (bD' b, [])
def FewL (l : List En3) : Prop := l.length ≤ 60 ∧ ∀ e ∈ l, e.2.2.length ≤ 200 ∧ e.1.length ≤ 1000
def gFe : S → K (PX × S) := fun s post => ∃ l, s = feH l 0 ∧ ((¬ FewL l) → post (.ret, ⟨33, [(0, esP l), (2, bD' false)], []⟩)) ∧ ((l.length ≤ 60 → FewL l) → post (.exit 0, ⟨33, [(0, esP l)], []⟩))
def hFew : KF1 := fun ps R post => ∃ l, ps = [esP l] ∧ R = [] ∧ ∀ b, (b = true ↔ FewL l) → post (bD' b, [])
def hAwake17 : KF1 := fun ps R post => ps = [] ∧ R = [] ∧ post (bD' true, [])
theorem vcSaN (a b : List En3) (k : Int) (post : PX × S → Prop) : (bif decide (k < (↑(List.length (List.map enD a)) : Int)) then bif decide ((0 : Int) ≤ k ∧ k < (↑(List.length (List.map enD a)) : Int)) then bif isD PR 34 (D.nth (List.map enD a) (Int.toNat k)) then bif decide ((0 : Int) ≤ k ∧ k < (↑(List.length (List.map enD b)) : Int)) then bif isD PR 34 (D.nth (List.map enD b) (Int.toNat k)) then bif !(D.sVal (D.cAt (D.nth (List.map enD a) (Int.toNat k)) 0) == D.sVal (D.cAt (D.nth (List.map enD b) (Int.toNat k)) 0) && (D.bVal (D.cAt (D.nth (List.map enD a) (Int.toNat k)) 1) == D.bVal (D.cAt (D.nth (List.map enD b) (Int.toNat k)) 1) && (D.sVal (D.cAt (D.nth (List.map enD a) (Int.toNat k)) 2) == D.sVal (D.cAt (D.nth (List.map enD b) (Int.toNat k)) 2) && true))) then post (PX.ret, S.mk 26 [(4, P.d (D.bool false))] []) else bif decide ((-9223372036854775808 : Int) ≤ k + (1 : Int) ∧ k + (1 : Int) ≤ (9223372036854775807 : Int)) then post (PX.normal, S.mk 26 [(0, P.d (D.sl 3 (List.map enD a))), (1, P.d (D.sl 3 (List.map enD b))), (5, P.d (D.int IntKind.i64 (k + (1 : Int))))] []) else False else False else False else False else False else post (PX.exit 0, S.mk 26 [] [])) = (roundL [] [] 13 4 (saH a b k)) post := by kernel_rfl
theorem vcSa (a b : List En3) (post : P × List (Nat × En) → Prop) : (bif (↑(List.length (List.map enD a)) : Int) != (↑(List.length (List.map enD b)) : Int) then post (P.d (D.bool false), []) else ∃ (v : List En3), ∃ (w : List En3), S.mk 26 [(0, P.d (D.sl 3 (List.map enD a))), (1, P.d (D.sl 3 (List.map enD b))), (5, P.d (D.int IntKind.i64 (0 : Int)))] [] = S.mk 26 [(0, P.d (D.sl 3 (List.map enD v))), (1, P.d (D.sl 3 (List.map enD w))), (5, P.d (D.int IntKind.i64 (0 : Int)))] [] ∧ (List.length v = List.length w ∧ List.length v ≤ 3000000) ∧ (v ≠ w → post (P.d (D.bool false), [])) ∧ (v = w → post (P.d (D.bool true), []))) = (bodyF [] [(4, loopHook (kpF 13 4) gSa)] 13 [esP a, esP b] []) post := by kernel_rfl
theorem vcFeN (a : List En3) (k : Int) (post : PX × S → Prop) : (bif decide (k < (↑(List.length (List.map enD a)) : Int)) then bif decide (k ≤ (60 : Int)) then bif decide ((0 : Int) ≤ k ∧ k < (↑(List.length (List.map enD a)) : Int)) then bif isD PR 34 (D.nth (List.map enD a) (Int.toNat k)) then bif decide ((↑(List.length (D.sVal (D.cAt (D.nth (List.map enD a) (Int.toNat k)) 2))) : Int) > (200 : Int)) then post (PX.ret, S.mk 33 [(0, P.d (D.sl 3 (List.map enD a))), (2, P.d (D.bool false))] []) else bif decide ((0 : Int) ≤ k ∧ k < (↑(List.length (List.map enD a)) : Int)) then bif isD PR 34 (D.nth (List.map enD a) (Int.toNat k)) then bif decide ((↑(List.length (D.sVal (D.cAt (D.nth (List.map enD a) (Int.toNat k)) 0))) : Int) > (1000 : Int)) then post (PX.ret, S.mk 33 [(0, P.d (D.sl 3 (List.map enD a))), (2, P.d (D.bool false))] []) else bif decide ((-9223372036854775808 : Int) ≤ k + (1 : Int) ∧ k + (1 : Int) ≤ (9223372036854775807 : Int)) then post (PX.normal, S.mk 33 [(0, P.d (D.sl 3 (List.map enD a))), (3, P.d (D.int IntKind.i64 (k + (1 : Int))))] []) else False else False else False else False else False else post (PX.exit 0, S.mk 33 [(0, P.d (D.sl 3 (List.map enD a)))] []) else post (PX.exit 0, S.mk 33 [(0, P.d (D.sl 3 (List.map enD a)))] [])) = (roundL [] [] 5 2 (feH a k)) post := by kernel_rfl
theorem vcFe (a : List En3) (post : P × List (Nat × En) → Prop) : (∃ (l : List En3), S.mk 33 [(0, P.d (D.sl 3 (List.map enD a))), (3, P.d (D.int IntKind.i64 (0 : Int)))] [] = S.mk 33 [(0, P.d (D.sl 3 (List.map enD l))), (3, P.d (D.int IntKind.i64 (0 : Int)))] [] ∧ (¬FewL l → post (P.d (D.bool false), [])) ∧ ((List.length l ≤ 60 → FewL l) → post (P.d (D.bool (decide ((↑(List.length (List.map enD l)) : Int) ≤ (60 : Int)))), []))) = (bodyF [] [(2, loopHook (kpF 5 2) gFe)] 5 [esP a] []) post := by kernel_rfl
theorem vcAw  (post : P × List (Nat × En) → Prop) : (∃ (l : List En3), [P.d (D.sl 3 [D.agg [D.str [(47 : UInt8), (97 : UInt8)], D.bool true, D.str []], D.agg [D.str [(47 : UInt8), (97 : UInt8), (47 : UInt8), (102 : UInt8)], D.bool false, D.str [(120 : UInt8)]]])] = [P.d (D.sl 3 (List.map enD l))] ∧ EqR [] [] ∧ SmX l ∧ ∀ (s : List UInt8) (e : Int), (ChkL l → e = (0 : Int) ∧ s = natW (List.length l) ++ List.flatMap encE l) ∧ (¬ChkL l → e = (80 : Int) ∧ s = []) → ∃ (s_1 : List UInt8), [P.d (D.str s)] = [P.d (D.str s_1)] ∧ EqR [] [] ∧ List.length s_1 ≤ 2000000 ∧ (∀ (l : List En3), DecR s_1 l → ∃ (l_1 : List En3), [P.d (D.sl 3 [D.agg [D.str [(47 : UInt8), (97 : UInt8), (47 : UInt8), (102 : UInt8)], D.bool false, D.str [(120 : UInt8)]]])] = [P.d (D.sl 3 (List.map enD l_1))] ∧ EqR [] [] ∧ SmX l_1 ∧ ∀ (s_2 : List UInt8) (e_1 : Int), (ChkL l_1 → e_1 = (0 : Int) ∧ s_2 = natW (List.length l_1) ++ List.flatMap encE l_1) ∧ (¬ChkL l_1 → e_1 = (80 : Int) ∧ s_2 = []) → bif e == (0 : Int) then bif s == [(2 : UInt8), (2 : UInt8), (47 : UInt8), (97 : UInt8), (1 : UInt8), (4 : UInt8), (47 : UInt8), (97 : UInt8), (47 : UInt8), (102 : UInt8), (0 : UInt8), (1 : UInt8), (120 : UInt8)] then ∃ (v : List En3), ∃ (w : List En3), [P.d (D.sl 3 [D.agg [D.str [(47 : UInt8), (97 : UInt8)], D.bool true, D.str []], D.agg [D.str [(47 : UInt8), (97 : UInt8), (47 : UInt8), (102 : UInt8)], D.bool false, D.str [(120 : UInt8)]]]), P.d (D.sl 3 (List.take (List.length l) (List.map enD l)))] = [P.d (D.sl 3 (List.map enD v)), P.d (D.sl 3 (List.map enD w))] ∧ EqR [] [] ∧ List.length v ≤ 3000000 ∧ ∀ (b : Bool), (b = true ↔ v = w) → bif b then post (P.d (D.bool (e_1 == (80 : Int))), []) else post (P.d (D.bool false), []) else post (P.d (D.bool false), []) else post (P.d (D.bool false), [])) ∧ ((∀ (l : List En3), ¬DecR s_1 l) → ∃ (l : List En3), [P.d (D.sl 3 [D.agg [D.str [(47 : UInt8), (97 : UInt8), (47 : UInt8), (102 : UInt8)], D.bool false, D.str [(120 : UInt8)]]])] = [P.d (D.sl 3 (List.map enD l))] ∧ EqR [] [] ∧ SmX l ∧ ∀ (s_2 : List UInt8) (e_1 : Int), (ChkL l → e_1 = (0 : Int) ∧ s_2 = natW (List.length l) ++ List.flatMap encE l) ∧ (¬ChkL l → e_1 = (80 : Int) ∧ s_2 = []) → bif e == (0 : Int) then bif s == [(2 : UInt8), (2 : UInt8), (47 : UInt8), (97 : UInt8), (1 : UInt8), (4 : UInt8), (47 : UInt8), (97 : UInt8), (47 : UInt8), (102 : UInt8), (0 : UInt8), (1 : UInt8), (120 : UInt8)] then post (P.d (D.bool false), []) else post (P.d (D.bool false), []) else post (P.d (D.bool false), []))) = (bodyF [(7, hEnc), (11, hDec), (13, hSameE)] [] 6 [] []) post := by kernel_rfl
end Pi

/- Archive: Same, few, awake, the law. -/
namespace Pi
open Go Go.Proofs
set_option maxRecDepth 100000
theorem sameE (e f : En3) : (D.sVal (D.cAt (enD e) 0) == D.sVal (D.cAt (enD f) 0) && (D.bVal (D.cAt (enD e) 1) == D.bVal (D.cAt (enD f) 1) && (D.sVal (D.cAt (enD e) 2) == D.sVal (D.cAt (enD f) 2) && true))) = decide (e = f) := by
  obtain ⟨a, b, c⟩ := e
  obtain ⟨a', b', c'⟩ := f
  show (a == a' && (b == b' && (c == c' && true))) = _
  rw [Bool.eq_iff_iff]
  simp
theorem take_en (l : List En3) : List.take l.length (l.map enD) = l.map enD := List.take_of_length_le (by simp)
theorem en_inj {l m : List En3} (h : l.map enD = m.map enD) : l = m := by
  have hi : ∀ e f : En3, enD e = enD f → e = f := fun e f h => by
    obtain ⟨a, b, c⟩ := e
    obtain ⟨a', b', c'⟩ := f
    simp only [enD, D.agg.injEq, List.cons.injEq, D.str.injEq, D.bool.injEq, and_true] at h
    obtain ⟨rfl, rfl, rfl⟩ := h
    rfl
  induction l generalizing m with
  | nil => cases m with | nil => rfl | cons x m => cases h
  | cons e l ih =>
    cases m with
    | nil => cases h
    | cons f m =>
      simp only [List.map_cons, List.cons.injEq] at h
      rw [hi e f h.1, ih h.2]
section
variable {X : XF}
theorem loopSa : LD X 13 4 (loopHook (kpF 13 4) gSa) := LD.par (H := []) (hk := []) (by kernel_rfl) (by kernel_rfl) .nil .nil
  (A := List En3 × List En3) (B := Int) (fun a k => saH a.1 a.2 k)
  (fun a k => (a.1.length = a.2.length ∧ a.1.length ≤ 3000000) ∧ (0 ≤ k ∧ k.toNat ≤ a.1.length) ∧ a.1.take k.toNat = a.2.take k.toNat)
  (fun a k => (a.1.length - k).toNat)
  (fun a x => (a.1 ≠ a.2 ∧ x = (.ret, ⟨26, [(4, bD' false)], []⟩)) ∨ (a.1 = a.2 ∧ x = (.exit 0, ⟨26, [], []⟩)))
  (by
    rintro ⟨v, w⟩ k ⟨⟨hl, hm⟩, ⟨h0, h1⟩, ht⟩
    dsimp only at *
    rw [← vcSaN]
    simp only [List.length_map]
    refine condP (fun h => ?_) fun h => ?_
    · have hk : k.toNat < v.length := by omega
      have hk2 : k.toNat < w.length := by omega
      rw [en_nth hk, en_nth hk2, sameE]
      refine oblP ⟨h0, by omega⟩ (oblI (isDe _) (oblP ⟨h0, by omega⟩ (oblI (isDe _) (condI (fun h2 => ?_) fun h2 => oblI (incI (by omega) (by omega)) ?_))))
      · refine .inl ⟨fun e => ?_, rfl⟩
        subst e
        simp at h2
      · refine ⟨_, ?_, k + 1, rfl, ⟨⟨hl, hm⟩, ⟨by omega, by omega⟩, ?_⟩, rfl⟩
        · omega
        · have h3 : v.getD k.toNat ([], false, []) = w.getD k.toNat ([], false, []) := by simpa using h2
          rw [show (k + 1).toNat = k.toNat + 1 by omega, List.take_add_one, List.take_add_one, ht]
          simp only [List.getD_eq_getElem?_getD, List.getElem?_eq_getElem hk, List.getElem?_eq_getElem hk2, Option.getD_some] at h3
          rw [List.getElem?_eq_getElem hk, List.getElem?_eq_getElem hk2, h3]
    · refine .inr ⟨?_, rfl⟩
      rw [List.take_of_length_le (by omega), List.take_of_length_le (by omega)] at ht
      exact ht)
  (by
    rintro s post ⟨v, w, rfl, ⟨hl, hm⟩, h1, h2⟩
    refine ⟨(v, w), 0, rfl, ⟨⟨hl, hm⟩, ⟨by decide, by simp⟩, by simp⟩, ?_⟩
    rintro x (⟨h3, rfl⟩ | ⟨h3, rfl⟩)
    · exact h1 h3
    · exact h2 h3)
theorem okSameE : FD X 13 hSameE := FD.mk (H := []) (hk := [(4, loopHook (kpF 13 4) gSa)]) (by kernel_rfl) .nil (.cons loopSa .nil) (by
  intro ps R post hh
  obtain ⟨v, w, rfl, rfl, hm, hp⟩ := hh
  rw [← vcSa]
  simp only [List.length_map]
  refine condN (fun h => ?_) fun h => ⟨v, w, rfl, ⟨by omega, hm⟩, fun h => hp false ⟨fun h2 => (by cases h2), fun h2 => absurd h2 h⟩, fun h => hp true ⟨fun _ => h, fun _ => rfl⟩⟩
  exact hp false ⟨fun h2 => (by cases h2), fun h2 => by subst h2; exact absurd rfl h⟩)
theorem loopFe : LD X 5 2 (loopHook (kpF 5 2) gFe) := LD.par (H := []) (hk := []) (by kernel_rfl) (by kernel_rfl) .nil .nil
  (A := List En3) (B := Int) (fun a k => feH a k)
  (fun a k => (0 ≤ k ∧ k.toNat ≤ a.length ∧ k ≤ 61) ∧ ∀ e ∈ a.take k.toNat, e.2.2.length ≤ 200 ∧ e.1.length ≤ 1000)
  (fun _ k => (100 - k).toNat)
  (fun a x => (¬ FewL a ∧ x = (.ret, ⟨33, [(0, esP a), (2, bD' false)], []⟩)) ∨ ((a.length ≤ 60 → FewL a) ∧ x = (.exit 0, ⟨33, [(0, esP a)], []⟩)))
  (by
    rintro l k ⟨⟨h0, h1, h60⟩, ht⟩
    rw [← vcFeN]
    simp only [List.length_map]
    refine condP (fun h => condP (fun hk6 => ?_) fun hk6 => .inr ⟨fun hl => by omega, rfl⟩) fun h => .inr ⟨fun hl => ⟨hl, fun e he => ht e (by rw [List.take_of_length_le (by omega)]; exact he)⟩, rfl⟩
    have hk : k.toNat < l.length := by omega
    rw [en_nth hk]
    have hmem : l.getD k.toNat ([], false, []) ∈ l := by simp [List.getD_eq_getElem?_getD, hk]
    have htk : l.take (k.toNat + 1) = l.take k.toNat ++ [l.getD k.toNat ([], false, [])] := by
      rw [List.take_add_one, List.getElem?_eq_getElem hk]
      simp [List.getD_eq_getElem?_getD, hk]
    generalize l.getD k.toNat ([], false, []) = e at hmem htk
    have v0 : D.sVal (D.cAt (enD e) 0) = e.1 := rfl
    have v2 : D.sVal (D.cAt (enD e) 2) = e.2.2 := rfl
    rw [v0, v2]
    refine oblP ⟨h0, by omega⟩ (oblI (isDe _) (condP (fun h2 => .inl ⟨fun hf => ?_, rfl⟩) fun h2 => oblP ⟨h0, by omega⟩ (oblI (isDe _) (condP (fun h3 => .inl ⟨fun hf => ?_, rfl⟩) fun h3 => oblI (incI (by omega) (by omega)) ?_))))
    · have := (hf.2 e hmem).1; omega
    · have := (hf.2 e hmem).2; omega
    · refine ⟨_, ?_, k + 1, rfl, ⟨⟨by omega, by omega, by omega⟩, ?_⟩, rfl⟩
      · omega
      · rw [show (k + 1).toNat = k.toNat + 1 by omega, htk]
        intro x hx
        rcases List.mem_append.1 hx with hx | hx
        · exact ht x hx
        · simp at hx; subst hx; omega)
  (by
    rintro s post ⟨l, rfl, h1, h2⟩
    refine ⟨l, 0, rfl, ⟨⟨by decide, by simp, by decide⟩, by simp⟩, ?_⟩
    rintro x (⟨h3, rfl⟩ | ⟨h3, rfl⟩)
    · exact h1 h3
    · exact h2 h3)
theorem okFew : FD X 5 hFew := FD.mk (H := []) (hk := [(2, loopHook (kpF 5 2) gFe)]) (by kernel_rfl) .nil (.cons loopFe .nil) (by
  intro ps R post hh
  obtain ⟨l, rfl, rfl, hp⟩ := hh
  rw [← vcFe]
  refine ⟨l, rfl, fun h => hp false ⟨fun h2 => (by cases h2), fun h2 => absurd h2 h⟩, fun h => hp _ ?_⟩
  simp only [List.length_map, decide_eq_true_eq]
  exact ⟨fun h2 => h (by omega), fun h2 => by have := h2.1; omega⟩)
def l0 : List En3 := [([47, 97], true, []), ([47, 97, 47, 102], false, [120])]
theorem chk0 : ChkL l0 := fun i hi => match i, hi with
  | 0, _ => by kernel_rfl
  | 1, _ => by kernel_rfl
theorem chk1 : ¬ ChkL [([47, 97, 47, 102], false, [120])] := fun h => by
  have h1 := h 0 (by simp)
  have h2 : entOk [([47, 97, 47, 102], false, [120])] 0 ([([47, 97, 47, 102], false, [120])].getD 0 ([], false, [])) = false := by kernel_rfl
  rw [h2] at h1
  cases h1
theorem enc0 : natW l0.length ++ l0.flatMap encE = [2, 2, 47, 97, 1, 4, 47, 97, 47, 102, 0, 1, 120] := by
  simp [l0, encE, natW_lt]
theorem dec0 : DecR (natW l0.length ++ l0.flatMap encE) l0 := decR_ok chk0 (by simp [l0]) (fun e he => by
  simp only [l0, List.mem_cons, List.not_mem_nil, or_false] at he
  rcases he with rfl | rfl <;> simp)
theorem okAwake17 : FD X 6 hAwake17 := FD.mk (H := [(7, hEnc), (11, hDec), (13, hSameE)]) (hk := []) (by kernel_rfl) (.cons okEnc (.cons okDec (.cons okSameE .nil))) .nil (by
  intro ps R post hh
  obtain ⟨rfl, rfl, hp⟩ := hh
  rw [← vcAw]
  refine ⟨l0, rfl, rfl, ⟨by decide, fun e he => by simp only [l0, List.mem_cons, List.not_mem_nil, or_false] at he; rcases he with rfl | rfl <;> simp⟩, fun s e hse => ?_⟩
  obtain ⟨rfl, rfl⟩ := hse.1 chk0
  refine ⟨_, rfl, rfl, by rw [enc0]; decide, fun l hl => ?_, fun h => absurd dec0 (h l0)⟩
  have := decR_uniq hl dec0
  subst this
  refine ⟨[([47, 97, 47, 102], false, [120])], rfl, rfl, ⟨by decide, by simp⟩, fun s2 e2 hse2 => condT rfl (condT (by rw [enc0]; rfl) ⟨l0, l0, by rw [take_en]; rfl, rfl, by decide, fun b hb => ?_⟩)⟩
  obtain ⟨rfl, _⟩ := hse2.2 chk1
  rw [hb.2 rfl]
  exact hp)
def hLawB : KF1 := fun ps R post => ∃ l m s, ps = [esP l, esP m, sD s] ∧ R = [] ∧ post (bD' true, [])
def TailB (s : List UInt8) (post : P × List (Nat × En) → Prop) : Prop := bif decide ((↑(List.length s) : Int) > (5000 : Int)) then post (P.d (D.bool true), []) else ∃ (s_4 : List UInt8), [P.d (D.str s)] = [P.d (D.str s_4)] ∧ EqR [] [] ∧ List.length s_4 ≤ 2000000 ∧ (∀ (l : List En3), DecR s_4 l → ∃ (l_6 : List En3), [P.d (D.sl 3 (List.take (List.length l) (List.map enD l)))] = [P.d (D.sl 3 (List.map enD l_6))] ∧ EqR [] [] ∧ SmX l_6 ∧ ∀ (s_5 : List UInt8) (e : Int), (ChkL l_6 → e = (0 : Int) ∧ s_5 = natW (List.length l_6) ++ List.flatMap encE l_6) ∧ (¬ChkL l_6 → e = (80 : Int) ∧ s_5 = []) → bif e == (0 : Int) then post (P.d (D.bool (s_5 == s)), []) else post (P.d (D.bool false), [])) ∧ ((∀ (l : List En3), ¬DecR s_4 l) → ∃ (l : List En3), [P.d (D.sl 3 [])] = [P.d (D.sl 3 (List.map enD l))] ∧ EqR [] [] ∧ SmX l ∧ ∀ (s : List UInt8) (e : Int), (ChkL l → e = (0 : Int) ∧ s = natW (List.length l) ++ List.flatMap encE l) ∧ (¬ChkL l → e = (80 : Int) ∧ s = []) → post (P.d (D.bool true), []))
theorem tailB_ok (s : List UInt8) {post : P × List (Nat × En) → Prop} (hp : post (P.d (D.bool true), [])) : TailB s post := by
  unfold TailB
  refine condP (fun _ => hp) fun h => ⟨s, rfl, rfl, by omega, fun l hl => ⟨l, by rw [take_en], rfl, decR_small hl (by omega), fun s5 e he => ?_⟩, fun _ => ⟨[], rfl, rfl, ⟨by decide, by simp⟩, fun _ _ _ => hp⟩⟩
  obtain ⟨h1, h2⟩ := decR_inv hl
  obtain ⟨rfl, h3⟩ := he.1 h2
  refine condT rfl (leafB hp ?_)
  rw [h3, h1]
  simp [encL]
theorem fitEn {m : Nat} {x : D} (h : FitE PR (m + 3) 22 x) : ∃ l : List En3, x = .sl 3 (l.map enD) := by
  obtain ⟨es, rfl, _, hy⟩ := fitE_slice (k := 3) Tryz.underlying22 (by kernel_rfl) h
  have : ∀ es : List D, (∀ y ∈ es, FitE PR (m + 2) 34 y) → ∃ l : List En3, es = l.map enD := by
    intro es
    induction es with
    | nil => intro _; exact ⟨[], rfl⟩
    | cons y es ih =>
      intro hy
      obtain ⟨l, rfl⟩ := ih fun y h => hy y (.tail _ h)
      have h1 := hy y (.head _)
      obtain ⟨cs, rfl, hl, hf⟩ := fitE_struct (k := 3) Tryz.underlying34 (by kernel_rfl) h1
      obtain ⟨a, b, c, rfl⟩ : ∃ a b c, cs = [a, b, c] := by
        match cs, hl with
        | [a, b, c], _ => exact ⟨a, b, c, rfl⟩
      have c1 : PR.cellsOf 9 = 1 := by kernel_rfl
      have c2 : PR.cellsOf 4 = 1 := by kernel_rfl
      have g1 := hf _ (List.mem_cons_self ..)
      have g2 := hf _ (List.mem_cons_of_mem _ (List.mem_cons_self ..))
      have g3 := hf _ (List.mem_cons_of_mem _ (List.mem_cons_of_mem _ (List.mem_cons_self ..)))
      simp only [c1, c2, List.drop_zero, List.drop_succ_cons, List.take_succ_cons, List.take_zero] at g1 g2 g3
      obtain ⟨s1, rfl, _⟩ := fit_str Tryz.underlying9 g1
      obtain ⟨b1, rfl⟩ := fit_bool Tryz.underlying4 g2
      obtain ⟨s2, rfl, _⟩ := fit_str Tryz.underlying9 g3
      exact ⟨(s1, b1, s2) :: l, rfl⟩
  obtain ⟨l, rfl⟩ := this es hy
  exact ⟨l, rfl⟩
end
end Pi

