/- The texts StL2H P1 P1H P2H P3 P3H P4 P5H P6H T2 T2H T3 T3H TrA TrB TrC. -/
import Derived.Test.YtccffeofkhkbcaaGreatDoorPiBulk
/- Stamp: the laws on texts. -/
namespace Pi
open Go Go.Proofs
set_option maxRecDepth 100000
section
variable {X : XF}
theorem splitOk {s : List UInt8} (h : s.length ≤ 2000000) : SplitOk s := by
  have hc : s.count 46 ≤ s.length := List.count_le_length
  refine ⟨by omega, ?_, ?_, fun x hx => ?_⟩
  · rw [split_by, splitBy_len, Lib.count_one]
  · rw [Lib.count_one]; omega
  · rw [split_by] at hx
    have := splitBy_each 46 s x hx
    omega
theorem textId_len (t r i : Int) : (textId t r i).length ≤ 2000000 := by
  unfold textId
  split
  · rename_i h
    simp only [rightId, decide_eq_true_eq] at h
    have l1 := itoa_len21 (n := t) (by omega) (by omega)
    have l2 := itoa_len21 (n := r) (by omega) (by omega)
    have l3 := itoa_len21 (n := i) (by omega) (by omega)
    simp [textS]; omega
  · simp
theorem fitId {m : Nat} {x : D} (h : FitE PR (m + 3) 41 x) : ∃ t r i, x = idD t r i ∧ (Lit.int .i64 t).wf = true ∧ (Lit.int .i64 r).wf = true ∧ (Lit.int .i64 i).wf = true := by
  obtain ⟨cs, rfl, hl, hf⟩ := fitE_struct (k := 3) Tryz.underlying41 (by kernel_rfl) h
  obtain ⟨a, b, c, rfl⟩ : ∃ a b c, cs = [a, b, c] := by
    match cs, hl with
    | [a, b, c], _ => exact ⟨a, b, c, rfl⟩
  have c23 : PR.cellsOf 39 = 2 := by kernel_rfl
  have c3 : PR.cellsOf 3 = 1 := by kernel_rfl
  have h1 := hf _ (List.mem_cons_self ..)
  have h2 := hf _ (List.mem_cons_of_mem _ (List.mem_cons_self ..))
  simp only [c23, List.drop_zero, List.take_succ_cons, List.take_zero] at h1
  simp only [c3, List.drop_succ_cons, List.drop_zero, List.take_succ_cons, List.take_zero] at h2
  unfold Fit at h1
  rw [Tryz.underlying39] at h1
  obtain ⟨_, hf1⟩ := h1
  have h3 := hf1 _ (List.mem_cons_self ..)
  have h4 := hf1 _ (List.mem_cons_of_mem _ (List.mem_cons_self ..))
  simp only [c3, List.drop_zero, List.take_succ_cons, List.take_zero] at h3
  simp only [c3, List.drop_succ_cons, List.drop_zero, List.take_succ_cons, List.take_zero] at h4
  obtain ⟨t, rfl, wt⟩ := fit_int Tryz.underlying3 h3
  obtain ⟨r, rfl, wr⟩ := fit_int Tryz.underlying3 h4
  obtain ⟨i, rfl, wi⟩ := fit_int Tryz.underlying3 h2
  exact ⟨t, r, i, rfl, wt, wr, wi⟩
theorem fitS {m : Nat} {x : D} (h : FitE PR (m + 1) 9 x) : ∃ s, x = .str s := by
  obtain ⟨s, rfl, _⟩ := fitE_str Tryz.underlying9 h
  exact ⟨s, rfl⟩

def hLawT : KF1 := fun ps R post => ∃ t r i s, ps = [.d (idD t r i), sD s] ∧ R = [] ∧ s.length ≤ 2000000 ∧ post (.d (.bool true), [])
theorem parse3_nil : parse3 [] = none := by
  unfold parse3
  rw [split_by]
  rfl
def hLawK : KF1 := fun ps R post => ∃ t r i s, ps = [.d (idD t r i), sD s] ∧ R = [] ∧ s.length ≤ 2000000 ∧ post (.d (.bool true), [])
end
end Pi

/- Pathname: the loops and small functions: what their runs ask. -/
namespace Pi
open Go Go.Proofs
set_option maxRecDepth 100000
set_option maxHeartbeats 0
abbrev tD (l : List (List UInt8)) : P := .d (.sl 1 (l.map D.str))
abbrev bD' (b : Bool) : P := .d (.bool b)
def hTrim : KF1 := fun ps R post => ∃ s c, ps = [sD s, sD c] ∧ R = [] ∧ (s.length ≤ 9223372036854775807 ∧ c.length < 4294967281 ∧ c.all (fun b => decide (b.toNat < 128)) = true) ∧ post (sD (Lib.trimS s c), [])
def hCut : KF1 := fun ps R post => ∃ s c, ps = [sD s, sD c] ∧ R = [] ∧ s.length < 4294967281 ∧ post (.tup [sD (Lib.cut s c).1, sD (Lib.cut s c).2.1, .d (.bool (Lib.cut s c).2.2)], [])
def hCutP : KF1 := fun ps R post => ∃ s c, ps = [sD s, sD c] ∧ R = [] ∧ post (.tup [sD (Lib.trimPrefix s c), .d (.bool (Lib.hasPrefix s c))], [])
def hJoinL : KF1 := fun ps R post => ∃ l c, ps = [tD l, sD c] ∧ R = [] ∧ (l.length ≤ 140737488355328 ∧ (Lib.join l c).length ≤ 140737488355328) ∧ post (sD (Lib.join l c), [])
def hName : KF1 := fun ps R post => ∃ s, ps = [sD s] ∧ R = [] ∧ post (bD' (nameOk s), [])
def hSeen : KF1 := fun ps R post => ∃ s, ps = [sD s] ∧ R = [] ∧ s.length ≤ 2000000 ∧ post (bD' (seenOk s), [])
def hClash : KF1 := fun ps R post => ∃ s t r i, ps = [sD s, .d (idD t r i)] ∧ R = [] ∧ post (.tup [sD (clashP s t r i).1, iD (clashP s t r i).2], [])
def hSplitP : KF1 := fun ps R post => ∃ s, ps = [sD s] ∧ R = [] ∧ s.length ≤ 2000000 ∧ ∀ n e l, splitP s = (e, l) → n = l.length → post (.tup [.sl 0 0 n, iD e], [(0, ⟨0, none, .arr 9 false (l.map D.str)⟩)])
abbrev nmH (s : List UInt8) (k : Int) : S := ⟨64, [(0, sD s), (3, iD k)], []⟩
abbrev seH (s : List UInt8) (k : Int) : S := ⟨33, [(0, sD s), (3, iD k)], []⟩
abbrev spH (l : List (List UInt8)) (m m' : Nat) (n k : Int) : S := ⟨36, [(6, .sl 0 0 m), (22, .sl 0 0 m'), (23, iD n), (24, iD k)], [(0, ⟨0, none, .arr 9 false (l.map D.str)⟩)]⟩
abbrev srH (s : List UInt8) (o : List (List UInt8)) (m : Nat) (f i : Int) : S := ⟨51, [(0, sD s), (4, .sl 0 0 m), (5, iD f), (6, iD i)], [(0, ⟨0, none, .arr 9 false (o.map D.str)⟩)]⟩
abbrev jnH (l : List (List UInt8)) (s : List UInt8) (k : Int) : S := ⟨21, [(0, tD l), (3, sD s), (4, iD k)], []⟩
abbrev stH (v w : List (List UInt8)) (k : Int) : S := ⟨26, [(0, tD v), (1, tD w), (5, iD k)], []⟩
theorem vcName (s : List UInt8) (post : P × List (Nat × En) → Prop) : (bif !s == [] then bif decide ((↑(List.length s) : Int) ≤ (32 : Int)) then bif !s == [(46 : UInt8)] then bif !s == [(46 : UInt8), (46 : UInt8)] then ∃ (s_1 : List UInt8), ∃ (c : List UInt8), [P.d (D.str s), P.d (D.str [(48 : UInt8), (49 : UInt8), (50 : UInt8), (51 : UInt8), (52 : UInt8), (53 : UInt8), (54 : UInt8), (55 : UInt8), (56 : UInt8), (57 : UInt8), (65 : UInt8), (66 : UInt8), (67 : UInt8), (68 : UInt8), (69 : UInt8), (70 : UInt8), (71 : UInt8), (72 : UInt8), (73 : UInt8), (74 : UInt8), (75 : UInt8), (76 : UInt8), (77 : UInt8), (78 : UInt8), (79 : UInt8), (80 : UInt8), (81 : UInt8), (82 : UInt8), (83 : UInt8), (84 : UInt8), (85 : UInt8), (86 : UInt8), (87 : UInt8), (88 : UInt8), (89 : UInt8), (90 : UInt8), (97 : UInt8), (98 : UInt8), (99 : UInt8), (100 : UInt8), (101 : UInt8), (102 : UInt8), (103 : UInt8), (104 : UInt8), (105 : UInt8), (106 : UInt8), (107 : UInt8), (108 : UInt8), (109 : UInt8), (110 : UInt8), (111 : UInt8), (112 : UInt8), (113 : UInt8), (114 : UInt8), (115 : UInt8), (116 : UInt8), (117 : UInt8), (118 : UInt8), (119 : UInt8), (120 : UInt8), (121 : UInt8), (122 : UInt8), (46 : UInt8), (45 : UInt8), (95 : UInt8)])] = [P.d (D.str s_1), P.d (D.str c)] ∧ EqR [] [] ∧ (List.length s_1 ≤ 9223372036854775807 ∧ List.length c < 4294967281 ∧ (List.all c fun (b : UInt8) => decide (UInt8.toNat b < 128)) = true) ∧ post (P.d (D.bool (Lib.trimS s_1 c == [])), []) else post (P.d (D.bool false), []) else post (P.d (D.bool false), []) else post (P.d (D.bool false), []) else post (P.d (D.bool false), [])) = (bodyF [(66, hTrim)] [] 48 [sD s] []) post := by kernel_rfl
theorem vcNmN (s : List UInt8) (k : Int) (post : PX × S → Prop) : (bif decide (k < (↑(List.length s) : Int)) then bif decide ((0 : Int) ≤ k ∧ k < (↑(List.length s) : Int)) then bif decide ((↑(UInt8.toNat (List.getD s (Int.toNat k) (0 : UInt8))) : Int) ≥ (48 : Int)) then bif decide ((↑(UInt8.toNat (List.getD s (Int.toNat k) (0 : UInt8))) : Int) ≤ (57 : Int)) then bif decide ((-9223372036854775808 : Int) ≤ k + (1 : Int) ∧ k + (1 : Int) ≤ (9223372036854775807 : Int)) then post (PX.normal, S.mk 64 [(0, P.d (D.str s)), (3, P.d (D.int IntKind.i64 (k + (1 : Int))))] []) else False else bif decide ((↑(UInt8.toNat (List.getD s (Int.toNat k) (0 : UInt8))) : Int) ≥ (65 : Int)) then bif decide ((↑(UInt8.toNat (List.getD s (Int.toNat k) (0 : UInt8))) : Int) ≤ (90 : Int)) then bif decide ((-9223372036854775808 : Int) ≤ k + (1 : Int) ∧ k + (1 : Int) ≤ (9223372036854775807 : Int)) then post (PX.normal, S.mk 64 [(0, P.d (D.str s)), (3, P.d (D.int IntKind.i64 (k + (1 : Int))))] []) else False else bif decide ((↑(UInt8.toNat (List.getD s (Int.toNat k) (0 : UInt8))) : Int) ≥ (97 : Int)) then bif decide ((↑(UInt8.toNat (List.getD s (Int.toNat k) (0 : UInt8))) : Int) ≤ (122 : Int)) then bif decide ((-9223372036854775808 : Int) ≤ k + (1 : Int) ∧ k + (1 : Int) ≤ (9223372036854775807 : Int)) then post (PX.normal, S.mk 64 [(0, P.d (D.str s)), (3, P.d (D.int IntKind.i64 (k + (1 : Int))))] []) else False else bif (↑(UInt8.toNat (List.getD s (Int.toNat k) (0 : UInt8))) : Int) == (46 : Int) then bif decide ((-9223372036854775808 : Int) ≤ k + (1 : Int) ∧ k + (1 : Int) ≤ (9223372036854775807 : Int)) then post (PX.normal, S.mk 64 [(0, P.d (D.str s)), (3, P.d (D.int IntKind.i64 (k + (1 : Int))))] []) else False else bif (↑(UInt8.toNat (List.getD s (Int.toNat k) (0 : UInt8))) : Int) == (45 : Int) then bif decide ((-9223372036854775808 : Int) ≤ k + (1 : Int) ∧ k + (1 : Int) ≤ (9223372036854775807 : Int)) then post (PX.normal, S.mk 64 [(0, P.d (D.str s)), (3, P.d (D.int IntKind.i64 (k + (1 : Int))))] []) else False else bif !(↑(UInt8.toNat (List.getD s (Int.toNat k) (0 : UInt8))) : Int) == (95 : Int) then post (PX.ret, S.mk 64 [(2, P.d (D.bool false))] []) else bif decide ((-9223372036854775808 : Int) ≤ k + (1 : Int) ∧ k + (1 : Int) ≤ (9223372036854775807 : Int)) then post (PX.normal, S.mk 64 [(0, P.d (D.str s)), (3, P.d (D.int IntKind.i64 (k + (1 : Int))))] []) else False else bif (↑(UInt8.toNat (List.getD s (Int.toNat k) (0 : UInt8))) : Int) == (46 : Int) then bif decide ((-9223372036854775808 : Int) ≤ k + (1 : Int) ∧ k + (1 : Int) ≤ (9223372036854775807 : Int)) then post (PX.normal, S.mk 64 [(0, P.d (D.str s)), (3, P.d (D.int IntKind.i64 (k + (1 : Int))))] []) else False else bif (↑(UInt8.toNat (List.getD s (Int.toNat k) (0 : UInt8))) : Int) == (45 : Int) then bif decide ((-9223372036854775808 : Int) ≤ k + (1 : Int) ∧ k + (1 : Int) ≤ (9223372036854775807 : Int)) then post (PX.normal, S.mk 64 [(0, P.d (D.str s)), (3, P.d (D.int IntKind.i64 (k + (1 : Int))))] []) else False else bif !(↑(UInt8.toNat (List.getD s (Int.toNat k) (0 : UInt8))) : Int) == (95 : Int) then post (PX.ret, S.mk 64 [(2, P.d (D.bool false))] []) else bif decide ((-9223372036854775808 : Int) ≤ k + (1 : Int) ∧ k + (1 : Int) ≤ (9223372036854775807 : Int)) then post (PX.normal, S.mk 64 [(0, P.d (D.str s)), (3, P.d (D.int IntKind.i64 (k + (1 : Int))))] []) else False else bif decide ((↑(UInt8.toNat (List.getD s (Int.toNat k) (0 : UInt8))) : Int) ≥ (97 : Int)) then bif decide ((↑(UInt8.toNat (List.getD s (Int.toNat k) (0 : UInt8))) : Int) ≤ (122 : Int)) then bif decide ((-9223372036854775808 : Int) ≤ k + (1 : Int) ∧ k + (1 : Int) ≤ (9223372036854775807 : Int)) then post (PX.normal, S.mk 64 [(0, P.d (D.str s)), (3, P.d (D.int IntKind.i64 (k + (1 : Int))))] []) else False else bif (↑(UInt8.toNat (List.getD s (Int.toNat k) (0 : UInt8))) : Int) == (46 : Int) then bif decide ((-9223372036854775808 : Int) ≤ k + (1 : Int) ∧ k + (1 : Int) ≤ (9223372036854775807 : Int)) then post (PX.normal, S.mk 64 [(0, P.d (D.str s)), (3, P.d (D.int IntKind.i64 (k + (1 : Int))))] []) else False else bif (↑(UInt8.toNat (List.getD s (Int.toNat k) (0 : UInt8))) : Int) == (45 : Int) then bif decide ((-9223372036854775808 : Int) ≤ k + (1 : Int) ∧ k + (1 : Int) ≤ (9223372036854775807 : Int)) then post (PX.normal, S.mk 64 [(0, P.d (D.str s)), (3, P.d (D.int IntKind.i64 (k + (1 : Int))))] []) else False else bif !(↑(UInt8.toNat (List.getD s (Int.toNat k) (0 : UInt8))) : Int) == (95 : Int) then post (PX.ret, S.mk 64 [(2, P.d (D.bool false))] []) else bif decide ((-9223372036854775808 : Int) ≤ k + (1 : Int) ∧ k + (1 : Int) ≤ (9223372036854775807 : Int)) then post (PX.normal, S.mk 64 [(0, P.d (D.str s)), (3, P.d (D.int IntKind.i64 (k + (1 : Int))))] []) else False else bif (↑(UInt8.toNat (List.getD s (Int.toNat k) (0 : UInt8))) : Int) == (46 : Int) then bif decide ((-9223372036854775808 : Int) ≤ k + (1 : Int) ∧ k + (1 : Int) ≤ (9223372036854775807 : Int)) then post (PX.normal, S.mk 64 [(0, P.d (D.str s)), (3, P.d (D.int IntKind.i64 (k + (1 : Int))))] []) else False else bif (↑(UInt8.toNat (List.getD s (Int.toNat k) (0 : UInt8))) : Int) == (45 : Int) then bif decide ((-9223372036854775808 : Int) ≤ k + (1 : Int) ∧ k + (1 : Int) ≤ (9223372036854775807 : Int)) then post (PX.normal, S.mk 64 [(0, P.d (D.str s)), (3, P.d (D.int IntKind.i64 (k + (1 : Int))))] []) else False else bif !(↑(UInt8.toNat (List.getD s (Int.toNat k) (0 : UInt8))) : Int) == (95 : Int) then post (PX.ret, S.mk 64 [(2, P.d (D.bool false))] []) else bif decide ((-9223372036854775808 : Int) ≤ k + (1 : Int) ∧ k + (1 : Int) ≤ (9223372036854775807 : Int)) then post (PX.normal, S.mk 64 [(0, P.d (D.str s)), (3, P.d (D.int IntKind.i64 (k + (1 : Int))))] []) else False else bif decide ((↑(UInt8.toNat (List.getD s (Int.toNat k) (0 : UInt8))) : Int) ≥ (65 : Int)) then bif decide ((↑(UInt8.toNat (List.getD s (Int.toNat k) (0 : UInt8))) : Int) ≤ (90 : Int)) then bif decide ((-9223372036854775808 : Int) ≤ k + (1 : Int) ∧ k + (1 : Int) ≤ (9223372036854775807 : Int)) then post (PX.normal, S.mk 64 [(0, P.d (D.str s)), (3, P.d (D.int IntKind.i64 (k + (1 : Int))))] []) else False else bif decide ((↑(UInt8.toNat (List.getD s (Int.toNat k) (0 : UInt8))) : Int) ≥ (97 : Int)) then bif decide ((↑(UInt8.toNat (List.getD s (Int.toNat k) (0 : UInt8))) : Int) ≤ (122 : Int)) then bif decide ((-9223372036854775808 : Int) ≤ k + (1 : Int) ∧ k + (1 : Int) ≤ (9223372036854775807 : Int)) then post (PX.normal, S.mk 64 [(0, P.d (D.str s)), (3, P.d (D.int IntKind.i64 (k + (1 : Int))))] []) else False else bif (↑(UInt8.toNat (List.getD s (Int.toNat k) (0 : UInt8))) : Int) == (46 : Int) then bif decide ((-9223372036854775808 : Int) ≤ k + (1 : Int) ∧ k + (1 : Int) ≤ (9223372036854775807 : Int)) then post (PX.normal, S.mk 64 [(0, P.d (D.str s)), (3, P.d (D.int IntKind.i64 (k + (1 : Int))))] []) else False else bif (↑(UInt8.toNat (List.getD s (Int.toNat k) (0 : UInt8))) : Int) == (45 : Int) then bif decide ((-9223372036854775808 : Int) ≤ k + (1 : Int) ∧ k + (1 : Int) ≤ (9223372036854775807 : Int)) then post (PX.normal, S.mk 64 [(0, P.d (D.str s)), (3, P.d (D.int IntKind.i64 (k + (1 : Int))))] []) else False else bif !(↑(UInt8.toNat (List.getD s (Int.toNat k) (0 : UInt8))) : Int) == (95 : Int) then post (PX.ret, S.mk 64 [(2, P.d (D.bool false))] []) else bif decide ((-9223372036854775808 : Int) ≤ k + (1 : Int) ∧ k + (1 : Int) ≤ (9223372036854775807 : Int)) then post (PX.normal, S.mk 64 [(0, P.d (D.str s)), (3, P.d (D.int IntKind.i64 (k + (1 : Int))))] []) else False else bif (↑(UInt8.toNat (List.getD s (Int.toNat k) (0 : UInt8))) : Int) == (46 : Int) then bif decide ((-9223372036854775808 : Int) ≤ k + (1 : Int) ∧ k + (1 : Int) ≤ (9223372036854775807 : Int)) then post (PX.normal, S.mk 64 [(0, P.d (D.str s)), (3, P.d (D.int IntKind.i64 (k + (1 : Int))))] []) else False else bif (↑(UInt8.toNat (List.getD s (Int.toNat k) (0 : UInt8))) : Int) == (45 : Int) then bif decide ((-9223372036854775808 : Int) ≤ k + (1 : Int) ∧ k + (1 : Int) ≤ (9223372036854775807 : Int)) then post (PX.normal, S.mk 64 [(0, P.d (D.str s)), (3, P.d (D.int IntKind.i64 (k + (1 : Int))))] []) else False else bif !(↑(UInt8.toNat (List.getD s (Int.toNat k) (0 : UInt8))) : Int) == (95 : Int) then post (PX.ret, S.mk 64 [(2, P.d (D.bool false))] []) else bif decide ((-9223372036854775808 : Int) ≤ k + (1 : Int) ∧ k + (1 : Int) ≤ (9223372036854775807 : Int)) then post (PX.normal, S.mk 64 [(0, P.d (D.str s)), (3, P.d (D.int IntKind.i64 (k + (1 : Int))))] []) else False else bif decide ((↑(UInt8.toNat (List.getD s (Int.toNat k) (0 : UInt8))) : Int) ≥ (97 : Int)) then bif decide ((↑(UInt8.toNat (List.getD s (Int.toNat k) (0 : UInt8))) : Int) ≤ (122 : Int)) then bif decide ((-9223372036854775808 : Int) ≤ k + (1 : Int) ∧ k + (1 : Int) ≤ (9223372036854775807 : Int)) then post (PX.normal, S.mk 64 [(0, P.d (D.str s)), (3, P.d (D.int IntKind.i64 (k + (1 : Int))))] []) else False else bif (↑(UInt8.toNat (List.getD s (Int.toNat k) (0 : UInt8))) : Int) == (46 : Int) then bif decide ((-9223372036854775808 : Int) ≤ k + (1 : Int) ∧ k + (1 : Int) ≤ (9223372036854775807 : Int)) then post (PX.normal, S.mk 64 [(0, P.d (D.str s)), (3, P.d (D.int IntKind.i64 (k + (1 : Int))))] []) else False else bif (↑(UInt8.toNat (List.getD s (Int.toNat k) (0 : UInt8))) : Int) == (45 : Int) then bif decide ((-9223372036854775808 : Int) ≤ k + (1 : Int) ∧ k + (1 : Int) ≤ (9223372036854775807 : Int)) then post (PX.normal, S.mk 64 [(0, P.d (D.str s)), (3, P.d (D.int IntKind.i64 (k + (1 : Int))))] []) else False else bif !(↑(UInt8.toNat (List.getD s (Int.toNat k) (0 : UInt8))) : Int) == (95 : Int) then post (PX.ret, S.mk 64 [(2, P.d (D.bool false))] []) else bif decide ((-9223372036854775808 : Int) ≤ k + (1 : Int) ∧ k + (1 : Int) ≤ (9223372036854775807 : Int)) then post (PX.normal, S.mk 64 [(0, P.d (D.str s)), (3, P.d (D.int IntKind.i64 (k + (1 : Int))))] []) else False else bif (↑(UInt8.toNat (List.getD s (Int.toNat k) (0 : UInt8))) : Int) == (46 : Int) then bif decide ((-9223372036854775808 : Int) ≤ k + (1 : Int) ∧ k + (1 : Int) ≤ (9223372036854775807 : Int)) then post (PX.normal, S.mk 64 [(0, P.d (D.str s)), (3, P.d (D.int IntKind.i64 (k + (1 : Int))))] []) else False else bif (↑(UInt8.toNat (List.getD s (Int.toNat k) (0 : UInt8))) : Int) == (45 : Int) then bif decide ((-9223372036854775808 : Int) ≤ k + (1 : Int) ∧ k + (1 : Int) ≤ (9223372036854775807 : Int)) then post (PX.normal, S.mk 64 [(0, P.d (D.str s)), (3, P.d (D.int IntKind.i64 (k + (1 : Int))))] []) else False else bif !(↑(UInt8.toNat (List.getD s (Int.toNat k) (0 : UInt8))) : Int) == (95 : Int) then post (PX.ret, S.mk 64 [(2, P.d (D.bool false))] []) else bif decide ((-9223372036854775808 : Int) ≤ k + (1 : Int) ∧ k + (1 : Int) ≤ (9223372036854775807 : Int)) then post (PX.normal, S.mk 64 [(0, P.d (D.str s)), (3, P.d (D.int IntKind.i64 (k + (1 : Int))))] []) else False else False else post (PX.exit 0, S.mk 64 [] [])) = (roundL [] [] 44 4 (nmH s k)) post := by kernel_rfl
theorem vcSeN (s : List UInt8) (k : Int) (post : PX × S → Prop) : (bif decide (k < (↑(List.length s) : Int)) then bif decide ((0 : Int) ≤ k ∧ k < (↑(List.length s) : Int)) then bif (↑(UInt8.toNat (List.getD s (Int.toNat k) (0 : UInt8))) : Int) == (126 : Int) then bif decide ((-9223372036854775808 : Int) ≤ k + (1 : Int) ∧ k + (1 : Int) ≤ (9223372036854775807 : Int)) then bif decide ((0 : Int) ≤ k + (1 : Int) ∧ k + (1 : Int) ≤ (↑(List.length s) : Int)) then ∃ (s_1 : List UInt8), [P.d (D.str (List.drop (Int.toNat (k + (1 : Int))) (List.take (List.length s) s)))] = [P.d (D.str s_1)] ∧ EqR [] [] ∧ List.length s_1 ≤ 9223372036854775807 ∧ (parse3 s_1 = none → post (PX.ret, S.mk 33 [(0, P.d (D.str s)), (2, P.d (D.bool false))] [])) ∧ ∀ (t r i : Int), parse3 s_1 = some (t, r, i) → bif decide ((0 : Int) ≤ k ∧ k ≤ (↑(List.length s) : Int)) then ∃ (s_2 : List UInt8), [P.d (D.str (List.drop 0 (List.take (Int.toNat k) s)))] = [P.d (D.str s_2)] ∧ EqR [] [] ∧ post (PX.ret, S.mk 33 [(0, P.d (D.str s)), (2, P.d (D.bool (nameOk s_2)))] []) else False else False else False else bif decide ((-9223372036854775808 : Int) ≤ k + (1 : Int) ∧ k + (1 : Int) ≤ (9223372036854775807 : Int)) then post (PX.normal, S.mk 33 [(0, P.d (D.str s)), (3, P.d (D.int IntKind.i64 (k + (1 : Int))))] []) else False else False else post (PX.exit 0, S.mk 33 [(0, P.d (D.str s))] [])) = (roundL [(63, hParseR), (44, hName)] [] 43 2 (seH s k)) post := by kernel_rfl
theorem vcClash (s : List UInt8) (t r i : Int) (post : P × List (Nat × En) → Prop) : (∃ (t_1 : Int), ∃ (r_1 : Int), ∃ (i_1 : Int), [P.d (D.agg [D.int IntKind.i64 t, D.int IntKind.i64 r, D.int IntKind.i64 i])] = [P.d (D.agg [D.int IntKind.i64 t_1, D.int IntKind.i64 r_1, D.int IntKind.i64 i_1])] ∧ EqR [] [] ∧ ∃ (s_1 : List UInt8), [P.d (D.str s)] = [P.d (D.str s_1)] ∧ EqR [] [] ∧ bif !nameOk s_1 then post (P.tup [P.d (D.str []), P.d (D.int IntKind.i64 (70 : Int))], []) else bif textId t_1 r_1 i_1 == [] then post (P.tup [P.d (D.str []), P.d (D.int IntKind.i64 (1 : Int))], []) else bif decide (List.length s + 1 ≤ 9223372036854775807) then bif decide (List.length (s ++ [(126 : UInt8)]) + List.length (textId t_1 r_1 i_1) ≤ 9223372036854775807) then post (P.tup [P.d (D.str (s ++ [(126 : UInt8)] ++ textId t_1 r_1 i_1)), P.d (D.int IntKind.i64 (0 : Int))], []) else False else False) = (bodyF [(48, hName), (69, hText)] [] 51 [sD s, .d (idD t r i)] []) post := by kernel_rfl
theorem vcClashR (s : List UInt8) (t r i : Int) (post : P × List (Nat × En) → Prop) : (∃ (s_1 : List UInt8), [P.d (D.str s)] = [P.d (D.str s_1)] ∧ EqR [] [] ∧ bif !nameOk s_1 then post (P.tup [P.d (D.str []), P.d (D.int IntKind.i64 (70 : Int))], []) else ∃ (t_1 : Int), ∃ (r_1 : Int), ∃ (i_1 : Int), [P.d (D.agg [D.int IntKind.i64 t, D.int IntKind.i64 r, D.int IntKind.i64 i])] = [P.d (D.agg [D.int IntKind.i64 t_1, D.int IntKind.i64 r_1, D.int IntKind.i64 i_1])] ∧ EqR [] [] ∧ bif textId t_1 r_1 i_1 == [] then post (P.tup [P.d (D.str []), P.d (D.int IntKind.i64 (1 : Int))], []) else bif decide (List.length s + 1 ≤ 9223372036854775807) then bif decide (List.length (s ++ [(126 : UInt8)]) + List.length (textId t_1 r_1 i_1) ≤ 9223372036854775807) then post (P.tup [P.d (D.str (s ++ [(126 : UInt8)] ++ textId t_1 r_1 i_1)), P.d (D.int IntKind.i64 (0 : Int))], []) else False else False) = (bodyF [(44, hName), (45, hText)] [] 24 [sD s, .d (idD t r i)] []) post := by kernel_rfl
theorem vcJoin (l : List (List UInt8)) (post : P × List (Nat × En) → Prop) : (∃ (l_1 : List (List UInt8)), ∃ (c : List UInt8), [P.d (D.sl 1 (List.map D.str l)), P.d (D.str [(47 : UInt8)])] = [P.d (D.sl 1 (List.map D.str l_1)), P.d (D.str c)] ∧ EqR [] [] ∧ (List.length l_1 ≤ 140737488355328 ∧ List.length (Lib.join l_1 c) ≤ 140737488355328) ∧ bif decide (1 + List.length (Lib.join l_1 c) ≤ 9223372036854775807) then post (P.d (D.str ([(47 : UInt8)] ++ Lib.join l_1 c)), []) else False) = (bodyF [(70, hJoinL)] [] 52 [tD l] []) post := by kernel_rfl
end Pi

/- Pathname: the loops and small functions. -/
namespace Pi
open Go Go.Proofs
set_option maxRecDepth 100000
section
variable {X : XF}
theorem okTrim : FD X 66 hTrim := FD.ofX Tryz.func66 (by kernel_rfl) (by kernel_rfl) (by
  intro ps R post hh
  obtain ⟨s, c, rfl, rfl, hc, hp⟩ := hh
  refine ⟨_, ?_, hp⟩
  show xTrim [.d (.str s), .d (.str c)] [] = _
  exact if_pos hc)
theorem strsOf_map : ∀ l : List (List UInt8), strsOf (l.map D.str) = some l
  | [] => rfl
  | x :: l => by simp [strsOf, strsOf_map l]
theorem okJoinL : FD X 70 hJoinL := FD.ofX Tryz.func70 (by kernel_rfl) (by kernel_rfl) (by
  intro ps R post hh
  obtain ⟨l, c, rfl, rfl, hc, hp⟩ := hh
  refine ⟨_, ?_, hp⟩
  show xJoin [.d (.sl 1 (l.map D.str)), .d (.str c)] [] = _
  unfold xJoin
  simp only [strsOf_map]
  exact if_pos hc)
theorem okName : FD X 48 hName := FD.mk (H := [(66, hTrim)]) (hk := []) (by kernel_rfl) (.cons okTrim .nil) .nil (by
  intro ps R post hh
  obtain ⟨s, rfl, rfl, hp⟩ := hh
  rw [← vcName]
  refine condI (fun h1 => condP (fun h2 => condI (fun h3 => condI (fun h4 => ⟨s, signsL, rfl, rfl, ⟨by omega, by decide, by decide⟩, ?_⟩) fun h4 => ?_) fun h3 => ?_) fun h2 => ?_) fun h1 => ?_
  · refine leafB hp ?_
    rw [Bool.eq_iff_iff, nameOk, beq_iff_eq, trim_nil]
    simp only [signs_name, decide_eq_true_eq]
    constructor
    · intro h; exact h.2.2.2.2
    · intro h; exact ⟨by simpa using h1, by omega, by simpa using h3, by simpa using h4, h⟩
  · exact leafB hp (decF fun h => by simp at h4; exact h.2.2.2.1 h4)
  · exact leafB hp (decF fun h => by simp at h3; exact h.2.2.1 h3)
  · exact leafB hp (decF fun h => by omega)
  · exact leafB hp (decF fun h => by simp at h1; exact h.1 h1))
/-- A byte, and whether it may stand in a name. -/
theorem nameB_iff (b : UInt8) : nameB b = true ↔ ((48 ≤ (b.toNat : Int) ∧ (b.toNat : Int) ≤ 57) ∨ (65 ≤ (b.toNat : Int) ∧ (b.toNat : Int) ≤ 90) ∨ (97 ≤ (b.toNat : Int) ∧ (b.toNat : Int) ≤ 122) ∨ (b.toNat : Int) = 46 ∨ (b.toNat : Int) = 45 ∨ (b.toNat : Int) = 95) := by
  unfold nameB
  simp only [decide_eq_true_eq]
  omega
theorem allBytes (p : UInt8 → Bool) (s : List UInt8) : (∀ b ∈ s, p b = true) ↔ ∀ i : Nat, i < s.length → p (s.getD i 0) = true := by
  constructor
  · intro h i hi
    have := h s[i] (List.getElem_mem hi)
    simpa [List.getD_eq_getElem?_getD, hi] using this
  · intro h x hx
    obtain ⟨i, hi, rfl⟩ := List.getElem_of_mem hx
    have := h i hi
    simpa [List.getD_eq_getElem?_getD, hi] using this
def gNm : S → K (PX × S) := fun s post => ∃ l, s = nmH l 0 ∧ l.length ≤ 32 ∧ (¬ (∀ b ∈ l, nameB b = true) → post (.ret, ⟨64, [(2, bD' false)], []⟩)) ∧ ((∀ b ∈ l, nameB b = true) → post (.exit 0, ⟨64, [], []⟩))
theorem loopNm : LD X 44 4 (loopHook (kpF 44 4) gNm) := LD.par (H := []) (hk := []) (by kernel_rfl) (by kernel_rfl) .nil .nil
  (A := List UInt8) (B := Int) (fun a k => nmH a k)
  (fun a k => a.length ≤ 32 ∧ 0 ≤ k ∧ k ≤ a.length ∧ ∀ i : Nat, (i : Int) < k → nameB (a.getD i 0) = true)
  (fun a k => (a.length - k).toNat)
  (fun a x => ((¬ ∀ b ∈ a, nameB b = true) ∧ x = (.ret, ⟨64, [(2, bD' false)], []⟩)) ∨ ((∀ b ∈ a, nameB b = true) ∧ x = (.exit 0, ⟨64, [], []⟩)))
  (by
    rintro l k ⟨hs, h0, h1, he⟩
    rw [← vcNmN]
    have hb := nameB_iff (l.getD k.toNat 0)
    have hno : ¬ nameB (l.getD k.toNat 0) = true → k < l.length → ¬ ∀ b ∈ l, nameB b = true := fun h hk hh => h ((allBytes _ l).1 hh k.toNat (by omega))
    have hyes : nameB (l.getD k.toNat 0) = true → k < l.length → roundPost (l.length - k).toNat (fun m s => ∃ b', s = nmH l b' ∧ (l.length ≤ 32 ∧ 0 ≤ b' ∧ b' ≤ (l.length : Int) ∧ ∀ i : Nat, (i : Int) < b' → nameB (l.getD i 0) = true) ∧ m = (l.length - b').toNat) (fun x => ((¬ ∀ b ∈ l, nameB b = true) ∧ x = (.ret, ⟨64, [(2, bD' false)], []⟩)) ∨ ((∀ b ∈ l, nameB b = true) ∧ x = (.exit 0, ⟨64, [], []⟩))) (PX.normal, nmH l (k + 1)) := fun h hk =>
      ⟨_, by omega, k + 1, rfl, ⟨hs, by omega, by omega, fun i hi => by
          by_cases e : (i : Int) = k
          · have : i = k.toNat := by omega
            rw [this]; exact h
          · exact he i (by omega)⟩, rfl⟩
    generalize (((l.getD k.toNat 0).toNat : Nat) : Int) = b at *
    refine condP (fun h => oblP (by omega) ?_) fun h => .inr ⟨(allBytes _ l).2 fun i hi => he i (by omega), rfl⟩
    repeat' (first | refine condP (fun _ => ?_) (fun _ => ?_) | refine condE (fun _ => ?_) (fun _ => ?_) | refine condN (fun _ => ?_) (fun _ => ?_))
    all_goals first
      | exact absurd (incI (k := k) (by omega) (by omega)) (by simp; omega)
      | exact hyes (hb.2 (by omega)) h
      | exact .inl ⟨hno (fun hh => by have := hb.1 hh; omega) h, rfl⟩)
  (by
    rintro s post ⟨l, rfl, h1, h2, h3⟩
    refine ⟨l, 0, rfl, ⟨h1, by omega, by omega, fun i hi => by omega⟩, ?_⟩
    rintro x (⟨h, rfl⟩ | ⟨h, rfl⟩)
    · exact h2 h
    · exact h3 h)
end
end Pi

/- Pathname: more loops. -/
namespace Pi
open Go Go.Proofs
set_option maxRecDepth 100000
section
variable {X : XF}
theorem isDs (x : List UInt8) : isD PR 9 (.str x) = true := by kernel_rfl
theorem tx_nth {l : List (List UInt8)} {i : Nat} (h : i < l.length) : D.nth (l.map D.str) i = .str (l.getD i []) := by
  simp [D.nth, h]
def gSe : S → K (PX × S) := fun s post => ∃ l, s = seH l 0 ∧ l.length ≤ 2000000 ∧ (126 ∈ l → post (.ret, ⟨33, [(0, sD l), (2, bD' (seenOk l))], []⟩)) ∧ (126 ∉ l → post (.exit 0, ⟨33, [(0, sD l)], []⟩))
theorem loopSe (hN : FD X 44 hName) : LD X 43 2 (loopHook (kpF 43 2) gSe) := LD.par (H := [(63, hParseR), (44, hName)]) (hk := []) (by kernel_rfl) (by kernel_rfl) (.cons okParseR (.cons hN .nil)) .nil
  (A := List UInt8) (B := Int) (fun a k => seH a k)
  (fun a k => a.length ≤ 2000000 ∧ 0 ≤ k ∧ k ≤ (pre 126 a).length)
  (fun a k => ((pre 126 a).length - k).toNat)
  (fun a x => (126 ∈ a ∧ x = (.ret, ⟨33, [(0, sD a), (2, bD' (seenOk a))], []⟩)) ∨ (126 ∉ a ∧ x = (.exit 0, ⟨33, [(0, sD a)], []⟩)))
  (by
    rintro l k ⟨hs, h0, h1⟩
    rw [← vcSeN]
    have hle := pre_le 126 l
    have hb : ∀ b : UInt8, ((b.toNat : Nat) : Int) = 126 ↔ b = 126 := fun b => ⟨fun e => UInt8.toNat_inj.1 (by simp; omega), fun e => by subst e; rfl⟩
    refine condP (fun h => oblP ⟨h0, h⟩ (condE (fun h' => ?_) fun h' => ?_)) fun h => ?_
    · rw [hb] at h'
      have hk : k = (pre 126 l).length := by
        refine Classical.byContradiction fun hc => ?_
        exact pre_in (c := 126) (s := l) (i := k.toNat) (by omega) h'
      have hm : 126 ∈ l := by
        have : l.getD k.toNat 0 = l[k.toNat]'(by omega) := by simp [List.getD_eq_getElem?_getD, show k.toNat < l.length by omega]
        rw [this] at h'
        rw [← h']
        exact List.getElem_mem _
      have e1 : (k + 1).toNat = (pre 126 l).length + 1 := by omega
      have e2 : k.toNat = (pre 126 l).length := by omega
      refine oblI (incI (by omega) (by omega)) (oblP (by omega) ⟨_, rfl, rfl, by simp; omega, fun hno => ?_, fun t r i hyes => oblP (by omega) ⟨_, rfl, rfl, ?_⟩⟩)
      · rw [e1, List.take_length] at hno
        refine .inl ⟨hm, ?_⟩
        have : seenOk l = false := by simp [seenOk, hm, hno]
        rw [this]
      · rw [e1, List.take_length] at hyes
        refine .inl ⟨hm, ?_⟩
        have : seenOk l = nameOk (pre 126 l) := by simp [seenOk, hyes]
        rw [this, e2, List.drop_zero, pre_take]
    · rw [ne_eq, hb] at h'
      have hlt : k < (pre 126 l).length := by
        refine Classical.byContradiction fun hc => h' ?_
        have e2 : k.toNat = (pre 126 l).length := by omega
        rw [e2]
        exact pre_stop (by omega)
      exact oblI (incI (by omega) (by omega)) ⟨_, by omega, k + 1, rfl, ⟨hs, by omega, by omega⟩, rfl⟩
    · exact .inr ⟨pre_full.1 (by omega), rfl⟩)
  (by
    rintro s post ⟨l, rfl, h1, h2, h3⟩
    refine ⟨l, 0, rfl, ⟨h1, by omega, by omega⟩, ?_⟩
    rintro x (⟨h, rfl⟩ | ⟨h, rfl⟩)
    · exact h2 h
    · exact h3 h)
def AllSeen (l : List (List UInt8)) : Prop := ∀ x ∈ l, seenOk x = true
theorem allSeen_nat (l : List (List UInt8)) : AllSeen l ↔ ∀ i : Nat, i < l.length → seenOk (l.getD i []) = true := by
  constructor
  · intro h i hi
    have := h l[i] (List.getElem_mem hi)
    simpa [List.getD_eq_getElem?_getD, hi] using this
  · intro h x hx
    obtain ⟨i, hi, rfl⟩ := List.getElem_of_mem hx
    have := h i hi
    simpa [List.getD_eq_getElem?_getD, hi] using this
def gSp : S → K (PX × S) := fun s post => ∃ l m m' n, s = spH l m m' n 0 ∧ (m' = l.length ∧ n = l.length ∧ l.length ≤ 2000001 ∧ ∀ x ∈ l, x.length ≤ 2000000) ∧
  (¬ AllSeen l → post (.ret, ⟨36, [(2, .sl 0 0 0), (3, iD 70), (6, .sl 1 0 m)], [(0, ⟨0, none, .arr 9 false []⟩), (1, ⟨0, none, .arr 9 false (l.map D.str)⟩)]⟩)) ∧
  (AllSeen l → post (.exit 1, ⟨36, [(6, .sl 0 0 m)], [(0, ⟨0, none, .arr 9 false (l.map D.str)⟩)]⟩))
theorem tx_push {o : List (List UInt8)} {m : Nat} (h : m = o.length) (x : List UInt8) : List.take m (o.map D.str) ++ [D.str x] = (o ++ [x]).map D.str := by
  subst h
  rw [List.take_of_length_le (by simp)]
  simp
theorem room16 {m : Nat} (h : m ≤ 3000000) (x : D) : roomOk (m + List.length [x]) 16 = true := roomOk_small (by simp; omega) (by simp; omega)
def gSr : S → K (PX × S) := fun s post => ∃ l es, s = ⟨51, [(0, sD l), (4, .sl 0 0 0), (5, iD 1), (6, iD 1)], [(0, ⟨0, none, .arr 9 false es⟩)]⟩ ∧ (es = [] ∧ 1 ≤ l.length ∧ l.length ≤ 2000000) ∧
  (∀ (m : Nat) (o : List (List UInt8)), ¬ AllSeen (splitBy 47 (l.drop 1)) → post (.ret, ⟨51, [(2, .sl 0 0 0), (3, iD 70), (4, .sl 1 0 m)], [(0, ⟨0, none, .arr 9 false []⟩), (1, ⟨0, none, .arr 9 false (o.map D.str)⟩)]⟩)) ∧
  (∀ m, m = (splitBy 47 (l.drop 1)).length → AllSeen (splitBy 47 (l.drop 1)) → post (.exit 0, ⟨51, [(4, .sl 0 0 m)], [(0, ⟨0, none, .arr 9 false ((splitBy 47 (l.drop 1)).map D.str)⟩)]⟩))
/-- Where the document's walk through a path stands. -/
def SrInv (l : List UInt8) (o : List (List UInt8)) (f i : Int) : Prop :=
  AllSeen o ∧ o.length ≤ i ∧ ((1 ≤ f ∧ f ≤ i ∧ i ≤ l.length ∧ (∀ j : Nat, f ≤ j → (j : Int) < i → l.getD j 0 ≠ 47) ∧ o ++ splitBy 47 (l.drop f.toNat) = splitBy 47 (l.drop 1)) ∨ (i = l.length + 1 ∧ o = splitBy 47 (l.drop 1)))
theorem piece_no {l : List UInt8} {f i : Int} (h0 : 0 ≤ f) (h1 : f ≤ i) (hi : i ≤ l.length) (h : ∀ j : Nat, f ≤ j → (j : Int) < i → l.getD j 0 ≠ 47) : (47 : UInt8) ∉ (l.take i.toNat).drop f.toNat := by
  intro hm
  obtain ⟨j, hj, e⟩ := List.getElem_of_mem hm
  simp at hj
  have := h (f.toNat + j) (by omega) (by omega)
  refine this ?_
  rw [List.getElem_drop, List.getElem_take] at e
  simp [List.getD_eq_getElem?_getD, show f.toNat + j < l.length by omega, e]
theorem drop_cut {l : List UInt8} {f i : Int} (h0 : 0 ≤ f) (h1 : f ≤ i) (hi : i < l.length) : l.drop f.toNat = (l.take i.toNat).drop f.toNat ++ l.getD i.toNat 0 :: l.drop (i + 1).toNat := by
  have e : (i + 1).toNat = i.toNat + 1 := by omega
  have h2 : l.drop i.toNat = l.getD i.toNat 0 :: l.drop (i.toNat + 1) := by
    rw [List.drop_eq_getElem_cons (by omega)]
    simp [List.getD_eq_getElem?_getD, show i.toNat < l.length by omega]
  rw [e, ← h2]
  conv => lhs; rw [← List.take_append_drop i.toNat l]
  rw [List.drop_append, show f.toNat - (l.take i.toNat).length = 0 by simp; omega, List.drop_zero]
end
end Pi

/- Pathname: the functions: what their runs ask. -/
namespace Pi
open Go Go.Proofs
set_option maxRecDepth 100000
set_option maxHeartbeats 0
def joinR (l : List (List UInt8)) : List UInt8 := l.flatMap fun x => 47 :: x
def sumL (l : List (List UInt8)) : Nat := (joinR l).length
def gJn : S → K (PX × S) := fun s post => ∃ l, s = jnH l [] 0 ∧ sumL l ≤ 2000000 ∧ post (.exit 0, ⟨21, [(3, sD (joinR l))], []⟩)
def gSt : S → K (PX × S) := fun s post => ∃ v w, s = stH v w 0 ∧ (v.length = w.length ∧ v.length ≤ 3000000) ∧ (v ≠ w → post (.ret, ⟨26, [(4, bD' false)], []⟩)) ∧ (v = w → post (.exit 0, ⟨26, [], []⟩))
def hSameT : KF1 := fun ps R post => ∃ v w, ps = [tD v, tD w] ∧ R = [] ∧ v.length ≤ 3000000 ∧ post (bD' (decide (v = w)), [])
def hJoinP : KF1 := fun ps R post => ∃ l, ps = [tD l] ∧ R = [] ∧ sumL l ≤ 2000000 ∧ post (sD (joinP l), [])
theorem vcNameR (s : List UInt8) (post : P × List (Nat × En) → Prop) : (bif s == [] then post (P.d (D.bool false), []) else bif decide ((↑(List.length s) : Int) > (32 : Int)) then post (P.d (D.bool false), []) else bif s == [(46 : UInt8)] then post (P.d (D.bool false), []) else bif s == [(46 : UInt8), (46 : UInt8)] then post (P.d (D.bool false), []) else ∃ (l : List UInt8), S.mk 64 [(0, P.d (D.str s)), (3, P.d (D.int IntKind.i64 (0 : Int)))] [] = S.mk 64 [(0, P.d (D.str l)), (3, P.d (D.int IntKind.i64 (0 : Int)))] [] ∧ List.length l ≤ 32 ∧ ((¬∀ (b : UInt8), b ∈ l → nameB b = true) → post (P.d (D.bool false), [])) ∧ ((∀ (b : UInt8), b ∈ l → nameB b = true) → post (P.d (D.bool true), []))) = (bodyF [] [(4, loopHook (kpF 44 4) gNm)] 44 [sD s] []) post := by kernel_rfl
theorem vcSeenR (s : List UInt8) (post : P × List (Nat × En) → Prop) : (∃ (l : List UInt8), S.mk 33 [(0, P.d (D.str s)), (3, P.d (D.int IntKind.i64 (0 : Int)))] [] = S.mk 33 [(0, P.d (D.str l)), (3, P.d (D.int IntKind.i64 (0 : Int)))] [] ∧ List.length l ≤ 2000000 ∧ ((126 : UInt8) ∈ l → post (P.d (D.bool (seenOk l)), [])) ∧ (¬(126 : UInt8) ∈ l → ∃ (s : List UInt8), [P.d (D.str l)] = [P.d (D.str s)] ∧ EqR [] [] ∧ post (P.d (D.bool (nameOk s)), []))) = (bodyF [(44, hName)] [(2, loopHook (kpF 43 2) gSe)] 43 [sD s] []) post := by kernel_rfl
end Pi

/- Pathname: the functions. -/
namespace Pi
open Go Go.Proofs
set_option maxRecDepth 100000
section
variable {X : XF}
theorem okNameR : FD X 44 hName := FD.mk (H := []) (hk := [(4, loopHook (kpF 44 4) gNm)]) (by kernel_rfl) .nil (.cons loopNm .nil) (by
  intro ps R post hh
  obtain ⟨s, rfl, rfl, hp⟩ := hh
  rw [← vcNameR]
  refine condI (fun h1 => ?_) fun h1 => condP (fun h2 => ?_) fun h2 => condI (fun h3 => ?_) fun h3 => condI (fun h4 => ?_) fun h4 => ⟨s, rfl, by omega, fun hno => ?_, fun hyes => ?_⟩
  · exact leafB hp (decF fun h => h.1 (by simpa using h1))
  · exact leafB hp (decF fun h => by omega)
  · exact leafB hp (decF fun h => h.2.2.1 (by simpa using h3))
  · exact leafB hp (decF fun h => h.2.2.2.1 (by simpa using h4))
  · exact leafB hp (decF fun h => hno h.2.2.2.2)
  · exact leafB hp (decT ⟨by simpa using h1, by omega, by simpa using h3, by simpa using h4, hyes⟩))
theorem okSeenR : FD X 43 hSeen := FD.mk (H := [(44, hName)]) (hk := [(2, loopHook (kpF 43 2) gSe)]) (by kernel_rfl) (.cons okNameR .nil) (.cons (loopSe okNameR) .nil) (by
  intro ps R post hh
  obtain ⟨s, rfl, rfl, hs, hp⟩ := hh
  rw [← vcSeenR]
  exact ⟨s, rfl, hs, fun _ => hp, fun hm => ⟨s, rfl, rfl, leafB hp (by simp [seenOk, hm, pre_all hm])⟩⟩)
theorem allSeen_iff (l : List (List UInt8)) : l.all seenOk = true ↔ AllSeen l := by simp [AllSeen]
theorem splitP_no {s : List UInt8} (h : ∀ r, s ≠ 47 :: r) : splitP s = (71, []) := by
  unfold splitP
  split
  · rename_i r; exact absurd rfl (h r)
  · rfl
theorem splitP_cons (r : List UInt8) : splitP (47 :: r) = if r = [] then (0, []) else if (splitBy 47 r).all seenOk = true then (if 20 < (splitBy 47 r).length then (2, []) else (0, splitBy 47 r)) else (70, []) := rfl
theorem joinR_take {l : List (List UInt8)} {i : Nat} (h : i < l.length) : joinR (l.take (i + 1)) = joinR (l.take i) ++ [47] ++ l.getD i [] := by
  have e : l.take (i + 1) = l.take i ++ [l[i]] := by rw [List.take_add_one, List.getElem?_eq_getElem h]; rfl
  rw [e, joinR, List.flatMap_append]
  simp [joinR, List.getD_eq_getElem?_getD, h]
theorem joinR_le (l : List (List UInt8)) (i : Nat) : (joinR (l.take i)).length ≤ sumL l := by
  have e : joinR l = joinR (l.take i) ++ joinR (l.drop i) := by
    unfold joinR
    rw [← List.flatMap_append, List.take_append_drop]
  unfold sumL
  rw [e, List.length_append]
  omega
theorem sum_len (l : List (List UInt8)) : l.length ≤ sumL l := by
  induction l with
  | nil => simp
  | cons x l ih => simp [sumL, joinR] at ih ⊢; omega
theorem joinR_P : ∀ l : List (List UInt8), l ≠ [] → joinR l = joinP l
  | [], h => absurd rfl h
  | [x], _ => by simp [joinR, joinP, join_one]
  | x :: y :: l, _ => by
    have ih := joinR_P (y :: l) (by simp)
    rw [joinP, join_cons2]
    rw [joinP] at ih
    rw [← ih]
    simp [joinR]
theorem joinP_len (l : List (List UInt8)) : (joinP l).length ≤ sumL l + 1 := by
  cases l with
  | nil => simp [joinP, Lib.join, List.intercalate]
  | cons x l => rw [← joinR_P (x :: l) (by simp)]; unfold sumL; omega
theorem okJoin : FD X 52 hJoinP := FD.mk (H := [(70, hJoinL)]) (hk := []) (by kernel_rfl) (.cons okJoinL .nil) .nil (by
  intro ps R post hh
  obtain ⟨l, rfl, rfl, hl, hp⟩ := hh
  rw [← vcJoin]
  have h1 := sum_len l
  have h2 := joinP_len l
  simp [joinP] at h2
  exact ⟨l, [47], rfl, rfl, ⟨by omega, by omega⟩, oblP (by omega) hp⟩)
theorem ext_getT {a b : List (List UInt8)} (hl : a.length = b.length) (h : ∀ i, i < a.length → a.getD i [] = b.getD i []) : a = b := by
  apply List.ext_getElem hl
  intro i h1 h2
  have := h i h1
  simpa [List.getD_eq_getElem?_getD, h1, h2] using this
theorem textId_nil {t r i : Int} : textId t r i = [] ↔ rightId t r i = false := by
  unfold textId
  split
  · rename_i h
    simp [h, textS]
  · rename_i h
    simpa using h
theorem okClash : FD X 51 hClash := FD.mk (H := [(48, hName), (69, hText)]) (hk := []) (by kernel_rfl) (.cons okName (.cons okText .nil)) .nil (by
  intro ps R post hh
  obtain ⟨s, t, r, i, rfl, rfl, hp⟩ := hh
  rw [← vcClash]
  unfold clashP at hp
  refine ⟨t, r, i, rfl, rfl, s, rfl, rfl, condI (fun h => ?_) fun h => condI (fun h2 => ?_) fun h2 => ?_⟩
  · rw [if_neg (by simpa using h)] at hp; exact hp
  · have h2 : rightId t r i = false := textId_nil.1 (by simpa using h2)
    rw [if_pos (by simpa using h), if_neg (by simp [h2])] at hp; exact hp
  · have hn : nameOk s = true := by simpa using h
    have hi : rightId t r i = true := by
      cases hi : rightId t r i with
      | true => rfl
      | false => rw [textId_nil.2 hi] at h2; simp at h2
    rw [if_pos hn, if_pos hi] at hp
    have hl := textId_len t r i
    simp only [nameOk, decide_eq_true_eq] at hn
    refine oblP (by omega) (oblP (by simp; omega) ?_)
    rw [textId, if_pos hi]
    simpa using hp)
theorem okClashR : FD X 24 hClash := FD.mk (H := [(44, hName), (45, hText)]) (hk := []) (by kernel_rfl) (.cons okNameR (.cons okTextR .nil)) .nil (by
  intro ps R post hh
  obtain ⟨s, t, r, i, rfl, rfl, hp⟩ := hh
  rw [← vcClashR]
  unfold clashP at hp
  refine ⟨s, rfl, rfl, condI (fun h => ?_) fun h => ⟨t, r, i, rfl, rfl, condI (fun h2 => ?_) fun h2 => ?_⟩⟩
  · rw [if_neg (by simpa using h)] at hp; exact hp
  · have h2 : rightId t r i = false := textId_nil.1 (by simpa using h2)
    rw [if_pos (by simpa using h), if_neg (by simp [h2])] at hp; exact hp
  · have hn : nameOk s = true := by simpa using h
    have hi : rightId t r i = true := by
      cases hi : rightId t r i with
      | true => rfl
      | false => rw [textId_nil.2 hi] at h2; simp at h2
    rw [if_pos hn, if_pos hi] at hp
    have hl := textId_len t r i
    simp only [nameOk, decide_eq_true_eq] at hn
    refine oblP (by omega) (oblP (by simp; omega) ?_)
    rw [textId, if_pos hi]
    simpa using hp)
end
end Pi

/- Pathname: the laws: what their runs ask. -/
namespace Pi
open Go Go.Proofs
set_option maxRecDepth 100000
set_option maxHeartbeats 0
def hAwake7 : KF1 := fun ps R post => ps = [] ∧ R = [] ∧ post (.d (.bool true), [])
def hJoinN : KF1 := fun ps R post => ps = [.d .nils] ∧ R = [] ∧ post (sD [47], [])
theorem vcJoinN  (post : P × List (Nat × En) → Prop) : (∃ (l : List (List UInt8)), ∃ (c : List UInt8), [P.d (D.sl 1 []), P.d (D.str [(47 : UInt8)])] = [P.d (D.sl 1 (List.map D.str l)), P.d (D.str c)] ∧ EqR [] [] ∧ (List.length l ≤ 140737488355328 ∧ List.length (Lib.join l c) ≤ 140737488355328) ∧ bif decide (1 + List.length (Lib.join l c) ≤ 9223372036854775807) then post (P.d (D.str ([(47 : UInt8)] ++ Lib.join l c)), []) else False) = (bodyF [(70, hJoinL)] [] 52 [.d .nils] []) post := by kernel_rfl
abbrev bkH (l : List (List UInt8)) (k : Int) : S := ⟨78, [(1, tD l), (5, .d (.bool true)), (8, iD k)], []⟩
def gBk : S → K (PX × S) := fun s post => ∃ l, s = bkH l 0 ∧ (l.length ≤ 100 ∧ ∀ x ∈ l, x.length ≤ 2000000) ∧ (¬ AllSeen l → post (.ret, ⟨78, [(1, tD l), (4, .d (.bool true)), (5, .d (.bool true))], []⟩)) ∧ (AllSeen l → post (.exit 0, ⟨78, [(1, tD l), (5, .d (.bool true))], []⟩))
end Pi

/- Pathname: the laws. -/
namespace Pi
open Go Go.Proofs
set_option maxRecDepth 100000
section
variable {X : XF}
theorem okJoinN : FD X 52 hJoinN := FD.mk (H := [(70, hJoinL)]) (hk := []) (by kernel_rfl) (.cons okJoinL .nil) .nil (by
  intro ps R post hh
  obtain ⟨rfl, rfl, hp⟩ := hh
  rw [← vcJoinN]
  exact ⟨[], [47], rfl, rfl, ⟨by simp, by simp [Lib.join, List.intercalate]⟩, oblP (by simp [Lib.join, List.intercalate]) (by simpa [Lib.join, List.intercalate] using hp)⟩)
theorem parse_a : parse3 [51, 46, 49, 46, 48] = some (3, 1, 0) := by
  simp only [parse3, sp1, at1, at2, at3, tx1, rt1, and_self, if_true]
theorem seen_a : seenOk [97] = true := by
  have h : nameOk [97] = true := by decide +kernel
  have e : pre 126 [97] = [97] := by decide +kernel
  simp [seenOk, e, h]
theorem seen_b : seenOk [98, 126, 51, 46, 49, 46, 48] = true := by
  have h : nameOk [98] = true := by decide +kernel
  have e : pre 126 [98, 126, 51, 46, 49, 46, 48] = [98] := by decide +kernel
  simp [seenOk, e, h, parse_a]
theorem split_a : splitP [47, 97, 47, 98, 126, 51, 46, 49, 46, 48] = (0, [[97], [98, 126, 51, 46, 49, 46, 48]]) := by
  have e : splitBy 47 [97, 47, 98, 126, 51, 46, 49, 46, 48] = [[97], [98, 126, 51, 46, 49, 46, 48]] := by decide +kernel
  rw [splitP_cons, if_neg (by simp), e]
  simp [seen_a, seen_b]
theorem split_b : splitP [47, 97, 47] = (70, []) := by
  have e : splitBy 47 [97, 47] = [[97], []] := by decide +kernel
  have h : seenOk [] = false := by decide +kernel
  rw [splitP_cons, if_neg (by simp), e]
  simp [h]
theorem clash_a : clashP [98] 3 1 0 = ([98, 126, 51, 46, 49, 46, 48], 0) := by
  have h : nameOk [98] = true := by decide +kernel
  rw [clashP, if_pos h, if_pos rt1, tx1]
  rfl
theorem fitT {m : Nat} {x : D} (h : FitE PR (m + 2) 87 x) : ∃ l : List (List UInt8), x = .sl 1 (l.map D.str) := by
  obtain ⟨es, rfl, _, hy⟩ := fitE_slice (k := 1) Tryz.underlying87 (by kernel_rfl) h
  have : ∀ es : List D, (∀ y ∈ es, FitE PR (m + 1) 9 y) → ∃ l : List (List UInt8), es = l.map D.str := by
    intro es
    induction es with
    | nil => intro _; exact ⟨[], rfl⟩
    | cons y es ih =>
      intro hy
      obtain ⟨l, rfl⟩ := ih fun y h => hy y (.tail _ h)
      obtain ⟨s, rfl⟩ := fitS (hy y (.head _))
      exact ⟨s :: l, rfl⟩
  obtain ⟨l, rfl⟩ := this es hy
  exact ⟨l, rfl⟩
theorem bulk_texts : ∀ l : List (List UInt8), bulkL (l.map D.str) = sumL l
  | [] => rfl
  | x :: l => by
    have ih := bulk_texts l
    simp only [List.map_cons, bulkL, bulk1, ih]
    simp [sumL, joinR]
    omega

def hLawN : KF1 := fun ps R post => ∃ s t r i, ps = [sD s, .d (idD t r i)] ∧ R = [] ∧ s.length ≤ 2000000 ∧ post (.d (.bool true), [])
theorem tx_take {l : List (List UInt8)} {n : Nat} (h : n = l.length) : (l.map D.str).take n = l.map D.str := by
  subst h
  rw [List.take_of_length_le (by simp)]
theorem splitP_len (s : List UInt8) : (splitP s).2.length ≤ 20 := by
  unfold splitP
  split
  · split
    · simp
    · split
      · split
        · simp
        · simp only; omega
      · simp
  · simp
def hLawP : KF1 := fun ps R post => ∃ s l, ps = [sD s, tD l] ∧ R = [] ∧ sumL l ≤ 1500000 ∧ post (.d (.bool true), [])
theorem sum_mem {l : List (List UInt8)} {x : List UInt8} (h : x ∈ l) : x.length ≤ sumL l := by
  induction l with
  | nil => cases h
  | cons y l ih =>
    rcases List.mem_cons.1 h with rfl | h
    · simp [sumL, joinR]; omega
    · have := ih h
      simp [sumL, joinR] at this ⊢; omega
end
end Pi

/- Pathname: what clashes tell: the law. -/
namespace Pi
open Go Go.Proofs
set_option maxRecDepth 100000
section
variable {X : XF}
theorem clash_fst (s : List UInt8) (t r i : Int) : (clashP s t r i).1.length ≤ 2000000 := by
  unfold clashP
  split
  · rename_i h
    split
    · rename_i h'
      have := textId_len t r i
      have hl : (textId t r i).length ≤ 66 := by
        rw [textId, if_pos h']
        simp only [rightId, decide_eq_true_eq] at h'
        have l1 := itoa_len21 (n := t) (by omega) (by omega)
        have l2 := itoa_len21 (n := r) (by omega) (by omega)
        have l3 := itoa_len21 (n := i) (by omega) (by omega)
        simp [textS]; omega
      rw [textId, if_pos h'] at hl
      simp only [nameOk, decide_eq_true_eq] at h
      simp; omega
    · simp
  · simp
theorem clash_snd (s : List UInt8) (t r i : Int) : (clashP s t r i).2 = 0 ↔ (nameOk s = true ∧ rightId t r i = true) := by
  unfold clashP
  split
  · rename_i h
    split
    · rename_i h'; simp [h, h']
    · rename_i h'; simp [h']
  · rename_i h; simp [h]
theorem clash_ok {s : List UInt8} {t r i : Int} (h : (clashP s t r i).2 = 0) : nameOk (clashP s t r i).1 = false ∧ seenOk (clashP s t r i).1 = true ∧ nameOk s = true ∧ rightId t r i = true := by
  obtain ⟨h1, h2⟩ := (clash_snd s t r i).1 h
  rw [clashP, if_pos h1, if_pos h2]
  exact ⟨clash_name, clash_seen h1 h2, h1, h2⟩
theorem clash_eq {s t : List UInt8} {a b c a' b' c' : Int} (h : (clashP s a b c).2 = 0) (h' : (clashP t a' b' c').2 = 0) : ((clashP s a b c).1 == (clashP t a' b' c').1) = (s == t && (a == a' && (b == b' && true) && (c == c' && true))) := by
  obtain ⟨h1, h2⟩ := (clash_snd s a b c).1 h
  obtain ⟨h3, h4⟩ := (clash_snd t a' b' c').1 h'
  rw [clashP, if_pos h1, if_pos h2, clashP, if_pos h3, if_pos h4, Bool.eq_iff_iff]
  simp only [beq_iff_eq, Bool.and_eq_true, and_true]
  constructor
  · intro e
    obtain ⟨e1, e2, e3, e4⟩ := clash_inj h1 h2 h3 h4 e
    exact ⟨e1, ⟨e2, e3⟩, e4⟩
  · rintro ⟨rfl, ⟨rfl, rfl⟩, rfl⟩
    rfl
def hLawC : KF1 := fun ps R post => ∃ s t a b c a' b' c', ps = [sD s, sD t, .d (idD a b c), .d (idD a' b' c')] ∧ R = [] ∧ post (.d (.bool true), [])
end
end Pi

/- Tree: taken, way: what their runs ask. -/
namespace Pi
open Go Go.Proofs
set_option maxRecDepth 100000
set_option maxHeartbeats 0
abbrev Id3 := Int × Int × Int
def ixD (x : Id3) : D := .agg [.int .i64 x.1, .int .i64 x.2.1, .int .i64 x.2.2]
abbrev idsP (l : List Id3) : P := .d (.sl 3 (l.map ixD))
/-- A place: node, parent, name, is it a directory. -/
abbrev Pl := Id3 × Id3 × List UInt8 × Bool
def plD (p : Pl) : D := .agg [.int .i64 p.1.1, .int .i64 p.1.2.1, .int .i64 p.1.2.2, .int .i64 p.2.1.1, .int .i64 p.2.1.2.1, .int .i64 p.2.1.2.2, .str p.2.2.1, .bool p.2.2.2]
abbrev plsP (l : List Pl) : P := .d (.sl 8 (l.map plD))
/-- The nodes' maps. -/
abbrev nodR (f1 f2 f3 f4 : D → Option D) (c1 c2 c3 c4 : Int) : List (Nat × En) :=
  [(0, ⟨0, none, .box 61 [.mp 1 0, .mp 2 0, .mp 3 0, .mp 4 0]⟩), (1, ⟨0, none, .map 41 f1 c1 false⟩), (2, ⟨0, none, .map 41 f2 c2 false⟩), (3, ⟨0, none, .map 41 f3 c3 false⟩), (4, ⟨0, none, .map 41 f4 c4 false⟩)]
abbrev tk3 (l : List Pl) (live : List Id3) (k : Int) (f1 : D → Option D) (c1 : Int) : S :=
  ⟨68, [(1, idsP live), (5, .ref 0 0 0), (18, plsP l), (19, .d (.int .i64 (l.length : Int))), (20, .d (.int .i64 k))], nodR f1 (fun _ => none) (fun _ => none) (fun _ => none) c1 0 0 0⟩
abbrev tk10 (live : List Id3) (k : Int) (f1 f2 : D → Option D) (c1 c2 : Int) : S :=
  ⟨68, [(5, .ref 0 0 0), (54, idsP live), (55, .d (.int .i64 (live.length : Int))), (56, .d (.int .i64 k))], nodR f1 f2 (fun _ => none) (fun _ => none) c1 c2 0 0⟩
/-- A map of ids, as data. -/
def mpD {α : Type} (enc : α → D) (m : Id3 → Option α) : D → Option D
  | .agg [.int .i64 a, .int .i64 b, .int .i64 c] => (m (a, b, c)).map enc
  | _ => none
def okPl (p : Pl) : Bool := rightId p.1.1 p.1.2.1 p.1.2.2 && nameOk p.2.2.1
/-- The place of a node. -/
def atPl (T : List Pl) (x : Id3) : Option Pl := T.find? fun p => p.1 == x
def tkS (T : List Pl) (p : Pl) : List Pl := if (atPl T p.1).isSome then T else if okPl p then T ++ [p] else T
def tkL (l : List Pl) : List Pl := l.foldl tkS []
def lvS (V : List Id3) (x : Id3) : List Id3 := if x ∈ V then V else V ++ [x]
def lvL (l : List Id3) : List Id3 := l.foldl lvS []
abbrev plM (T : List Pl) : D → Option D := mpD plD (atPl T)
abbrev inM (V : List Id3) : D → Option D := mpD (fun _ => .agg []) (fun x => if x ∈ V then some () else none)
abbrev noM : D → Option D := fun _ => none
def gTk3 : S → K (PX × S) := fun s post => ∃ l live, s = tk3 l live 0 noM 0 ∧ l.length ≤ 1000000 ∧ post (.exit 0, ⟨68, [(1, idsP live), (5, .ref 0 0 0)], nodR (plM (tkL l)) noM noM noM ((tkL l).length : Int) 0 0 0⟩)
def gTk10 : S → K (PX × S) := fun s post => ∃ live f1 c1, s = tk10 live 0 f1 noM c1 0 ∧ live.length ≤ 1000000 ∧ post (.exit 2, ⟨68, [(5, .ref 0 0 0)], nodR f1 (inM (lvL live)) noM noM c1 ((lvL live).length : Int) 0 0⟩)
theorem vcTk (l : List Pl) (live : List Id3) (post : P × List (Nat × En) → Prop) : (∃ (l_1 : List Pl), ∃ (live_1 : List Id3), S.mk 68 [(1, P.d (D.sl 3 (List.map ixD live))), (5, P.ref 0 0 0), (18, P.d (D.sl 8 (List.map plD l))), (19, P.d (D.int IntKind.i64 (↑(List.length (List.map plD l)) : Int))), (20, P.d (D.int IntKind.i64 (0 : Int)))] [(0, En.mk 0 none (Obj.box 61 [P.mp 1 0, P.mp 2 0, P.mp 3 0, P.mp 4 0])), (1, En.mk 0 none (Obj.map 41 (fun (_ : D) => none) (0 : Int) false)), (2, En.mk 0 none (Obj.map 41 (fun (_ : D) => none) (0 : Int) false)), (3, En.mk 0 none (Obj.map 41 (fun (_ : D) => none) (0 : Int) false)), (4, En.mk 0 none (Obj.map 41 (fun (_ : D) => none) (0 : Int) false))] = S.mk 68 [(1, P.d (D.sl 3 (List.map ixD live_1))), (5, P.ref 0 0 0), (18, P.d (D.sl 8 (List.map plD l_1))), (19, P.d (D.int IntKind.i64 (↑(List.length l_1) : Int))), (20, P.d (D.int IntKind.i64 (0 : Int)))] [(0, En.mk 0 none (Obj.box 61 [P.mp 1 0, P.mp 2 0, P.mp 3 0, P.mp 4 0])), (1, En.mk 0 none (Obj.map 41 (fun (_ : D) => none) (0 : Int) false)), (2, En.mk 0 none (Obj.map 41 (fun (_ : D) => none) (0 : Int) false)), (3, En.mk 0 none (Obj.map 41 (fun (_ : D) => none) (0 : Int) false)), (4, En.mk 0 none (Obj.map 41 (fun (_ : D) => none) (0 : Int) false))] ∧ List.length l_1 ≤ 1000000 ∧ ∃ (live : List Id3), ∃ (f1 : D → Option D), ∃ (c1 : Int), S.mk 68 [(5, P.ref 0 0 0), (54, P.d (D.sl 3 (List.map ixD live_1))), (55, P.d (D.int IntKind.i64 (↑(List.length (List.map ixD live_1)) : Int))), (56, P.d (D.int IntKind.i64 (0 : Int)))] [(0, En.mk 0 none (Obj.box 61 [P.mp 1 0, P.mp 2 0, P.mp 3 0, P.mp 4 0])), (1, En.mk 0 none (Obj.map 41 (fun (x : D) => match x with | D.agg [D.int IntKind.i64 a, D.int IntKind.i64 b, D.int IntKind.i64 c] => Option.map plD (atPl (tkL l_1) (a, b, c)) | _ => none) (↑(List.length (tkL l_1)) : Int) false)), (2, En.mk 0 none (Obj.map 41 (fun (_ : D) => none) (0 : Int) false)), (3, En.mk 0 none (Obj.map 41 (fun (_ : D) => none) (0 : Int) false)), (4, En.mk 0 none (Obj.map 41 (fun (_ : D) => none) (0 : Int) false))] = S.mk 68 [(5, P.ref 0 0 0), (54, P.d (D.sl 3 (List.map ixD live))), (55, P.d (D.int IntKind.i64 (↑(List.length live) : Int))), (56, P.d (D.int IntKind.i64 (0 : Int)))] [(0, En.mk 0 none (Obj.box 61 [P.mp 1 0, P.mp 2 0, P.mp 3 0, P.mp 4 0])), (1, En.mk 0 none (Obj.map 41 f1 c1 false)), (2, En.mk 0 none (Obj.map 41 (fun (_ : D) => none) (0 : Int) false)), (3, En.mk 0 none (Obj.map 41 (fun (_ : D) => none) (0 : Int) false)), (4, En.mk 0 none (Obj.map 41 (fun (_ : D) => none) (0 : Int) false))] ∧ List.length live ≤ 1000000 ∧ post (P.ref 0 0 0, [(0, En.mk 0 none (Obj.box 61 [P.mp 1 0, P.mp 2 0, P.mp 3 0, P.mp 4 0])), (1, En.mk 0 none (Obj.map 41 f1 c1 false)), (2, En.mk 0 none (Obj.map 41 (fun (x : D) => match x with | D.agg [D.int IntKind.i64 a, D.int IntKind.i64 b, D.int IntKind.i64 c] => Option.map (fun (_ : Unit) => D.agg []) ((fun (x : Id3) => if x ∈ lvL live then some () else none) (a, b, c)) | _ => none) (↑(List.length (lvL live)) : Int) false)), (3, En.mk 0 none (Obj.map 41 (fun (_ : D) => none) (0 : Int) false)), (4, En.mk 0 none (Obj.map 41 (fun (_ : D) => none) (0 : Int) false))])) = (bodyF [] [(3, loopHook (kpF 26 3) gTk3), (10, loopHook (kpF 26 10) gTk10)] 26 [plsP l, idsP live] []) post := by kernel_rfl
def hTaken : KF1 := fun ps R post => ∃ l live, ps = [plsP l, idsP live] ∧ R = [] ∧ (l.length ≤ 1000000 ∧ live.length ≤ 1000000) ∧ post (.ref 0 0 0, nodR (plM (tkL l)) (inM (lvL live)) noM noM ((tkL l).length : Int) ((lvL live).length : Int) 0 0)
theorem vcTk3 (l : List Pl) (live : List Id3) (k : Int) (f1 : D → Option D) (c1 : Int) (post : PX × S → Prop) : (bif decide (k < (↑(List.length l) : Int)) then bif decide ((0 : Int) ≤ k ∧ k < (↑(List.length (List.map plD l)) : Int)) then bif isD PR 47 (D.nth (List.map plD l) (Int.toNat k)) then bif isD PR 47 (getO (f1 (D.agg [D.int IntKind.i64 (D.iVal (D.cAt (D.nth (List.map plD l) (Int.toNat k)) 0)), D.int IntKind.i64 (D.iVal (D.cAt (D.nth (List.map plD l) (Int.toNat k)) 1)), D.int IntKind.i64 (D.iVal (D.cAt (D.nth (List.map plD l) (Int.toNat k)) 2))])) (D.agg [D.int IntKind.i64 (0 : Int), D.int IntKind.i64 (0 : Int), D.int IntKind.i64 (0 : Int), D.int IntKind.i64 (0 : Int), D.int IntKind.i64 (0 : Int), D.int IntKind.i64 (0 : Int), D.str [], D.bool false])) then bif !Option.isSome (f1 (D.agg [D.int IntKind.i64 (D.iVal (D.cAt (D.nth (List.map plD l) (Int.toNat k)) 0)), D.int IntKind.i64 (D.iVal (D.cAt (D.nth (List.map plD l) (Int.toNat k)) 1)), D.int IntKind.i64 (D.iVal (D.cAt (D.nth (List.map plD l) (Int.toNat k)) 2))])) then ∃ (t : Int), ∃ (r : Int), ∃ (i : Int), [P.d (D.agg [D.int IntKind.i64 (D.iVal (D.cAt (D.nth (List.map plD l) (Int.toNat k)) 0)), D.int IntKind.i64 (D.iVal (D.cAt (D.nth (List.map plD l) (Int.toNat k)) 1)), D.int IntKind.i64 (D.iVal (D.cAt (D.nth (List.map plD l) (Int.toNat k)) 2))])] = [P.d (D.agg [D.int IntKind.i64 t, D.int IntKind.i64 r, D.int IntKind.i64 i])] ∧ EqR [] [] ∧ bif rightId t r i then ∃ (s : List UInt8), [P.d (D.str (D.sVal (D.cAt (D.nth (List.map plD l) (Int.toNat k)) 6)))] = [P.d (D.str s)] ∧ EqR [] [] ∧ bif nameOk s then bif decide ((-9223372036854775808 : Int) ≤ k + (1 : Int) ∧ k + (1 : Int) ≤ (9223372036854775807 : Int)) then post (PX.normal, S.mk 68 [(1, P.d (D.sl 3 (List.map ixD live))), (5, P.ref 0 0 0), (18, P.d (D.sl 8 (List.map plD l))), (19, P.d (D.int IntKind.i64 (↑(List.length l) : Int))), (20, P.d (D.int IntKind.i64 (k + (1 : Int))))] [(0, En.mk 0 none (Obj.box 61 [P.mp 1 0, P.mp 2 0, P.mp 3 0, P.mp 4 0])), (1, En.mk 0 none (Obj.map 41 (fun (k' : D) => bif D.eqB (D.agg [D.int IntKind.i64 (D.iVal (D.cAt (D.nth (List.map plD l) (Int.toNat k)) 0)), D.int IntKind.i64 (D.iVal (D.cAt (D.nth (List.map plD l) (Int.toNat k)) (0 + 1))), D.int IntKind.i64 (D.iVal (D.cAt (D.nth (List.map plD l) (Int.toNat k)) (0 + 1 + 1)))]) k' then some (D.agg [D.int IntKind.i64 (D.iVal (D.cAt (D.nth (List.map plD l) (Int.toNat k)) 0)), D.int IntKind.i64 (D.iVal (D.cAt (D.nth (List.map plD l) (Int.toNat k)) (0 + 1))), D.int IntKind.i64 (D.iVal (D.cAt (D.nth (List.map plD l) (Int.toNat k)) (0 + 1 + 1))), D.int IntKind.i64 (D.iVal (D.cAt (D.nth (List.map plD l) (Int.toNat k)) (0 + 1 + 1 + 1))), D.int IntKind.i64 (D.iVal (D.cAt (D.nth (List.map plD l) (Int.toNat k)) (0 + 1 + 1 + 1 + 1))), D.int IntKind.i64 (D.iVal (D.cAt (D.nth (List.map plD l) (Int.toNat k)) (0 + 1 + 1 + 1 + 1 + 1))), D.str (D.sVal (D.cAt (D.nth (List.map plD l) (Int.toNat k)) (0 + 1 + 1 + 1 + 1 + 1 + 1))), D.bool (D.bVal (D.cAt (D.nth (List.map plD l) (Int.toNat k)) (0 + 1 + 1 + 1 + 1 + 1 + 1 + 1)))]) else f1 k') (bif Option.isSome (f1 (D.agg [D.int IntKind.i64 (D.iVal (D.cAt (D.nth (List.map plD l) (Int.toNat k)) 0)), D.int IntKind.i64 (D.iVal (D.cAt (D.nth (List.map plD l) (Int.toNat k)) 1)), D.int IntKind.i64 (D.iVal (D.cAt (D.nth (List.map plD l) (Int.toNat k)) 2))])) then c1 else c1 + (1 : Int)) false)), (2, En.mk 0 none (Obj.map 41 (fun (_ : D) => none) (0 : Int) false)), (3, En.mk 0 none (Obj.map 41 (fun (_ : D) => none) (0 : Int) false)), (4, En.mk 0 none (Obj.map 41 (fun (_ : D) => none) (0 : Int) false))]) else False else bif decide ((-9223372036854775808 : Int) ≤ k + (1 : Int) ∧ k + (1 : Int) ≤ (9223372036854775807 : Int)) then post (PX.normal, S.mk 68 [(1, P.d (D.sl 3 (List.map ixD live))), (5, P.ref 0 0 0), (18, P.d (D.sl 8 (List.map plD l))), (19, P.d (D.int IntKind.i64 (↑(List.length l) : Int))), (20, P.d (D.int IntKind.i64 (k + (1 : Int))))] [(0, En.mk 0 none (Obj.box 61 [P.mp 1 0, P.mp 2 0, P.mp 3 0, P.mp 4 0])), (1, En.mk 0 none (Obj.map 41 f1 c1 false)), (2, En.mk 0 none (Obj.map 41 (fun (_ : D) => none) (0 : Int) false)), (3, En.mk 0 none (Obj.map 41 (fun (_ : D) => none) (0 : Int) false)), (4, En.mk 0 none (Obj.map 41 (fun (_ : D) => none) (0 : Int) false))]) else False else bif decide ((-9223372036854775808 : Int) ≤ k + (1 : Int) ∧ k + (1 : Int) ≤ (9223372036854775807 : Int)) then post (PX.normal, S.mk 68 [(1, P.d (D.sl 3 (List.map ixD live))), (5, P.ref 0 0 0), (18, P.d (D.sl 8 (List.map plD l))), (19, P.d (D.int IntKind.i64 (↑(List.length l) : Int))), (20, P.d (D.int IntKind.i64 (k + (1 : Int))))] [(0, En.mk 0 none (Obj.box 61 [P.mp 1 0, P.mp 2 0, P.mp 3 0, P.mp 4 0])), (1, En.mk 0 none (Obj.map 41 f1 c1 false)), (2, En.mk 0 none (Obj.map 41 (fun (_ : D) => none) (0 : Int) false)), (3, En.mk 0 none (Obj.map 41 (fun (_ : D) => none) (0 : Int) false)), (4, En.mk 0 none (Obj.map 41 (fun (_ : D) => none) (0 : Int) false))]) else False else bif decide ((-9223372036854775808 : Int) ≤ k + (1 : Int) ∧ k + (1 : Int) ≤ (9223372036854775807 : Int)) then post (PX.normal, S.mk 68 [(1, P.d (D.sl 3 (List.map ixD live))), (5, P.ref 0 0 0), (18, P.d (D.sl 8 (List.map plD l))), (19, P.d (D.int IntKind.i64 (↑(List.length l) : Int))), (20, P.d (D.int IntKind.i64 (k + (1 : Int))))] [(0, En.mk 0 none (Obj.box 61 [P.mp 1 0, P.mp 2 0, P.mp 3 0, P.mp 4 0])), (1, En.mk 0 none (Obj.map 41 f1 c1 false)), (2, En.mk 0 none (Obj.map 41 (fun (_ : D) => none) (0 : Int) false)), (3, En.mk 0 none (Obj.map 41 (fun (_ : D) => none) (0 : Int) false)), (4, En.mk 0 none (Obj.map 41 (fun (_ : D) => none) (0 : Int) false))]) else False else False else False else False else post (PX.exit 0, S.mk 68 [(1, P.d (D.sl 3 (List.map ixD live))), (5, P.ref 0 0 0)] [(0, En.mk 0 none (Obj.box 61 [P.mp 1 0, P.mp 2 0, P.mp 3 0, P.mp 4 0])), (1, En.mk 0 none (Obj.map 41 f1 c1 false)), (2, En.mk 0 none (Obj.map 41 (fun (_ : D) => none) (0 : Int) false)), (3, En.mk 0 none (Obj.map 41 (fun (_ : D) => none) (0 : Int) false)), (4, En.mk 0 none (Obj.map 41 (fun (_ : D) => none) (0 : Int) false))])) = (roundL [(47, hRightId), (48, hName)] [] 26 3 (tk3 l live k f1 c1)) post := by kernel_rfl
theorem vcTk10 (live : List Id3) (k : Int) (f1 f2 : D → Option D) (c1 c2 : Int) (post : PX × S → Prop) : (bif decide (k < (↑(List.length live) : Int)) then bif decide ((0 : Int) ≤ k ∧ k < (↑(List.length (List.map ixD live)) : Int)) then bif isD PR 41 (D.nth (List.map ixD live) (Int.toNat k)) then bif decide ((-9223372036854775808 : Int) ≤ k + (1 : Int) ∧ k + (1 : Int) ≤ (9223372036854775807 : Int)) then post (PX.normal, S.mk 68 [(5, P.ref 0 0 0), (54, P.d (D.sl 3 (List.map ixD live))), (55, P.d (D.int IntKind.i64 (↑(List.length live) : Int))), (56, P.d (D.int IntKind.i64 (k + (1 : Int))))] [(0, En.mk 0 none (Obj.box 61 [P.mp 1 0, P.mp 2 0, P.mp 3 0, P.mp 4 0])), (1, En.mk 0 none (Obj.map 41 f1 c1 false)), (2, En.mk 0 none (Obj.map 41 (fun (k' : D) => bif D.eqB (D.agg [D.int IntKind.i64 (D.iVal (D.cAt (D.nth (List.map ixD live) (Int.toNat k)) 0)), D.int IntKind.i64 (D.iVal (D.cAt (D.nth (List.map ixD live) (Int.toNat k)) (0 + 1))), D.int IntKind.i64 (D.iVal (D.cAt (D.nth (List.map ixD live) (Int.toNat k)) (0 + 1 + 1)))]) k' then some (D.agg []) else f2 k') (bif Option.isSome (f2 (D.agg [D.int IntKind.i64 (D.iVal (D.cAt (D.nth (List.map ixD live) (Int.toNat k)) 0)), D.int IntKind.i64 (D.iVal (D.cAt (D.nth (List.map ixD live) (Int.toNat k)) 1)), D.int IntKind.i64 (D.iVal (D.cAt (D.nth (List.map ixD live) (Int.toNat k)) 2))])) then c2 else c2 + (1 : Int)) false)), (3, En.mk 0 none (Obj.map 41 (fun (_ : D) => none) (0 : Int) false)), (4, En.mk 0 none (Obj.map 41 (fun (_ : D) => none) (0 : Int) false))]) else False else False else False else post (PX.exit 2, S.mk 68 [(5, P.ref 0 0 0)] [(0, En.mk 0 none (Obj.box 61 [P.mp 1 0, P.mp 2 0, P.mp 3 0, P.mp 4 0])), (1, En.mk 0 none (Obj.map 41 f1 c1 false)), (2, En.mk 0 none (Obj.map 41 f2 c2 false)), (3, En.mk 0 none (Obj.map 41 (fun (_ : D) => none) (0 : Int) false)), (4, En.mk 0 none (Obj.map 41 (fun (_ : D) => none) (0 : Int) false))])) = (roundL [] [] 26 10 (tk10 live k f1 f2 c1 c2)) post := by kernel_rfl
end Pi

/- Tree: taken. -/
namespace Pi
open Go Go.Proofs
set_option maxRecDepth 100000
theorem mpD_id {α : Type} (enc : α → D) (m : Id3 → Option α) (x : Id3) : mpD enc m (ixD x) = (m x).map enc := rfl
theorem mpD_upd {α : Type} (enc : α → D) (m m' : Id3 → Option α) (x : Id3) (v : α) (h1 : m' x = some v) (h2 : ∀ y, y ≠ x → m' y = m y) : updD (ixD x) (enc v) (mpD enc m) = mpD enc m' := by
  funext d
  unfold updD
  cases hd : D.eqB (ixD x) d with
  | true =>
    have := (D.eqB_iff _ _).1 hd
    subst this
    rw [mpD_id enc m' x, h1]
    rfl
  | false =>
    have hne : ixD x ≠ d := fun e => by rw [(D.eqB_iff _ _).2 e] at hd; cases hd
    simp only [cond_false]
    unfold mpD
    split
    · rename_i a b c
      rw [h2 (a, b, c) (fun e => hne (by rw [← e]; rfl))]
    · rfl
theorem atPl_add {T : List Pl} {p : Pl} (h : (atPl T p.1).isSome = false) : updD (ixD p.1) (plD p) (plM T) = plM (T ++ [p]) := by
  have hn : T.find? (fun q => q.1 == p.1) = none := by
    unfold atPl at h
    cases e : T.find? (fun q => q.1 == p.1) with
    | none => rfl
    | some q => rw [e] at h; cases h
  refine mpD_upd _ _ _ _ _ ?_ fun y hy => ?_
  · unfold atPl
    rw [List.find?_append, hn]
    simp
  · unfold atPl
    rw [List.find?_append]
    have : ([p] : List Pl).find? (fun q => q.1 == y) = none := by simp; intro e; exact hy (by rw [← e])
    rw [this, Option.or_none]
theorem inM_add {V : List Id3} {x : Id3} : updD (ixD x) (.agg []) (inM V) = inM (lvS V x) := by
  refine mpD_upd (fun _ => .agg []) _ _ x () ?_ fun y hy => ?_
  · unfold lvS
    split <;> simp_all
  · unfold lvS
    split
    · rfl
    · simp [hy]
theorem inM_id (V : List Id3) (x : Id3) : inM V (ixD x) = (if x ∈ V then some () else none).map (fun _ => .agg []) := rfl
theorem inM_len (V : List Id3) (x : Id3) : (bif (inM V (ixD x)).isSome then (V.length : Int) else (V.length : Int) + 1) = ((lvS V x).length : Int) := by
  rw [inM_id]
  unfold lvS
  by_cases h : x ∈ V <;> simp [h]
theorem plM_id (T : List Pl) (x : Id3) : plM T (ixD x) = (atPl T x).map plD := rfl
theorem isPl (p : Pl) : isD PR 47 (plD p) = true := by
  obtain ⟨⟨a, b, c⟩, ⟨d, e, f⟩, g, h⟩ := p
  kernel_rfl
theorem isIx (x : Id3) : isD PR 41 (ixD x) = true := by
  obtain ⟨a, b, c⟩ := x
  kernel_rfl
def pl0 : Pl := ((0, 0, 0), (0, 0, 0), [], false)
theorem pl_nth {l : List Pl} {i : Nat} (h : i < l.length) : D.nth (l.map plD) i = plD (l.getD i pl0) := by
  rw [nth_map plD l i h]
  simp [List.getD_eq_getElem?_getD, h]
theorem ix_nth {l : List Id3} {i : Nat} (h : i < l.length) : D.nth (l.map ixD) i = ixD (l.getD i (0, 0, 0)) := by
  rw [nth_map ixD l i h]
  simp [List.getD_eq_getElem?_getD, h]
theorem foldl_take {α β : Type} (f : β → α → β) (b : β) (l : List α) (d : α) (k : Nat) (h : k < l.length) : (l.take (k + 1)).foldl f b = f ((l.take k).foldl f b) (l.getD k d) := by
  rw [List.take_add_one, List.getElem?_eq_getElem h, List.foldl_append]
  simp [List.getD_eq_getElem?_getD, h]
section
variable {X : XF}
theorem loopTk10 : LD X 26 10 (loopHook (kpF 26 10) gTk10) := LD.par (H := []) (hk := []) (by kernel_rfl) (by kernel_rfl) .nil .nil
  (A := List Id3 × (D → Option D) × Int) (B := Int) (fun a k => tk10 a.1 k a.2.1 (inM (lvL (a.1.take k.toNat))) a.2.2 (lvL (a.1.take k.toNat)).length)
  (fun a k => a.1.length ≤ 1000000 ∧ 0 ≤ k ∧ k.toNat ≤ a.1.length)
  (fun a k => (a.1.length - k).toNat)
  (fun a x => x = (.exit 2, ⟨68, [(5, .ref 0 0 0)], nodR a.2.1 (inM (lvL a.1)) noM noM a.2.2 (lvL a.1).length 0 0⟩))
  (by
    rintro ⟨l, f1, c1⟩ k ⟨hm, h0, h1⟩
    dsimp only at *
    rw [← vcTk10]
    simp only [List.length_map]
    refine condP (fun h => ?_) fun h => ?_
    · have hk : k.toNat < l.length := by omega
      rw [ix_nth hk]
      refine oblP ⟨h0, by omega⟩ (oblI (isIx _) (oblI (incI (by omega) (by omega)) ⟨_, ?_, k + 1, ?_, ⟨hm, by omega, by omega⟩, rfl⟩))
      · omega
      · have e : lvL (l.take (k + 1).toNat) = lvS (lvL (l.take k.toNat)) (l.getD k.toNat (0, 0, 0)) := by
          rw [show (k + 1).toNat = k.toNat + 1 by omega]
          exact foldl_take lvS [] l _ k.toNat hk
        rw [e, ← inM_add, ← inM_len]
        rfl
    · rw [List.take_of_length_le (by omega)]; rfl)
  (by
    rintro s post ⟨l, f1, c1, rfl, hm, hp⟩
    refine ⟨(l, f1, c1), 0, ?_, ⟨hm, by decide, by simp⟩, ?_⟩
    · have : inM (lvL []) = noM := by
        funext d
        show mpD _ _ d = none
        unfold mpD
        split <;> rfl
      show _ = tk10 l 0 f1 (inM (lvL [])) c1 0
      rw [this]
    · rintro x rfl
      exact hp)
theorem loopTk3 : LD X 26 3 (loopHook (kpF 26 3) gTk3) := LD.par (H := [(47, hRightId), (48, hName)]) (hk := []) (by kernel_rfl) (by kernel_rfl) (.cons okRightId (.cons okName .nil)) .nil
  (A := List Pl × List Id3) (B := Int) (fun a k => tk3 a.1 a.2 k (plM (tkL (a.1.take k.toNat))) (tkL (a.1.take k.toNat)).length)
  (fun a k => a.1.length ≤ 1000000 ∧ 0 ≤ k ∧ k.toNat ≤ a.1.length)
  (fun a k => (a.1.length - k).toNat)
  (fun a x => x = (.exit 0, ⟨68, [(1, idsP a.2), (5, .ref 0 0 0)], nodR (plM (tkL a.1)) noM noM noM (tkL a.1).length 0 0 0⟩))
  (by
    rintro ⟨l, live⟩ k ⟨hm, h0, h1⟩
    dsimp only at *
    rw [← vcTk3]
    simp only [List.length_map]
    refine condP (fun h => ?_) fun h => ?_
    · have hk : k.toNat < l.length := by omega
      rw [pl_nth hk]
      have e : tkL (l.take (k + 1).toNat) = tkS (tkL (l.take k.toNat)) (l.getD k.toNat pl0) := by
        rw [show (k + 1).toNat = k.toNat + 1 by omega]
        exact foldl_take tkS [] l _ k.toNat hk
      generalize l.getD k.toNat pl0 = p at e
      generalize tkL (l.take k.toNat) = T at e
      have go : ∀ T', tkS T p = T' → ∃ m, m < ((l.length : Int) - k).toNat ∧ ∃ b, (⟨68, [(1, idsP live), (5, .ref 0 0 0), (18, plsP l), (19, .d (.int .i64 (l.length : Int))), (20, .d (.int .i64 (k + 1)))], nodR (plM T') noM noM noM T'.length 0 0 0⟩ : S) = tk3 l live b (plM (tkL (l.take b.toNat))) (tkL (l.take b.toNat)).length ∧ (l.length ≤ 1000000 ∧ 0 ≤ b ∧ b.toNat ≤ l.length) ∧ m = ((l.length : Int) - b).toNat := fun T' hT => ⟨((l.length : Int) - (k + 1)).toNat, by omega, k + 1, by rw [e, hT], ⟨hm, by omega, by omega⟩, rfl⟩
      refine oblP ⟨h0, by omega⟩ (oblI (isPl _) (oblI ?_ (condI (fun hh => ?_) fun hh => oblI (incI (by omega) (by omega)) ?_)))
      · show isD PR 47 (getO (plM T (ixD p.1)) _) = true
        rw [plM_id]
        cases atPl T p.1 with
        | none => kernel_rfl
        | some q => exact isPl q
      · have hno : (atPl T p.1).isSome = false := by
          have hh' : (!(plM T (ixD p.1)).isSome) = true := hh
          have : (plM T (ixD p.1)).isSome = false := by simpa using hh'
          rw [plM_id, Option.isSome_map] at this
          exact this
        refine ⟨p.1.1, p.1.2.1, p.1.2.2, rfl, rfl, condI (fun h3 => ⟨p.2.2.1, rfl, rfl, condI (fun h4 => oblI (incI (by omega) (by omega)) ?_) fun h4 => oblI (incI (by omega) (by omega)) ?_⟩) fun h3 => oblI (incI (by omega) (by omega)) ?_⟩
        · have := go (T ++ [p]) (by unfold tkS; simp [hno, okPl, h3, h4])
          rw [← atPl_add hno] at this
          have el : ((T ++ [p]).length : Int) = (bif Option.isSome (plM T (ixD p.1)) then (T.length : Int) else (T.length : Int) + 1) := by
            rw [plM_id]; simp [hno]
          rw [el] at this
          exact this
        · exact go T (by unfold tkS; simp [hno, okPl, h4])
        · exact go T (by unfold tkS; simp [hno, okPl, h3])
      · have hyes : (atPl T p.1).isSome = true := by
          have hh' : (!(plM T (ixD p.1)).isSome) = false := hh
          have : (plM T (ixD p.1)).isSome = true := by simpa using hh'
          rw [plM_id, Option.isSome_map] at this
          exact this
        exact go T (by unfold tkS; simp [hyes])
    · rw [List.take_of_length_le (by omega)]; rfl)
  (by
    rintro s post ⟨l, live, rfl, hm, hp⟩
    refine ⟨(l, live), 0, ?_, ⟨hm, by decide, by simp⟩, ?_⟩
    · have : plM (tkL []) = noM := by
        funext d
        show mpD _ _ d = none
        unfold mpD
        split <;> rfl
      show _ = tk3 l live 0 (plM (tkL [])) 0
      rw [this]
    · rintro x rfl
      exact hp)
theorem okTaken : FD X 26 hTaken := FD.mk (H := []) (hk := [(3, loopHook (kpF 26 3) gTk3), (10, loopHook (kpF 26 10) gTk10)]) (by kernel_rfl) .nil (.cons loopTk3 (.cons loopTk10 .nil)) (by
  intro ps R post hh
  obtain ⟨l, live, rfl, rfl, ⟨h1, h2⟩, hp⟩ := hh
  rw [← vcTk]
  simp only [List.length_map]
  exact ⟨l, live, rfl, h1, live, _, _, rfl, h2, hp⟩)
end
end Pi

/- Tree: way: what its runs ask. -/
namespace Pi
open Go Go.Proofs
set_option maxRecDepth 100000
set_option maxHeartbeats 0
/-- The nodes' maps, lent. -/
abbrev nodT (f1 f2 f3 f4 : D → Option D) (c1 c2 c3 c4 : Int) (z2 z3 : Bool) : List (Nat × En) :=
  [(0, ⟨0, some 0, .box 61 [.mp 1 0, .mp 2 0, .mp 3 0, .mp 4 0]⟩), (1, ⟨0, some 1, .map 41 f1 c1 false⟩), (2, ⟨0, some 2, .map 41 f2 c2 z2⟩), (3, ⟨0, some 3, .map 41 f3 c3 z3⟩), (4, ⟨0, some 4, .map 41 f4 c4 false⟩)]
abbrev wyR (x : Id3) (out : List Id3) (f1 f2 f3 f4 : D → Option D) (c1 c2 c3 c4 : Int) (z2 z3 : Bool) : List (Nat × En) :=
  nodT f1 f2 f3 f4 c1 c2 c3 c4 z2 z3 ++ [(5, ⟨0, none, .box 41 [.d (.int .i64 x.1), .d (.int .i64 x.2.1), .d (.int .i64 x.2.2)]⟩), (6, ⟨0, none, .arr 41 false (out.map ixD)⟩)]
abbrev wyH (x : Id3) (out : List Id3) (m k : Int) (f1 f2 f3 f4 : D → Option D) (c1 c2 c3 c4 : Int) (z2 z3 : Bool) : S :=
  ⟨50, [(0, .ref 0 0 0), (3, .ref 5 0 0), (6, .sl 6 0 out.length), (15, .d (.int .i64 m)), (16, .d (.int .i64 k))], wyR x out f1 f2 f3 f4 c1 c2 c3 c4 z2 z3⟩
theorem vcWyN (x : Id3) (out : List Id3) (m k : Int) (f1 f2 f3 f4 : D → Option D) (c1 c2 c3 c4 : Int) (z2 z3 : Bool) (post : PX × S → Prop) : (bif decide (k < m) then bif isD PR 47 (getO (f1 (D.agg [D.int IntKind.i64 (Prod.fst x), D.int IntKind.i64 (Prod.fst (Prod.snd x)), D.int IntKind.i64 (Prod.snd (Prod.snd x))])) (D.agg [D.int IntKind.i64 (0 : Int), D.int IntKind.i64 (0 : Int), D.int IntKind.i64 (0 : Int), D.int IntKind.i64 (0 : Int), D.int IntKind.i64 (0 : Int), D.int IntKind.i64 (0 : Int), D.str [], D.bool false])) then bif !Option.isSome (f1 (D.agg [D.int IntKind.i64 (Prod.fst x), D.int IntKind.i64 (Prod.fst (Prod.snd x)), D.int IntKind.i64 (Prod.snd (Prod.snd x))])) then post (PX.ret, S.mk 50 [(0, P.ref 0 0 0), (4, P.sl 5 0 0), (5, P.d (D.bool false))] [(0, En.mk 0 (some 0) (Obj.box 61 [P.mp 1 0, P.mp 2 0, P.mp 3 0, P.mp 4 0])), (1, En.mk 0 (some 1) (Obj.map 41 f1 c1 false)), (2, En.mk 0 (some 2) (Obj.map 41 f2 c2 z2)), (3, En.mk 0 (some 3) (Obj.map 41 f3 c3 z3)), (4, En.mk 0 (some 4) (Obj.map 41 f4 c4 false)), (5, En.mk 0 none (Obj.arr 41 false []))]) else bif decide ((↑(List.length out) : Int) > (0 : Int)) then bif !D.bVal (D.cAt (getO (f1 (D.agg [D.int IntKind.i64 (Prod.fst x), D.int IntKind.i64 (Prod.fst (Prod.snd x)), D.int IntKind.i64 (Prod.snd (Prod.snd x))])) (D.agg [D.int IntKind.i64 (0 : Int), D.int IntKind.i64 (0 : Int), D.int IntKind.i64 (0 : Int), D.int IntKind.i64 (0 : Int), D.int IntKind.i64 (0 : Int), D.int IntKind.i64 (0 : Int), D.str [], D.bool false])) 7) then post (PX.ret, S.mk 50 [(0, P.ref 0 0 0), (4, P.sl 5 0 0), (5, P.d (D.bool false))] [(0, En.mk 0 (some 0) (Obj.box 61 [P.mp 1 0, P.mp 2 0, P.mp 3 0, P.mp 4 0])), (1, En.mk 0 (some 1) (Obj.map 41 f1 c1 false)), (2, En.mk 0 (some 2) (Obj.map 41 f2 c2 z2)), (3, En.mk 0 (some 3) (Obj.map 41 f3 c3 z3)), (4, En.mk 0 (some 4) (Obj.map 41 f4 c4 false)), (5, En.mk 0 none (Obj.arr 41 false []))]) else bif Nat.ble (List.length out) (List.length (List.map ixD out)) && roomOk (List.length out + List.length [D.agg [D.int IntKind.i64 (Prod.fst x), D.int IntKind.i64 (Prod.fst (Prod.snd x)), D.int IntKind.i64 (Prod.snd (Prod.snd x))]]) 24 then bif D.iVal (D.cAt (getO (f1 (D.agg [D.int IntKind.i64 (Prod.fst x), D.int IntKind.i64 (Prod.fst (Prod.snd x)), D.int IntKind.i64 (Prod.snd (Prod.snd x))])) (D.agg [D.int IntKind.i64 (0 : Int), D.int IntKind.i64 (0 : Int), D.int IntKind.i64 (0 : Int), D.int IntKind.i64 (0 : Int), D.int IntKind.i64 (0 : Int), D.int IntKind.i64 (0 : Int), D.str [], D.bool false])) 3) == (0 : Int) && (D.iVal (D.cAt (getO (f1 (D.agg [D.int IntKind.i64 (Prod.fst x), D.int IntKind.i64 (Prod.fst (Prod.snd x)), D.int IntKind.i64 (Prod.snd (Prod.snd x))])) (D.agg [D.int IntKind.i64 (0 : Int), D.int IntKind.i64 (0 : Int), D.int IntKind.i64 (0 : Int), D.int IntKind.i64 (0 : Int), D.int IntKind.i64 (0 : Int), D.int IntKind.i64 (0 : Int), D.str [], D.bool false])) 4) == (0 : Int) && true) && (D.iVal (D.cAt (getO (f1 (D.agg [D.int IntKind.i64 (Prod.fst x), D.int IntKind.i64 (Prod.fst (Prod.snd x)), D.int IntKind.i64 (Prod.snd (Prod.snd x))])) (D.agg [D.int IntKind.i64 (0 : Int), D.int IntKind.i64 (0 : Int), D.int IntKind.i64 (0 : Int), D.int IntKind.i64 (0 : Int), D.int IntKind.i64 (0 : Int), D.int IntKind.i64 (0 : Int), D.str [], D.bool false])) 5) == (0 : Int) && true) then post (PX.ret, S.mk 50 [(0, P.ref 0 0 0), (4, P.sl 5 0 (List.length out + List.length [D.agg [D.int IntKind.i64 (Prod.fst x), D.int IntKind.i64 (Prod.fst (Prod.snd x)), D.int IntKind.i64 (Prod.snd (Prod.snd x))]])), (5, P.d (D.bool true))] [(0, En.mk 0 (some 0) (Obj.box 61 [P.mp 1 0, P.mp 2 0, P.mp 3 0, P.mp 4 0])), (1, En.mk 0 (some 1) (Obj.map 41 f1 c1 false)), (2, En.mk 0 (some 2) (Obj.map 41 f2 c2 z2)), (3, En.mk 0 (some 3) (Obj.map 41 f3 c3 z3)), (4, En.mk 0 (some 4) (Obj.map 41 f4 c4 false)), (5, En.mk 0 none (Obj.arr 41 false (List.take (List.length out) (List.map ixD out) ++ [D.agg [D.int IntKind.i64 (Prod.fst x), D.int IntKind.i64 (Prod.fst (Prod.snd x)), D.int IntKind.i64 (Prod.snd (Prod.snd x))]])))]) else bif decide ((-9223372036854775808 : Int) ≤ k + (1 : Int) ∧ k + (1 : Int) ≤ (9223372036854775807 : Int)) then post (PX.normal, S.mk 50 [(0, P.ref 0 0 0), (3, P.ref 5 0 0), (6, P.sl 6 0 (List.length out + List.length [D.agg [D.int IntKind.i64 (Prod.fst x), D.int IntKind.i64 (Prod.fst (Prod.snd x)), D.int IntKind.i64 (Prod.snd (Prod.snd x))]])), (15, P.d (D.int IntKind.i64 m)), (16, P.d (D.int IntKind.i64 (k + (1 : Int))))] [(0, En.mk 0 (some 0) (Obj.box 61 [P.mp 1 0, P.mp 2 0, P.mp 3 0, P.mp 4 0])), (1, En.mk 0 (some 1) (Obj.map 41 f1 c1 false)), (2, En.mk 0 (some 2) (Obj.map 41 f2 c2 z2)), (3, En.mk 0 (some 3) (Obj.map 41 f3 c3 z3)), (4, En.mk 0 (some 4) (Obj.map 41 f4 c4 false)), (5, En.mk 0 none (Obj.box 41 [P.d (D.int IntKind.i64 (D.iVal (D.cAt (getO (f1 (D.agg [D.int IntKind.i64 (Prod.fst x), D.int IntKind.i64 (Prod.fst (Prod.snd x)), D.int IntKind.i64 (Prod.snd (Prod.snd x))])) (D.agg [D.int IntKind.i64 (0 : Int), D.int IntKind.i64 (0 : Int), D.int IntKind.i64 (0 : Int), D.int IntKind.i64 (0 : Int), D.int IntKind.i64 (0 : Int), D.int IntKind.i64 (0 : Int), D.str [], D.bool false])) 3))), P.d (D.int IntKind.i64 (D.iVal (D.cAt (getO (f1 (D.agg [D.int IntKind.i64 (Prod.fst x), D.int IntKind.i64 (Prod.fst (Prod.snd x)), D.int IntKind.i64 (Prod.snd (Prod.snd x))])) (D.agg [D.int IntKind.i64 (0 : Int), D.int IntKind.i64 (0 : Int), D.int IntKind.i64 (0 : Int), D.int IntKind.i64 (0 : Int), D.int IntKind.i64 (0 : Int), D.int IntKind.i64 (0 : Int), D.str [], D.bool false])) 4))), P.d (D.int IntKind.i64 (D.iVal (D.cAt (getO (f1 (D.agg [D.int IntKind.i64 (Prod.fst x), D.int IntKind.i64 (Prod.fst (Prod.snd x)), D.int IntKind.i64 (Prod.snd (Prod.snd x))])) (D.agg [D.int IntKind.i64 (0 : Int), D.int IntKind.i64 (0 : Int), D.int IntKind.i64 (0 : Int), D.int IntKind.i64 (0 : Int), D.int IntKind.i64 (0 : Int), D.int IntKind.i64 (0 : Int), D.str [], D.bool false])) 5)))])), (6, En.mk 0 none (Obj.arr 41 false (List.take (List.length out) (List.map ixD out) ++ [D.agg [D.int IntKind.i64 (Prod.fst x), D.int IntKind.i64 (Prod.fst (Prod.snd x)), D.int IntKind.i64 (Prod.snd (Prod.snd x))]])))]) else False else False else bif Nat.ble (List.length out) (List.length (List.map ixD out)) && roomOk (List.length out + List.length [D.agg [D.int IntKind.i64 (Prod.fst x), D.int IntKind.i64 (Prod.fst (Prod.snd x)), D.int IntKind.i64 (Prod.snd (Prod.snd x))]]) 24 then bif D.iVal (D.cAt (getO (f1 (D.agg [D.int IntKind.i64 (Prod.fst x), D.int IntKind.i64 (Prod.fst (Prod.snd x)), D.int IntKind.i64 (Prod.snd (Prod.snd x))])) (D.agg [D.int IntKind.i64 (0 : Int), D.int IntKind.i64 (0 : Int), D.int IntKind.i64 (0 : Int), D.int IntKind.i64 (0 : Int), D.int IntKind.i64 (0 : Int), D.int IntKind.i64 (0 : Int), D.str [], D.bool false])) 3) == (0 : Int) && (D.iVal (D.cAt (getO (f1 (D.agg [D.int IntKind.i64 (Prod.fst x), D.int IntKind.i64 (Prod.fst (Prod.snd x)), D.int IntKind.i64 (Prod.snd (Prod.snd x))])) (D.agg [D.int IntKind.i64 (0 : Int), D.int IntKind.i64 (0 : Int), D.int IntKind.i64 (0 : Int), D.int IntKind.i64 (0 : Int), D.int IntKind.i64 (0 : Int), D.int IntKind.i64 (0 : Int), D.str [], D.bool false])) 4) == (0 : Int) && true) && (D.iVal (D.cAt (getO (f1 (D.agg [D.int IntKind.i64 (Prod.fst x), D.int IntKind.i64 (Prod.fst (Prod.snd x)), D.int IntKind.i64 (Prod.snd (Prod.snd x))])) (D.agg [D.int IntKind.i64 (0 : Int), D.int IntKind.i64 (0 : Int), D.int IntKind.i64 (0 : Int), D.int IntKind.i64 (0 : Int), D.int IntKind.i64 (0 : Int), D.int IntKind.i64 (0 : Int), D.str [], D.bool false])) 5) == (0 : Int) && true) then post (PX.ret, S.mk 50 [(0, P.ref 0 0 0), (4, P.sl 5 0 (List.length out + List.length [D.agg [D.int IntKind.i64 (Prod.fst x), D.int IntKind.i64 (Prod.fst (Prod.snd x)), D.int IntKind.i64 (Prod.snd (Prod.snd x))]])), (5, P.d (D.bool true))] [(0, En.mk 0 (some 0) (Obj.box 61 [P.mp 1 0, P.mp 2 0, P.mp 3 0, P.mp 4 0])), (1, En.mk 0 (some 1) (Obj.map 41 f1 c1 false)), (2, En.mk 0 (some 2) (Obj.map 41 f2 c2 z2)), (3, En.mk 0 (some 3) (Obj.map 41 f3 c3 z3)), (4, En.mk 0 (some 4) (Obj.map 41 f4 c4 false)), (5, En.mk 0 none (Obj.arr 41 false (List.take (List.length out) (List.map ixD out) ++ [D.agg [D.int IntKind.i64 (Prod.fst x), D.int IntKind.i64 (Prod.fst (Prod.snd x)), D.int IntKind.i64 (Prod.snd (Prod.snd x))]])))]) else bif decide ((-9223372036854775808 : Int) ≤ k + (1 : Int) ∧ k + (1 : Int) ≤ (9223372036854775807 : Int)) then post (PX.normal, S.mk 50 [(0, P.ref 0 0 0), (3, P.ref 5 0 0), (6, P.sl 6 0 (List.length out + List.length [D.agg [D.int IntKind.i64 (Prod.fst x), D.int IntKind.i64 (Prod.fst (Prod.snd x)), D.int IntKind.i64 (Prod.snd (Prod.snd x))]])), (15, P.d (D.int IntKind.i64 m)), (16, P.d (D.int IntKind.i64 (k + (1 : Int))))] [(0, En.mk 0 (some 0) (Obj.box 61 [P.mp 1 0, P.mp 2 0, P.mp 3 0, P.mp 4 0])), (1, En.mk 0 (some 1) (Obj.map 41 f1 c1 false)), (2, En.mk 0 (some 2) (Obj.map 41 f2 c2 z2)), (3, En.mk 0 (some 3) (Obj.map 41 f3 c3 z3)), (4, En.mk 0 (some 4) (Obj.map 41 f4 c4 false)), (5, En.mk 0 none (Obj.box 41 [P.d (D.int IntKind.i64 (D.iVal (D.cAt (getO (f1 (D.agg [D.int IntKind.i64 (Prod.fst x), D.int IntKind.i64 (Prod.fst (Prod.snd x)), D.int IntKind.i64 (Prod.snd (Prod.snd x))])) (D.agg [D.int IntKind.i64 (0 : Int), D.int IntKind.i64 (0 : Int), D.int IntKind.i64 (0 : Int), D.int IntKind.i64 (0 : Int), D.int IntKind.i64 (0 : Int), D.int IntKind.i64 (0 : Int), D.str [], D.bool false])) 3))), P.d (D.int IntKind.i64 (D.iVal (D.cAt (getO (f1 (D.agg [D.int IntKind.i64 (Prod.fst x), D.int IntKind.i64 (Prod.fst (Prod.snd x)), D.int IntKind.i64 (Prod.snd (Prod.snd x))])) (D.agg [D.int IntKind.i64 (0 : Int), D.int IntKind.i64 (0 : Int), D.int IntKind.i64 (0 : Int), D.int IntKind.i64 (0 : Int), D.int IntKind.i64 (0 : Int), D.int IntKind.i64 (0 : Int), D.str [], D.bool false])) 4))), P.d (D.int IntKind.i64 (D.iVal (D.cAt (getO (f1 (D.agg [D.int IntKind.i64 (Prod.fst x), D.int IntKind.i64 (Prod.fst (Prod.snd x)), D.int IntKind.i64 (Prod.snd (Prod.snd x))])) (D.agg [D.int IntKind.i64 (0 : Int), D.int IntKind.i64 (0 : Int), D.int IntKind.i64 (0 : Int), D.int IntKind.i64 (0 : Int), D.int IntKind.i64 (0 : Int), D.int IntKind.i64 (0 : Int), D.str [], D.bool false])) 5)))])), (6, En.mk 0 none (Obj.arr 41 false (List.take (List.length out) (List.map ixD out) ++ [D.agg [D.int IntKind.i64 (Prod.fst x), D.int IntKind.i64 (Prod.fst (Prod.snd x)), D.int IntKind.i64 (Prod.snd (Prod.snd x))]])))]) else False else False else False else post (PX.exit 0, S.mk 50 [(0, P.ref 0 0 0)] [(0, En.mk 0 (some 0) (Obj.box 61 [P.mp 1 0, P.mp 2 0, P.mp 3 0, P.mp 4 0])), (1, En.mk 0 (some 1) (Obj.map 41 f1 c1 false)), (2, En.mk 0 (some 2) (Obj.map 41 f2 c2 z2)), (3, En.mk 0 (some 3) (Obj.map 41 f3 c3 z3)), (4, En.mk 0 (some 4) (Obj.map 41 f4 c4 false))])) = (roundL [] [] 49 3 (wyH x out m k f1 f2 f3 f4 c1 c2 c3 c4 z2 z3)) post := by kernel_rfl
/-- A node and all above it. -/
def wyF (T : List Pl) : Nat → Id3 → List Id3 → Option (List Id3)
  | 0, _, _ => none
  | n + 1, x, out => match atPl T x with
    | none => none
    | some p => if 0 < out.length ∧ p.2.2.2 = false then none else if p.2.1 = (0, 0, 0) then some (out ++ [x]) else wyF T n p.2.1 (out ++ [x])
def wy (T : List Pl) (x : Id3) : Option (List Id3) := wyF T (T.length + 1) x []
abbrev wyO (l : List Id3) (b : Bool) (f1 f2 f3 f4 : D → Option D) (c1 c2 c3 c4 : Int) (z2 z3 : Bool) : S :=
  ⟨50, [(0, .ref 0 0 0), (4, .sl 5 0 l.length), (5, .d (.bool b))], nodT f1 f2 f3 f4 c1 c2 c3 c4 z2 z3 ++ [(5, ⟨0, none, .arr 41 false (l.map ixD)⟩)]⟩
def gWy : S → K (PX × S) := fun s post => ∃ T x f2 f3 f4 c2 c3 c4 z2 z3, s = wyH x [] ((T.length : Int) + 1) 0 (plM T) f2 f3 f4 T.length c2 c3 c4 z2 z3 ∧ T.length ≤ 1000000 ∧
  (∀ l, wy T x = some l → post (.ret, wyO l true (plM T) f2 f3 f4 T.length c2 c3 c4 z2 z3)) ∧ (wy T x = none → post (.ret, wyO [] false (plM T) f2 f3 f4 T.length c2 c3 c4 z2 z3) ∧ post (.exit 0, ⟨50, [(0, .ref 0 0 0)], nodT (plM T) f2 f3 f4 T.length c2 c3 c4 z2 z3⟩))
theorem vcWy (T : List Pl) (x : Id3) (f2 f3 f4 : D → Option D) (c1 c2 c3 c4 : Int) (z2 z3 : Bool) (post : P × List (Nat × En) → Prop) : (bif decide ((-9223372036854775808 : Int) ≤ c1 + (1 : Int) ∧ c1 + (1 : Int) ≤ (9223372036854775807 : Int)) then ∃ (T_1 : List Pl), ∃ (x_1 : Id3), ∃ (f2_1 : D → Option D), ∃ (f3_1 : D → Option D), ∃ (f4_1 : D → Option D), ∃ (c2_1 : Int), ∃ (c3_1 : Int), ∃ (c4_1 : Int), ∃ (z2_1 : Bool), ∃ (z3_1 : Bool), S.mk 50 [(0, P.ref 0 0 0), (3, P.ref 5 0 0), (6, P.sl 6 0 0), (15, P.d (D.int IntKind.i64 (c1 + (1 : Int)))), (16, P.d (D.int IntKind.i64 (0 : Int)))] [(0, En.mk 0 (some 0) (Obj.box 61 [P.mp 1 0, P.mp 2 0, P.mp 3 0, P.mp 4 0])), (1, En.mk 0 (some 1) (Obj.map 41 (fun (x : D) => match x with | D.agg [D.int IntKind.i64 a, D.int IntKind.i64 b, D.int IntKind.i64 c] => Option.map plD (atPl T (a, b, c)) | _ => none) c1 false)), (2, En.mk 0 (some 2) (Obj.map 41 f2 c2 z2)), (3, En.mk 0 (some 3) (Obj.map 41 f3 c3 z3)), (4, En.mk 0 (some 4) (Obj.map 41 f4 c4 false)), (5, En.mk 0 none (Obj.box 41 [P.d (D.int IntKind.i64 (Prod.fst x)), P.d (D.int IntKind.i64 (Prod.fst (Prod.snd x))), P.d (D.int IntKind.i64 (Prod.snd (Prod.snd x)))])), (6, En.mk 0 none (Obj.arr 41 false []))] = S.mk 50 [(0, P.ref 0 0 0), (3, P.ref 5 0 0), (6, P.sl 6 0 0), (15, P.d (D.int IntKind.i64 ((↑(List.length T_1) : Int) + (1 : Int)))), (16, P.d (D.int IntKind.i64 (0 : Int)))] [(0, En.mk 0 (some 0) (Obj.box 61 [P.mp 1 0, P.mp 2 0, P.mp 3 0, P.mp 4 0])), (1, En.mk 0 (some 1) (Obj.map 41 (fun (x : D) => match x with | D.agg [D.int IntKind.i64 a, D.int IntKind.i64 b, D.int IntKind.i64 c] => Option.map plD (atPl T_1 (a, b, c)) | _ => none) (↑(List.length T_1) : Int) false)), (2, En.mk 0 (some 2) (Obj.map 41 f2_1 c2_1 z2_1)), (3, En.mk 0 (some 3) (Obj.map 41 f3_1 c3_1 z3_1)), (4, En.mk 0 (some 4) (Obj.map 41 f4_1 c4_1 false)), (5, En.mk 0 none (Obj.box 41 [P.d (D.int IntKind.i64 (Prod.fst x_1)), P.d (D.int IntKind.i64 (Prod.fst (Prod.snd x_1))), P.d (D.int IntKind.i64 (Prod.snd (Prod.snd x_1)))])), (6, En.mk 0 none (Obj.arr 41 false []))] ∧ List.length T_1 ≤ 1000000 ∧ (∀ (l : List Id3), wy T_1 x_1 = some l → post (P.tup [P.sl 5 0 (List.length l), P.d (D.bool true)], [(0, En.mk 0 (some 0) (Obj.box 61 [P.mp 1 0, P.mp 2 0, P.mp 3 0, P.mp 4 0])), (1, En.mk 0 (some 1) (Obj.map 41 (fun (x : D) => match x with | D.agg [D.int IntKind.i64 a, D.int IntKind.i64 b, D.int IntKind.i64 c] => Option.map plD (atPl T_1 (a, b, c)) | _ => none) (↑(List.length T_1) : Int) false)), (2, En.mk 0 (some 2) (Obj.map 41 f2_1 c2_1 z2_1)), (3, En.mk 0 (some 3) (Obj.map 41 f3_1 c3_1 z3_1)), (4, En.mk 0 (some 4) (Obj.map 41 f4_1 c4_1 false)), (5, En.mk 0 none (Obj.arr 41 false (List.map ixD l)))])) ∧ (wy T_1 x_1 = none → post (P.tup [P.sl 5 0 0, P.d (D.bool false)], [(0, En.mk 0 (some 0) (Obj.box 61 [P.mp 1 0, P.mp 2 0, P.mp 3 0, P.mp 4 0])), (1, En.mk 0 (some 1) (Obj.map 41 (fun (x : D) => match x with | D.agg [D.int IntKind.i64 a, D.int IntKind.i64 b, D.int IntKind.i64 c] => Option.map plD (atPl T_1 (a, b, c)) | _ => none) (↑(List.length T_1) : Int) false)), (2, En.mk 0 (some 2) (Obj.map 41 f2_1 c2_1 z2_1)), (3, En.mk 0 (some 3) (Obj.map 41 f3_1 c3_1 z3_1)), (4, En.mk 0 (some 4) (Obj.map 41 f4_1 c4_1 false)), (5, En.mk 0 none (Obj.arr 41 false []))]) ∧ post (P.tup [P.sl 5 0 0, P.d (D.bool false)], [(0, En.mk 0 (some 0) (Obj.box 61 [P.mp 1 0, P.mp 2 0, P.mp 3 0, P.mp 4 0])), (1, En.mk 0 (some 1) (Obj.map 41 (fun (x : D) => match x with | D.agg [D.int IntKind.i64 a, D.int IntKind.i64 b, D.int IntKind.i64 c] => Option.map plD (atPl T_1 (a, b, c)) | _ => none) (↑(List.length T_1) : Int) false)), (2, En.mk 0 (some 2) (Obj.map 41 f2_1 c2_1 z2_1)), (3, En.mk 0 (some 3) (Obj.map 41 f3_1 c3_1 z3_1)), (4, En.mk 0 (some 4) (Obj.map 41 f4_1 c4_1 false)), (5, En.mk 0 none (Obj.arr 41 false []))])) else False) = (bodyF [] [(3, loopHook (kpF 49 3) gWy)] 49 [.ref 0 0 0, .d (ixD x)] (nodT (plM T) f2 f3 f4 c1 c2 c3 c4 z2 z3)) post := by kernel_rfl
def hWay : KF1 := fun ps R post => ∃ T x f2 f3 f4 c2 c3 c4 z2 z3, ps = [.ref 0 0 0, .d (ixD x)] ∧ R = nodT (plM T) f2 f3 f4 T.length c2 c3 c4 z2 z3 ∧ T.length ≤ 1000000 ∧
  (∀ l, wy T x = some l → post (.tup [.sl 5 0 l.length, .d (.bool true)], nodT (plM T) f2 f3 f4 T.length c2 c3 c4 z2 z3 ++ [(5, ⟨0, none, .arr 41 false (l.map ixD)⟩)])) ∧
  (wy T x = none → post (.tup [.sl 5 0 0, .d (.bool false)], nodT (plM T) f2 f3 f4 T.length c2 c3 c4 z2 z3 ++ [(5, ⟨0, none, .arr 41 false []⟩)]))
end Pi

/- Tree: way. -/
namespace Pi
open Go Go.Proofs
set_option maxRecDepth 100000
theorem take_ix (l : List Id3) : (l.map ixD).take l.length = l.map ixD := List.take_of_length_le (by simp)
section
variable {X : XF}
abbrev WyA := List Pl × Id3 × (D → Option D) × (D → Option D) × (D → Option D) × Int × Int × Int × Bool × Bool
theorem loopWy : LD X 49 3 (loopHook (kpF 49 3) gWy) := LD.par (H := []) (hk := []) (by kernel_rfl) (by kernel_rfl) .nil .nil
  (A := WyA) (B := Id3 × List Id3 × Int) (fun a b => wyH b.1 b.2.1 ((a.1.length : Int) + 1) b.2.2 (plM a.1) a.2.2.1 a.2.2.2.1 a.2.2.2.2.1 a.1.length a.2.2.2.2.2.1 a.2.2.2.2.2.2.1 a.2.2.2.2.2.2.2.1 a.2.2.2.2.2.2.2.2.1 a.2.2.2.2.2.2.2.2.2)
  (fun a b => a.1.length ≤ 1000000 ∧ b.2.2 = (b.2.1.length : Int) ∧ b.2.1.length ≤ a.1.length + 1 ∧ wyF a.1 (a.1.length + 1 - b.2.1.length) b.1 b.2.1 = wy a.1 a.2.1)
  (fun a b => a.1.length + 1 - b.2.1.length)
  (fun a x => (∃ l, wy a.1 a.2.1 = some l ∧ x = (.ret, wyO l true (plM a.1) a.2.2.1 a.2.2.2.1 a.2.2.2.2.1 a.1.length a.2.2.2.2.2.1 a.2.2.2.2.2.2.1 a.2.2.2.2.2.2.2.1 a.2.2.2.2.2.2.2.2.1 a.2.2.2.2.2.2.2.2.2)) ∨
    (wy a.1 a.2.1 = none ∧ (x = (.ret, wyO [] false (plM a.1) a.2.2.1 a.2.2.2.1 a.2.2.2.2.1 a.1.length a.2.2.2.2.2.1 a.2.2.2.2.2.2.1 a.2.2.2.2.2.2.2.1 a.2.2.2.2.2.2.2.2.1 a.2.2.2.2.2.2.2.2.2) ∨
      x = (.exit 0, ⟨50, [(0, .ref 0 0 0)], nodT (plM a.1) a.2.2.1 a.2.2.2.1 a.2.2.2.2.1 a.1.length a.2.2.2.2.2.1 a.2.2.2.2.2.2.1 a.2.2.2.2.2.2.2.1 a.2.2.2.2.2.2.2.2.1 a.2.2.2.2.2.2.2.2.2⟩))))
  (by
    rintro ⟨T, x0, f2, f3, f4, c2, c3, c4, z2, z3⟩ ⟨x, out, k⟩ ⟨hm, hk0, hle, hw⟩
    dsimp only at *
    rw [← vcWyN]
    refine condP (fun h => ?_) fun h => ?_
    · have hn : T.length + 1 - out.length = (T.length - out.length) + 1 := by omega
      rw [hn] at hw
      simp only [wyF] at hw
      have hf : plM T (D.agg [D.int IntKind.i64 (Prod.fst x), D.int IntKind.i64 (Prod.fst (Prod.snd x)), D.int IntKind.i64 (Prod.snd (Prod.snd x))]) = (atPl T x).map plD := rfl
      simp only [hf]
      cases hp : atPl T x with
      | none =>
        rw [hp] at hw
        exact oblI (by kernel_rfl) (condT rfl (.inr ⟨hw.symm, .inl rfl⟩))
      | some p =>
        rw [hp] at hw
        simp only at hw
        refine oblI (isPl p) (condF rfl ?_)
        have fit : decide ((-9223372036854775808 : Int) ≤ k + (1 : Int) ∧ k + (1 : Int) ≤ (9223372036854775807 : Int)) = true := incI (by omega) (by omega)
        have room : (Nat.ble (List.length out) (List.length (List.map ixD out)) && roomOk (List.length out + List.length [D.agg [D.int IntKind.i64 (Prod.fst x), D.int IntKind.i64 (Prod.fst (Prod.snd x)), D.int IntKind.i64 (Prod.snd (Prod.snd x))]]) 24) = true := by
          rw [List.length_map]
          simp [roomOk]
          omega
        have e1 : (out ++ [x]).length = out.length + List.length [D.agg [D.int IntKind.i64 (Prod.fst x), D.int IntKind.i64 (Prod.fst (Prod.snd x)), D.int IntKind.i64 (Prod.snd (Prod.snd x))]] := by simp
        have e2 : (out ++ [x]).map ixD = List.take out.length (out.map ixD) ++ [D.agg [D.int IntKind.i64 (Prod.fst x), D.int IntKind.i64 (Prod.fst (Prod.snd x)), D.int IntKind.i64 (Prod.snd (Prod.snd x))]] := by rw [take_ix]; simp [ixD]
        have pz : ∀ b : Bool, (p.2.1.1 == 0 && (p.2.1.2.1 == 0 && true) && (p.2.1.2.2 == 0 && true)) = b → (if p.2.1 = (0, 0, 0) then true else false) = b := fun b hb => by
          subst hb
          by_cases h3 : p.2.1 = (0, 0, 0)
          · rw [h3]; rfl
          · rw [if_neg h3]
            cases hb : (p.2.1.1 == 0 && (p.2.1.2.1 == 0 && true) && (p.2.1.2.2 == 0 && true)) with
            | false => rfl
            | true =>
              simp at hb
              exact absurd (Prod.ext hb.1.1 (Prod.ext hb.1.2 hb.2)) h3
        have f1 : ¬ (0 < out.length ∧ p.2.2.2 = false) → (p.2.1.1 == 0 && (p.2.1.2.1 == 0 && true) && (p.2.1.2.2 == 0 && true)) = true → wy T x0 = some (out ++ [x]) := fun hg hz => by
          have h3 : p.2.1 = (0, 0, 0) := by
            have := pz _ hz
            by_cases h3 : p.2.1 = (0, 0, 0)
            · exact h3
            · rw [if_neg h3] at this; cases this
          rw [if_neg hg, if_pos h3] at hw
          exact hw.symm
        have f2' : ¬ (0 < out.length ∧ p.2.2.2 = false) → (p.2.1.1 == 0 && (p.2.1.2.1 == 0 && true) && (p.2.1.2.2 == 0 && true)) = false → wyF T (T.length + 1 - (out ++ [x]).length) p.2.1 (out ++ [x]) = wy T x0 := fun hg hz => by
          have h3 : ¬ p.2.1 = (0, 0, 0) := fun h3 => by
            have := pz _ hz
            rw [if_pos h3] at this; cases this
          rw [if_neg hg, if_neg h3] at hw
          have en : T.length + 1 - (out ++ [x]).length = T.length - out.length := by rw [List.length_append, List.length_singleton]; omega
          rw [en]
          exact hw
        refine condP (fun hpos => condI (fun hd => .inr ⟨?_, .inl rfl⟩) fun hd => oblI room (condI (fun hz => .inl ⟨out ++ [x], ?_, ?_⟩) fun hz => oblI fit ⟨T.length + 1 - (out ++ [x]).length, ?_, (p.2.1, out ++ [x], k + 1), ?_, ⟨hm, ?_, ?_, ?_⟩, ?_⟩))
          fun hpos => oblI room (condI (fun hz => .inl ⟨out ++ [x], ?_, ?_⟩) fun hz => oblI fit ⟨T.length + 1 - (out ++ [x]).length, ?_, (p.2.1, out ++ [x], k + 1), ?_, ⟨hm, ?_, ?_, ?_⟩, ?_⟩)
        · have hd' : (!p.2.2.2) = true := hd
          have hd2 : p.2.2.2 = false := by simpa using hd'
          rw [if_pos ⟨by omega, hd2⟩] at hw
          exact hw.symm
        · exact f1 (fun hg => by have hd' : (!p.2.2.2) = false := hd; rw [hg.2] at hd'; cases hd') hz
        · simp only [wyO, e1, e2]; rfl
        · simp; omega
        · simp only [wyH, wyR, e1, e2]; rfl
        · show k + 1 = ((out ++ [x]).length : Int)
          rw [hk0, List.length_append, List.length_singleton]
          omega
        · simp; omega
        · exact f2' (fun hg => by have hd' : (!p.2.2.2) = false := hd; rw [hg.2] at hd'; cases hd') hz
        · rfl
        · exact f1 (fun hg => hpos (by have := hg.1; omega)) hz
        · simp only [wyO, e1, e2]; rfl
        · simp; omega
        · simp only [wyH, wyR, e1, e2]; rfl
        · show k + 1 = ((out ++ [x]).length : Int)
          rw [hk0, List.length_append, List.length_singleton]
          omega
        · simp; omega
        · exact f2' (fun hg => hpos (by have := hg.1; omega)) hz
        · rfl
    · have : T.length + 1 - out.length = 0 := by omega
      rw [this] at hw
      exact .inr ⟨hw.symm, .inr rfl⟩)
  (by
    rintro s post ⟨T, x, f2, f3, f4, c2, c3, c4, z2, z3, rfl, hm, h1, h2⟩
    refine ⟨(T, x, f2, f3, f4, c2, c3, c4, z2, z3), (x, [], 0), rfl, ⟨hm, rfl, by simp, rfl⟩, ?_⟩
    rintro y (⟨l, h3, rfl⟩ | ⟨h3, rfl | rfl⟩)
    · exact h1 l h3
    · exact (h2 h3).1
    · exact (h2 h3).2)
theorem okWay : FD X 49 hWay := FD.mk (H := []) (hk := [(3, loopHook (kpF 49 3) gWy)]) (by kernel_rfl) .nil (.cons loopWy .nil) (by
  intro ps R post hh
  obtain ⟨T, x, f2, f3, f4, c2, c3, c4, z2, z3, h01, h02, hm, h1, h2⟩ := hh
  subst h01
  have key : ∀ c1 : Int, c1 = (T.length : Int) → bodyF [] [(3, loopHook (kpF 49 3) gWy)] 49 [.ref 0 0 0, .d (ixD x)] (nodT (plM T) f2 f3 f4 c1 c2 c3 c4 z2 z3) post := by
    intro c1 hc
    rw [← vcWy]
    refine oblI (incI (by omega) (by omega)) ⟨T, x, f2, f3, f4, c2, c3, c4, z2, z3, ?_, hm, fun l hl => h1 l hl, fun h => ⟨h2 h, h2 h⟩⟩
    rw [hc]
  rw [h02]
  clear h1 h2 h02
  generalize hc : (T.length : Int) = c1
  exact key c1 hc.symm)
end
end Pi

/- Tree: the order of ids and texts; sorting as it is done one by one. -/
namespace Pi
open Go
/-! ### orders -/
def ltX (x y : Id3) : Bool := decide (x.1 < y.1 ∨ x.1 = y.1 ∧ (x.2.1 < y.2.1 ∨ x.2.1 = y.2.1 ∧ x.2.2 < y.2.2))
theorem cmpX_lt (x y : Id3) : cmpId x.1 x.2.1 x.2.2 y.1 y.2.1 y.2.2 < 0 ↔ ltX x y = true := by
  unfold ltX
  simp only [decide_eq_true_eq, cmpId, cmpS, orI, cmpI]
  (repeat' split) <;> omega
/-- A strict order, all in all. -/
structure Lin {α : Type} (lt : α → α → Bool) : Prop where
  irr : ∀ x, lt x x = false
  tr : ∀ x y z, lt x y = true → lt y z = true → lt x z = true
  tot : ∀ x y, lt x y = false → lt y x = false → x = y
theorem lin_X : Lin ltX where
  irr x := by simp [ltX]
  tr x y z := by simp only [ltX, decide_eq_true_eq]; omega
  tot x y := by
    simp only [ltX, decide_eq_false_iff_not]
    intro h1 h2
    obtain ⟨a, b, c⟩ := x
    obtain ⟨d, e, f⟩ := y
    simp only at h1 h2
    have : a = d := by omega
    have : b = e := by omega
    have : c = f := by omega
    subst_vars
    rfl
theorem Lin.asymm {α : Type} {lt : α → α → Bool} (h : Lin lt) {x y : α} (h1 : lt x y = true) : lt y x = false := by
  cases h2 : lt y x with
  | false => rfl
  | true => have := h.tr _ _ _ h1 h2; rw [h.irr] at this; cases this
theorem Lin.ntr {α : Type} {lt : α → α → Bool} (h : Lin lt) {x y z : α} (h1 : lt x y = false) (h2 : lt y z = false) : lt x z = false := by
  cases h3 : lt x z with
  | false => rfl
  | true =>
    cases h4 : lt y x with
    | true => rw [h.tr _ _ _ h4 h3] at h2; cases h2
    | false =>
      have := h.tot _ _ h1 h4
      subst this
      rw [h3] at h2
      cases h2
theorem bytesLess_nil : ∀ x, Op.bytesLess x [] = false
  | [] => rfl
  | _ :: _ => rfl
theorem bytesLess_cons (a b : UInt8) (r s : List UInt8) : Op.bytesLess (a :: r) (b :: s) = (decide (a < b) || a == b && Op.bytesLess r s) := rfl
theorem bytesLess_irr : ∀ x, Op.bytesLess x x = false
  | [] => rfl
  | a :: r => by rw [bytesLess_cons, bytesLess_irr r]; simp [UInt8.lt_irrefl]
theorem bytesLess_tot : ∀ x y, Op.bytesLess x y = false → Op.bytesLess y x = false → x = y
  | [], [], _, _ => rfl
  | [], _ :: _, h, _ => by cases h
  | _ :: _, [], _, h => by cases h
  | a :: r, b :: s, h1, h2 => by
    rw [bytesLess_cons] at h1 h2
    simp only [Bool.or_eq_false_iff, decide_eq_false_iff_not, Bool.and_eq_false_imp, beq_iff_eq] at h1 h2
    have : a = b := UInt8.le_antisymm (UInt8.not_lt.1 h2.1) (UInt8.not_lt.1 h1.1)
    subst this
    rw [bytesLess_tot r s (h1.2 rfl) (h2.2 rfl)]
theorem bytesLess_tr : ∀ x y z, Op.bytesLess x y = true → Op.bytesLess y z = true → Op.bytesLess x z = true
  | _, y, [], _, h => by rw [bytesLess_nil] at h; cases h
  | x, [], _ :: _, h, _ => by rw [bytesLess_nil] at h; cases h
  | [], _ :: _, _ :: _, _, _ => rfl
  | a :: r, b :: s, c :: t, h1, h2 => by
    rw [bytesLess_cons] at h1 h2 ⊢
    simp only [Bool.or_eq_true, decide_eq_true_eq, Bool.and_eq_true, beq_iff_eq] at h1 h2 ⊢
    rcases h1 with h1 | ⟨rfl, h1⟩
    · rcases h2 with h2 | ⟨rfl, h2⟩
      · exact .inl (UInt8.lt_trans h1 h2)
      · exact .inl h1
    · rcases h2 with h2 | ⟨rfl, h2⟩
      · exact .inl h2
      · exact .inr ⟨rfl, bytesLess_tr r s t h1 h2⟩
theorem lin_B : Lin Op.bytesLess := ⟨bytesLess_irr, bytesLess_tr, bytesLess_tot⟩
theorem cmpB_lt (x y : List UInt8) : cmpB x y < 0 ↔ Op.bytesLess x y = true := by
  unfold cmpB
  split
  · simp_all
  · split <;> simp_all
/-! ### sorting, one by one -/
section
variable {α : Type} (lt : α → α → Bool)
/-- Into a row that falls. -/
def insE (a : α) : List α → List α
  | [] => [a]
  | b :: r => if lt a b then b :: insE a r else a :: b :: r
/-- Put in at its end, and moved down. -/
def insR (o : List α) (a : α) : List α := (insE lt a o.reverse).reverse
def sortI (l : List α) : List α := l.foldl (insR lt) []
variable {lt}
theorem insE_perm (a : α) : ∀ l, (insE lt a l).Perm (a :: l)
  | [] => .refl _
  | b :: r => by
    unfold insE
    split
    · exact ((insE_perm a r).cons b).trans (.swap a b r)
    · exact .refl _
theorem insR_perm (o : List α) (a : α) : (insR lt o a).Perm (o ++ [a]) := by
  unfold insR
  refine (List.reverse_perm _).trans ((insE_perm a _).trans ?_)
  exact ((List.reverse_perm o).cons a).trans (List.perm_append_comm (l₁ := [a]) (l₂ := o))
theorem foldI_perm : ∀ (l o : List α), (l.foldl (insR lt) o).Perm (o ++ l)
  | [], o => by simp
  | a :: r, o => by
    refine (foldI_perm r _).trans ?_
    exact ((insR_perm o a).append_right r).trans (by simp)
theorem sortI_perm (l : List α) : (sortI lt l).Perm l := by simpa [sortI] using foldI_perm (lt := lt) l []
theorem insE_pw (h : Lin lt) (a : α) : ∀ l, l.Pairwise (fun x y => lt x y = false) → (insE lt a l).Pairwise (fun x y => lt x y = false)
  | [], _ => by simp [insE]
  | b :: r, hp => by
    unfold insE
    have hp' := List.pairwise_cons.1 hp
    split
    · rename_i hl
      refine List.pairwise_cons.2 ⟨fun y hy => ?_, insE_pw h a r hp'.2⟩
      rcases List.mem_cons.1 ((insE_perm a r).mem_iff.1 hy) with rfl | hy
      · exact h.asymm hl
      · exact hp'.1 _ hy
    · rename_i hl
      have hl : lt a b = false := by simpa using hl
      refine List.pairwise_cons.2 ⟨fun y hy => ?_, hp⟩
      rcases List.mem_cons.1 hy with rfl | hy
      · exact hl
      · exact h.ntr hl (hp'.1 _ hy)
theorem insR_pw (h : Lin lt) {o : List α} (a : α) (hp : o.Pairwise (fun x y => lt y x = false)) : (insR lt o a).Pairwise (fun x y => lt y x = false) := by
  unfold insR
  rw [List.pairwise_reverse]
  exact insE_pw h a _ (by rw [List.pairwise_reverse]; exact hp)
theorem foldI_pw (h : Lin lt) : ∀ (l o : List α), o.Pairwise (fun x y => lt y x = false) → (l.foldl (insR lt) o).Pairwise (fun x y => lt y x = false)
  | [], _, hp => hp
  | a :: r, _, hp => foldI_pw h r _ (insR_pw h a hp)
theorem sortI_pw (h : Lin lt) (l : List α) : (sortI lt l).Pairwise (fun x y => lt y x = false) := foldI_pw h l [] .nil
/-- There is one sorted row. -/
theorem sorted_one (h : Lin lt) {a b : List α} (hp : a.Perm b) (ha : a.Pairwise (fun x y => lt y x = false)) (hb : b.Pairwise (fun x y => lt y x = false)) : a = b :=
  List.Perm.eq_of_pairwise (fun _ _ _ _ h1 h2 => h.tot _ _ h2 h1) ha hb hp
theorem sortI_of (h : Lin lt) {a b : List α} (hp : a.Perm b) (ha : a.Pairwise (fun x y => lt y x = false)) : a = sortI lt b :=
  sorted_one h (hp.trans (sortI_perm b).symm) ha (sortI_pw h b)
end
/-- Sorted by keys that are unlike. -/
theorem sorted_key {α β : Type} {lt : β → β → Bool} (h : Lin lt) (key : α → β) {a b : List α} (hk : ∀ x ∈ a, ∀ y ∈ a, key x = key y → x = y) (hp : a.Perm b)
    (ha : a.Pairwise (fun x y => lt (key y) (key x) = false)) (hb : b.Pairwise (fun x y => lt (key y) (key x) = false)) : a = b :=
  List.Perm.eq_of_pairwise (le := fun x y => lt (key y) (key x) = false) (fun x y hx hy h1 h2 => hk x hx y (hp.mem_iff.2 hy) (h.tot _ _ h2 h1)) ha hb hp
theorem insE_key {α β : Type} {lt : β → β → Bool} (key : α → β) (a : α) : ∀ l : List α, (insE (fun x y => lt (key x) (key y)) a l).map key = insE lt (key a) (l.map key)
  | [] => rfl
  | b :: r => by
    simp only [insE, List.map_cons]
    split
    · simp [insE_key key a r]
    · simp
theorem insR_key {α β : Type} {lt : β → β → Bool} (key : α → β) (o : List α) (a : α) : (insR (fun x y => lt (key x) (key y)) o a).map key = insR lt (o.map key) (key a) := by
  unfold insR
  rw [List.map_reverse, insE_key, List.map_reverse]
theorem foldI_key {α β : Type} {lt : β → β → Bool} (key : α → β) : ∀ l o : List α, (l.foldl (insR (fun x y => lt (key x) (key y))) o).map key = (l.map key).foldl (insR lt) (o.map key)
  | [], _ => rfl
  | a :: r, o => by
    simp only [List.foldl_cons, List.map_cons]
    rw [foldI_key key r, insR_key]
theorem sortI_key {α β : Type} {lt : β → β → Bool} (h : Lin lt) (key : α → β) (l : List α) : (sortI (fun x y => lt (key x) (key y)) l).Pairwise (fun x y => lt (key y) (key x) = false) := by
  have e : (sortI (fun x y => lt (key x) (key y)) l).map key = sortI lt (l.map key) := foldI_key key l []
  have := sortI_pw h (l.map key)
  rw [← e, List.pairwise_map] at this
  exact this
end Pi

/- Tree: ways up to the root. -/
namespace Pi
open Go
abbrev rootId : Id3 := (0, 0, 0)
/-- A node and all above it, by directories. -/
inductive Up (T : List Pl) : Id3 → List Id3 → Prop
  | top {x : Id3} {p : Pl} (h : atPl T x = some p) (h0 : p.2.1 = rootId) : Up T x [x]
  | step {x : Id3} {p q : Pl} {w : List Id3} (h : atPl T x = some p) (h0 : p.2.1 ≠ rootId) (hq : atPl T p.2.1 = some q) (hd : q.2.2.2 = true) (hw : Up T p.2.1 w) : Up T x (x :: w)
section
variable {T : List Pl}
theorem atPl_mem {x : Id3} {p : Pl} (h : atPl T x = some p) : p ∈ T ∧ p.1 = x := by
  unfold atPl at h
  exact ⟨List.mem_of_find?_eq_some h, by simpa using List.find?_some h⟩
theorem Up.one {x : Id3} {w : List Id3} (h : Up T x w) : ∀ {w'}, Up T x w' → w = w' := by
  induction h with
  | top h h0 =>
    intro w' h'
    cases h' with
    | top => rfl
    | step h1 h2 => rw [h] at h1; cases h1; exact absurd h0 h2
  | step h h0 hq hd hw ih =>
    intro w' h'
    cases h' with
    | top h1 h2 => rw [h] at h1; cases h1; exact absurd h2 h0
    | step h1 h2 _ _ h5 => rw [h] at h1; cases h1; rw [ih h5]
theorem Up.hd {x : Id3} {w : List Id3} (h : Up T x w) : ∃ r, w = x :: r := by
  cases h with
  | top => exact ⟨_, rfl⟩
  | step => exact ⟨_, rfl⟩
theorem Up.at {x : Id3} {w : List Id3} (h : Up T x w) : ∃ p, atPl T x = some p := by
  cases h with
  | top h => exact ⟨_, h⟩
  | step h => exact ⟨_, h⟩
theorem Up.sub {x : Id3} {w : List Id3} (h : Up T x w) : ∀ u ∈ w, ∃ w', Up T u w' ∧ w'.length ≤ w.length ∧ ∃ v, w = v ++ w' := by
  induction h with
  | top h h0 =>
    intro u hu
    simp at hu
    subst hu
    exact ⟨_, .top h h0, by simp, [], rfl⟩
  | @step x p q w h h0 hq hd hw ih =>
    intro u hu
    rcases List.mem_cons.1 hu with rfl | hu
    · exact ⟨_, .step h h0 hq hd hw, Nat.le_refl _, [], rfl⟩
    · obtain ⟨w', h1, h2, v, h3⟩ := ih u hu
      exact ⟨w', h1, by simp; omega, x :: v, by rw [h3]; rfl⟩
theorem Up.nodup {x : Id3} {w : List Id3} (h : Up T x w) : w.Nodup := by
  induction h with
  | top => simp
  | @step x p q w h h0 hq hd hw ih =>
    refine List.nodup_cons.2 ⟨fun hx => ?_, ih⟩
    obtain ⟨w', h1, h2, _⟩ := hw.sub x hx
    have := h1.one (.step h h0 hq hd hw)
    rw [this] at h2
    simp at h2
    omega
theorem Up.len {x : Id3} {w : List Id3} (h : Up T x w) : w.length ≤ T.length := by
  have : w ⊆ T.map (·.1) := fun u hu => by
    obtain ⟨w', h1, _⟩ := h.sub u hu
    obtain ⟨p, hp⟩ := h1.at
    obtain ⟨h2, h3⟩ := atPl_mem hp
    exact List.mem_map.2 ⟨p, h2, h3⟩
  simpa using h.nodup.length_le_of_subset this
theorem wyF_up : ∀ (n : Nat) (x : Id3) (out l : List Id3), wyF T n x out = some l → (∀ p, 0 < out.length → atPl T x = some p → p.2.2.2 = true) → ∃ w, l = out ++ w ∧ Up T x w
  | 0, _, _, _, h, _ => by cases h
  | n + 1, x, out, l, h, hd => by
    unfold wyF at h
    cases hp : atPl T x with
    | none => rw [hp] at h; cases h
    | some p =>
      rw [hp] at h
      simp only at h
      split at h
      · cases h
      · split at h
        · cases h
          exact ⟨[x], rfl, .top hp (by assumption)⟩
        · rename_i h0 h1
          cases hq : atPl T p.2.1 with
          | none =>
            cases n with
            | zero => cases h
            | succ n => unfold wyF at h; rw [hq] at h; cases h
          | some q =>
            have hdir : q.2.2.2 = true := by
              cases n with
              | zero => cases h
              | succ n =>
                unfold wyF at h
                rw [hq] at h
                simp only at h
                split at h
                · cases h
                · rename_i hh
                  cases hqd : q.2.2.2 with
                  | true => rfl
                  | false => exact absurd ⟨by simp, hqd⟩ hh
            obtain ⟨w, e, hw⟩ := wyF_up n p.2.1 (out ++ [x]) l h fun p' _ hp' => by rw [hq] at hp'; cases hp'; exact hdir
            exact ⟨x :: w, by rw [e]; simp, .step hp h1 hq hdir hw⟩
theorem up_wyF {x : Id3} {w : List Id3} (h : Up T x w) : ∀ (n : Nat) (out : List Id3), w.length ≤ n → (∀ p, 0 < out.length → atPl T x = some p → p.2.2.2 = true) → wyF T n x out = some (out ++ w) := by
  induction h with
  | @top x p h h0 =>
    intro n out hn hd
    cases n with
    | zero => simp at hn
    | succ n =>
      unfold wyF
      simp only [h]
      rw [if_neg (fun hh => by have := hd p hh.1 h; rw [hh.2] at this; cases this), if_pos h0]
  | @step x p q w h h0 hq hd' hw ih =>
    intro n out hn hd
    cases n with
    | zero => simp at hn
    | succ n =>
      unfold wyF
      simp only [h]
      rw [if_neg (fun hh => by have := hd p hh.1 h; rw [hh.2] at this; cases this), if_neg h0]
      rw [ih n (out ++ [x]) (by simp at hn; omega) fun p' _ hp' => by rw [hq] at hp'; cases hp'; exact hd']
      simp
theorem wy_iff {x : Id3} {w : List Id3} : wy T x = some w ↔ Up T x w := by
  constructor
  · intro h
    obtain ⟨w', e, hw⟩ := wyF_up _ _ _ _ h (fun _ h => by simp at h)
    rw [e]
    exact hw
  · intro h
    have := up_wyF h (T.length + 1) [] (by have := h.len; omega) (fun _ h => by simp at h)
    rw [List.nil_append] at this
    exact this
/-- Does a node lead up to the root, by directories? -/
def rootF (T : List Pl) : Nat → Id3 → Bool
  | 0, _ => false
  | n + 1, x => match atPl T x with
    | none => false
    | some p => if p.2.1 = rootId then true else match atPl T p.2.1 with
      | none => false
      | some q => if q.2.2.2 = false then false else rootF T n p.2.1
def rooted (T : List Pl) (x : Id3) : Bool := rootF T (T.length + 1) x
theorem rootF_up : ∀ (n : Nat) (x : Id3), rootF T n x = true → ∃ w, Up T x w
  | 0, _, h => by cases h
  | n + 1, x, h => by
    unfold rootF at h
    cases hp : atPl T x with
    | none => rw [hp] at h; cases h
    | some p =>
      rw [hp] at h
      simp only at h
      split at h
      · exact ⟨_, .top hp (by assumption)⟩
      · rename_i h0
        cases hq : atPl T p.2.1 with
        | none => rw [hq] at h; cases h
        | some q =>
          rw [hq] at h
          simp only at h
          split at h
          · cases h
          · rename_i hd
            obtain ⟨w, hw⟩ := rootF_up n _ h
            exact ⟨_, .step hp h0 hq (by simpa using hd) hw⟩
theorem up_rootF {x : Id3} {w : List Id3} (h : Up T x w) : ∀ n, w.length ≤ n → rootF T n x = true := by
  induction h with
  | @top x p h h0 =>
    intro n hn
    cases n with
    | zero => simp at hn
    | succ n => unfold rootF; simp only [h]; rw [if_pos h0]
  | @step x p q w h h0 hq hd hw ih =>
    intro n hn
    cases n with
    | zero => simp at hn
    | succ n =>
      unfold rootF
      simp only [h, hq]
      rw [if_neg h0, if_neg (by rw [hd]; simp)]
      exact ih n (by simp at hn; omega)
theorem rooted_iff {x : Id3} : rooted T x = true ↔ ∃ w, Up T x w :=
  ⟨rootF_up _ _, fun ⟨_, h⟩ => up_rootF h _ (by have := h.len; omega)⟩
/-- Is a node another one, or above it? -/
def withinF (T : List Pl) : Nat → Id3 → Id3 → Bool
  | 0, _, _ => true
  | n + 1, x, up => if x = up then true else match atPl T x with
    | none => false
    | some p => withinF T n p.2.1 up
def within (T : List Pl) (x up : Id3) : Bool := withinF T (T.length + 1) x up
theorem withinF_up {x : Id3} {w : List Id3} (h : Up T x w) {up : Id3} (hu : up ≠ rootId) (h00 : atPl T rootId = none) : ∀ n, w.length < n → withinF T n x up = decide (up ∈ w) := by
  induction h with
  | @top x p h h0 =>
    intro n hn
    match n, hn with
    | n + 2, _ =>
      unfold withinF
      simp only [h]
      split
      · rename_i e; simp [e]
      · rename_i e
        unfold withinF
        rw [h0, if_neg (fun h => hu h.symm)]
        simp only [h00]
        simpa using fun h : up = x => e h.symm
    | 1, hn => simp at hn
  | @step x p q w h h0 hq hd hw ih =>
    intro n hn
    cases n with
    | zero => simp at hn
    | succ n =>
      unfold withinF
      simp only [h]
      split
      · rename_i e; simp [e]
      · rename_i e
        rw [ih n (by simp at hn; omega)]
        have : up ≠ x := fun h => e h.symm
        simp [this]
/-! ### who is seen -/
theorem lvS_nodup {V : List Id3} {x : Id3} (h : V.Nodup) : (lvS V x).Nodup := by
  unfold lvS
  split
  · exact h
  · rename_i hx
    rw [List.nodup_append]
    exact ⟨h, by simp, fun a ha b hb => by simp at hb; subst hb; exact fun e => hx (e ▸ ha)⟩
theorem lvS_mem {V : List Id3} {x z : Id3} : z ∈ lvS V x ↔ z ∈ V ∨ z = x := by
  unfold lvS
  split
  · rename_i hx
    exact ⟨.inl, fun h => h.elim id fun e => e ▸ hx⟩
  · simp
theorem lvF_mem : ∀ (l V : List Id3) (z : Id3), z ∈ l.foldl lvS V ↔ z ∈ V ∨ z ∈ l
  | [], V, z => by simp
  | x :: r, V, z => by
    rw [List.foldl_cons, lvF_mem r, lvS_mem, List.mem_cons, or_assoc]
theorem lvF_nodup : ∀ (l V : List Id3), V.Nodup → (l.foldl lvS V).Nodup
  | [], _, h => h
  | _ :: r, _, h => lvF_nodup r _ (lvS_nodup h)
theorem lvL_mem {l : List Id3} {z : Id3} : z ∈ lvL l ↔ z ∈ l := by simp [lvL, lvF_mem]
theorem lvL_nodup (l : List Id3) : (lvL l).Nodup := lvF_nodup l [] (by simp)
/-- Is a node seen? -/
def marked (T : List Pl) (live : List Id3) (z : Id3) : Bool := live.any fun x => match wy T x with | some w => w.contains z | none => false
theorem marked_iff {live : List Id3} {z : Id3} : marked T live z = true ↔ ∃ x ∈ live, ∃ w, Up T x w ∧ z ∈ w := by
  unfold marked
  rw [List.any_eq_true]
  constructor
  · rintro ⟨x, hx, h⟩
    cases hw : wy T x with
    | none => rw [hw] at h; cases h
    | some w => rw [hw] at h; exact ⟨x, hx, w, wy_iff.1 hw, by simpa using h⟩
  · rintro ⟨x, hx, w, hw, hz⟩
    exact ⟨x, hx, by rw [wy_iff.2 hw]; simpa using hz⟩
def seenL (T : List Pl) (live : List Id3) : List Pl := T.filter fun p => marked T live p.1
theorem marked_up {live : List Id3} {z : Id3} (h : marked T live z = true) : ∃ w, Up T z w ∧ ∀ u ∈ w, marked T live u = true := by
  obtain ⟨x, hx, w, hw, hz⟩ := marked_iff.1 h
  obtain ⟨w', h1, _, v, h3⟩ := hw.sub z hz
  exact ⟨w', h1, fun u hu => marked_iff.2 ⟨x, hx, w, hw, by rw [h3]; exact List.mem_append_right _ hu⟩⟩
theorem marked_at {live : List Id3} {z : Id3} (h : marked T live z = true) : ∃ p, atPl T z = some p := by
  obtain ⟨w, hw, _⟩ := marked_up h
  exact hw.at
/-- Who is marked by one that is live. -/
def mkF (S : List Id3) : List Id3 → List Id3
  | [] => S
  | u :: r => if u ∈ S then S else mkF (S ++ [u]) r
/-- Of any who are marked, all above are. -/
def UpC (T : List Pl) (S : List Id3) : Prop := ∀ z ∈ S, ∃ w, Up T z w ∧ ∀ u ∈ w, u ∈ S
theorem mkF_mem {x : Id3} {w : List Id3} (h : Up T x w) : ∀ {S : List Id3}, (∀ u ∈ w, u ∈ S → ∀ w', Up T u w' → ∀ z ∈ w', z ∈ S) → ∀ z, z ∈ mkF S w ↔ z ∈ S ∨ z ∈ w := by
  induction h with
  | @top x p h h0 =>
    intro S hC z
    unfold mkF
    split
    · rename_i hx
      exact ⟨.inl, fun h => h.elim id fun hz => by simp at hz; exact hz ▸ hx⟩
    · simp [mkF]
  | @step x p q w h h0 hq hd hw ih =>
    intro S hC z
    unfold mkF
    split
    · rename_i hx
      exact ⟨.inl, fun hz => hz.elim id fun hz => hC x (by simp) hx _ (.step h h0 hq hd hw) z hz⟩
    · rename_i hx
      have hn := (Up.step h h0 hq hd hw).nodup
      have hxw : x ∉ w := (List.nodup_cons.1 hn).1
      rw [ih (fun u hu hS w' hw' z hz => by
        have hS' : u ∈ S := by
          rcases List.mem_append.1 hS with h | h
          · exact h
          · simp at h; subst h; exact absurd hu hxw
        exact List.mem_append_left _ (hC u (by simp [hu]) hS' w' hw' z hz))]
      simp [or_assoc]
theorem mkF_nodup : ∀ (w : List Id3) {S : List Id3}, S.Nodup → (mkF S w).Nodup
  | [], _, h => h
  | u :: r, S, h => by
    unfold mkF
    split
    · exact h
    · rename_i hu
      refine mkF_nodup r ?_
      rw [List.nodup_append]
      exact ⟨h, by simp, fun a ha b hb => by simp at hb; subst hb; exact fun e => hu (e ▸ ha)⟩
theorem UpC.in {S : List Id3} (h : UpC T S) {z : Id3} (hz : z ∈ S) {w : List Id3} (hw : Up T z w) : ∀ u ∈ w, u ∈ S := by
  obtain ⟨w', h1, h2⟩ := h z hz
  rw [hw.one h1]
  exact h2
theorem UpC.mk {x : Id3} {w : List Id3} (h : Up T x w) {S : List Id3} (hS : UpC T S) : UpC T (mkF S w) ∧ ∀ z, z ∈ mkF S w ↔ z ∈ S ∨ z ∈ w := by
  have hm := mkF_mem h (S := S) fun u _ hu w' hw' => hS.in hu hw'
  refine ⟨fun z hz => ?_, hm⟩
  rcases (hm z).1 hz with hz | hz
  · obtain ⟨w', h1, h2⟩ := hS z hz
    exact ⟨w', h1, fun u hu => (hm u).2 (.inl (h2 u hu))⟩
  · obtain ⟨w', h1, _, v, h3⟩ := h.sub z hz
    exact ⟨w', h1, fun u hu => (hm u).2 (.inr (by rw [h3]; exact List.mem_append_right _ hu))⟩
def markR (T : List Pl) (S : List Id3) (x : Id3) : List Id3 := match wy T x with | some w => mkF S w | none => S
theorem markR_ok {S : List Id3} (x : Id3) (h : UpC T S) (hn : S.Nodup) : UpC T (markR T S x) ∧ (markR T S x).Nodup ∧ ∀ z, z ∈ markR T S x ↔ z ∈ S ∨ ∃ w, Up T x w ∧ z ∈ w := by
  unfold markR
  cases hw : wy T x with
  | none => exact ⟨h, hn, fun z => ⟨.inl, fun h => h.elim id fun ⟨w, h1, _⟩ => by rw [wy_iff.2 h1] at hw; cases hw⟩⟩
  | some w =>
    have hw := wy_iff.1 hw
    obtain ⟨h1, h2⟩ := h.mk hw
    exact ⟨h1, mkF_nodup w hn, fun z => by rw [h2]; exact or_congr Iff.rfl ⟨fun h => ⟨w, hw, h⟩, fun ⟨w', h3, h4⟩ => by rw [hw.one h3]; exact h4⟩⟩
/-- The ids of the seen ones. -/
def seenI (T : List Pl) (live : List Id3) : List Id3 := (seenL T live).map (·.1)
/-- Each node stands once. -/
def Uq (T : List Pl) : Prop := (T.map (·.1)).Nodup
theorem atPl_of (hu : Uq T) {p : Pl} (hp : p ∈ T) : atPl T p.1 = some p := by
  unfold atPl
  unfold Uq at hu
  induction T with
  | nil => cases hp
  | cons a r ih =>
    rw [List.map_cons, List.nodup_cons] at hu
    rw [List.find?_cons]
    rcases List.mem_cons.1 hp with rfl | hp
    · simp
    · have : (a.1 == p.1) = false := by
        simp only [beq_eq_false_iff_ne, ne_eq]
        exact fun e => hu.1 (e ▸ List.mem_map_of_mem hp)
      rw [this]
      exact ih hu.2 hp
theorem seenI_mem {live : List Id3} {z : Id3} : z ∈ seenI T live ↔ marked T live z = true := by
  unfold seenI seenL
  constructor
  · intro h
    obtain ⟨p, hp, rfl⟩ := List.mem_map.1 h
    exact (List.mem_filter.1 hp).2
  · intro h
    obtain ⟨p, hp⟩ := marked_at h
    obtain ⟨h1, h2⟩ := atPl_mem hp
    exact List.mem_map.2 ⟨p, List.mem_filter.2 ⟨h1, by rw [h2]; exact h⟩, h2⟩
theorem seenI_nodup (hu : Uq T) (live : List Id3) : (seenI T live).Nodup :=
  List.Nodup.sublist (List.filter_sublist.map _) hu
theorem seen_perm (hu : Uq T) {live S : List Id3} (hn : S.Nodup) (h : ∀ z, z ∈ S ↔ marked T live z = true) : S.Perm (seenI T live) :=
  (List.perm_ext_iff_of_nodup hn (seenI_nodup hu live)).2 fun z => by rw [h, seenI_mem]
theorem marked_ext {live live' : List Id3} (h : ∀ z, z ∈ live ↔ z ∈ live') (z : Id3) : marked T live z = marked T live' z := by
  rw [Bool.eq_iff_iff, marked_iff, marked_iff]
  exact ⟨fun ⟨x, hx, h'⟩ => ⟨x, (h x).1 hx, h'⟩, fun ⟨x, hx, h'⟩ => ⟨x, (h x).2 hx, h'⟩⟩
end
end Pi

/- Tree: names, paths, items. -/
namespace Pi
open Go
theorem name_seen {s : List UInt8} (h : nameOk s = true) : seenOk s = true := by
  have h1 := name_no h (c := 126) rfl
  simp [seenOk, pre_all h1, h, h1]
/-- All are right, each node stands once. -/
def Rt (T : List Pl) : Prop := Uq T ∧ ∀ p ∈ T, okPl p = true
theorem tkS_rt {T : List Pl} (h : Rt T) (p : Pl) : Rt (tkS T p) := by
  unfold tkS
  split
  · exact h
  · rename_i h0
    split
    · rename_i hp
      refine ⟨?_, fun q hq => ?_⟩
      · unfold Uq
        rw [List.map_append, List.nodup_append]
        refine ⟨h.1, by simp, fun a ha b hb => ?_⟩
        simp at hb
        subst hb
        intro e
        obtain ⟨q, hq, hqa⟩ := List.mem_map.1 ha
        apply h0
        unfold atPl
        rw [List.find?_isSome]
        exact ⟨q, hq, by simp [hqa, e]⟩
      · rcases List.mem_append.1 hq with hq | hq
        · exact h.2 q hq
        · simp at hq; subst hq; exact hp
    · exact h
theorem tkF_rt : ∀ (l T : List Pl), Rt T → Rt (l.foldl tkS T)
  | [], _, h => h
  | p :: r, _, h => tkF_rt r _ (tkS_rt h p)
theorem tkL_rt (l : List Pl) : Rt (tkL l) := tkF_rt l [] ⟨by simp [Uq], by simp⟩
theorem tkS_len (T : List Pl) (p : Pl) : (tkS T p).length ≤ T.length + 1 := by
  unfold tkS
  split
  · omega
  · split
    · simp
    · omega
theorem tkF_len : ∀ (l T : List Pl), (l.foldl tkS T).length ≤ T.length + l.length
  | [], _ => by simp
  | p :: r, T => by
    have := tkF_len r (tkS T p)
    have := tkS_len T p
    simp only [List.foldl_cons, List.length_cons]
    omega
theorem tkL_len (l : List Pl) : (tkL l).length ≤ l.length := by simpa [tkL] using tkF_len l []
/-- Those that are right and of unlike nodes all count. -/
theorem tkF_all : ∀ (l T : List Pl), (∀ p ∈ l, okPl p = true) → (T ++ l |>.map (·.1)).Nodup → l.foldl tkS T = T ++ l
  | [], T, _, _ => by simp
  | p :: r, T, h, hn => by
    have h0 : (atPl T p.1).isSome = false := by
      cases h1 : (atPl T p.1).isSome with
      | false => rfl
      | true =>
        obtain ⟨q, hq⟩ := Option.isSome_iff_exists.1 h1
        obtain ⟨h2, h3⟩ := atPl_mem hq
        rw [List.map_append, List.nodup_append] at hn
        exact absurd h3 (hn.2.2 q.1 (List.mem_map_of_mem h2) p.1 (by simp))
    have e : tkS T p = T ++ [p] := by unfold tkS; rw [h0]; simp [h p (by simp)]
    rw [List.foldl_cons, e, tkF_all r (T ++ [p]) (fun q hq => h q (by simp [hq])) (by simpa using hn)]
    simp
theorem tkL_all {l : List Pl} (h : ∀ p ∈ l, okPl p = true) (hn : (l.map (·.1)).Nodup) : tkL l = l := by
  unfold tkL
  rw [tkF_all l [] h (by simpa using hn)]
  rfl
/-- What a node is seen as, of those that are seen. -/
def nmP (L : List Pl) (p : Pl) : List UInt8 := if L.any (fun q => decide (q.2.1 = p.2.1) && (q.2.2.1 == p.2.2.1) && ltX q.1 p.1) then (clashP p.2.2.1 p.1.1 p.1.2.1 p.1.2.2).1 else p.2.2.1
def nmX (T : List Pl) (live : List Id3) (x : Id3) : List UInt8 := match atPl T x with | some p => nmP (seenL T live) p | none => []
def namesX (T : List Pl) (live : List Id3) (x : Id3) : List (List UInt8) := match wy T x with | some w => w.reverse.map (nmX T live) | none => []
def pathX (T : List Pl) (live : List Id3) (x : Id3) : List UInt8 := joinR (namesX T live x)
abbrev It := Id3 × List UInt8 × Bool × Bool
def itemX (T : List Pl) (live : List Id3) (p : Pl) : It := (p.1, pathX T live p.1, p.2.2.2, !decide (p.1 ∈ live))
abbrev ltP (a b : It) : Bool := Op.bytesLess a.2.1 b.2.1
def itemsX (T : List Pl) (live : List Id3) : List It := sortI ltP ((seenL T live).map (itemX T live))
section
variable {T : List Pl} {live : List Id3}
theorem clashR {p : Pl} (h : okPl p = true) : (clashP p.2.2.1 p.1.1 p.1.2.1 p.1.2.2).1 = p.2.2.1 ++ 126 :: textS p.1.1 p.1.2.1 p.1.2.2 := by
  simp only [okPl, Bool.and_eq_true] at h
  rw [clashP, if_pos h.2, if_pos h.1]
theorem nmP_seen {L : List Pl} {p : Pl} (h : okPl p = true) : seenOk (nmP L p) = true := by
  have h' := h
  simp only [okPl, Bool.and_eq_true] at h'
  unfold nmP
  split
  · rw [clashR h]; exact clash_seen h'.2 h'.1
  · exact name_seen h'.2
theorem nmP_inj {L : List Pl} {p q : Pl} (hp : p ∈ L) (hq : q ∈ L) (op : okPl p = true) (oq : okPl q = true) (hpar : p.2.1 = q.2.1) (h : nmP L p = nmP L q) : p.1 = q.1 := by
  have op' := op
  have oq' := oq
  simp only [okPl, Bool.and_eq_true] at op' oq'
  unfold nmP at h
  split at h
  · rename_i c1
    split at h
    · rename_i c2
      rw [clashR op, clashR oq] at h
      obtain ⟨_, h1, h2, h3⟩ := clash_inj op'.2 op'.1 oq'.2 oq'.1 h
      exact Prod.ext h1 (Prod.ext h2 h3)
    · rw [clashR op] at h
      rw [← h] at oq'
      rw [clash_name] at oq'
      cases oq'.2
  · rename_i c1
    split at h
    · rw [clashR oq] at h
      rw [h] at op'
      rw [clash_name] at op'
      cases op'.2
    · rename_i c2
      refine lin_X.tot _ _ ?_ ?_
      · cases hl : ltX p.1 q.1 with
        | false => rfl
        | true => exact absurd (List.any_eq_true.2 ⟨p, hp, by simp [hpar, h, hl]⟩) c2
      · cases hl : ltX q.1 p.1 with
        | false => rfl
        | true => exact absurd (List.any_eq_true.2 ⟨q, hq, by simp [hpar, h, hl]⟩) c1
theorem joinR_inj : ∀ {a b : List (List UInt8)}, (∀ x ∈ a, (47 : UInt8) ∉ x) → (∀ x ∈ b, (47 : UInt8) ∉ x) → joinR a = joinR b → a = b
  | [], [], _, _, _ => rfl
  | [], _ :: _, _, _, h => by simp [joinR] at h
  | _ :: _, [], _, _, h => by simp [joinR] at h
  | x :: a, y :: b, ha, hb, h => by
    have h' : x ++ joinR a = y ++ joinR b := by simpa [joinR] using h
    have key : ∀ (x y : List UInt8) (u v : List (List UInt8)), (47 : UInt8) ∉ x → (47 : UInt8) ∉ y → x ++ joinR u = y ++ joinR v → x = y := by
      intro x
      induction x with
      | nil =>
        intro y u v _ hy h
        cases y with
        | nil => rfl
        | cons c y =>
          cases u with
          | nil => simp [joinR] at h
          | cons z u => simp [joinR] at h; exact absurd (by simp [h.1]) hy
      | cons c x ih =>
        intro y u v hx hy h
        cases y with
        | nil =>
          cases v with
          | nil => simp [joinR] at h
          | cons z v => simp [joinR] at h; exact absurd (by simp [h.1]) hx
        | cons d y =>
          simp only [List.cons_append, List.cons.injEq] at h
          rw [h.1, ih y u v (fun m => hx (by simp [m])) (fun m => hy (by simp [m])) h.2]
    have e := key x y a b (ha x (by simp)) (hb y (by simp)) h'
    subst e
    rw [joinR_inj (fun z hz => ha z (by simp [hz])) (fun z hz => hb z (by simp [hz])) (List.append_cancel_left h')]
theorem namesX_seen (hT : Rt T) (x : Id3) : ∀ s ∈ namesX T live x, seenOk s = true := by
  intro s hs
  unfold namesX at hs
  cases hw : wy T x with
  | none => rw [hw] at hs; cases hs
  | some w =>
    rw [hw] at hs
    obtain ⟨u, hu, rfl⟩ := List.mem_map.1 hs
    obtain ⟨w', h1, _⟩ := (wy_iff.1 hw).sub u (by simpa using hu)
    obtain ⟨p, hp⟩ := h1.at
    unfold nmX
    rw [hp]
    exact nmP_seen (hT.2 p (atPl_mem hp).1)
theorem seen_mem {x : Id3} {p : Pl} (h : marked T live x = true) (hp : atPl T x = some p) : p ∈ seenL T live := by
  obtain ⟨h1, h2⟩ := atPl_mem hp
  exact List.mem_filter.2 ⟨h1, by rw [h2]; exact h⟩
theorem up_inj (hT : Rt T) {x : Id3} {w : List Id3} (h : Up T x w) : ∀ {y v}, Up T y v → (∀ u ∈ w, marked T live u = true) → (∀ u ∈ v, marked T live u = true) → w.map (nmX T live) = v.map (nmX T live) → x = y := by
  have hd : ∀ {a b : Id3} {p q : Pl}, atPl T a = some p → atPl T b = some q → marked T live a = true → marked T live b = true → p.2.1 = q.2.1 → nmX T live a = nmX T live b → a = b := by
    intro a b p q ha hb ma mb hpar h
    unfold nmX at h
    rw [ha, hb] at h
    have := nmP_inj (seen_mem ma ha) (seen_mem mb hb) (hT.2 p (atPl_mem ha).1) (hT.2 q (atPl_mem hb).1) hpar h
    rw [← (atPl_mem ha).2, ← (atPl_mem hb).2, this]
  induction h with
  | @top x p h h0 =>
    intro y v hv mw mv e
    cases hv with
    | top h' h0' =>
      simp only [List.map_cons, List.map_nil, List.cons.injEq, and_true] at e
      exact hd h h' (mw _ (by simp)) (mv _ (by simp)) (by rw [h0, h0']) e
    | step _ _ _ _ hw =>
      obtain ⟨r, rfl⟩ := hw.hd
      simp at e
  | @step x p q w h h0 hq hdir hw ih =>
    intro y v hv mw mv e
    cases hv with
    | top =>
      obtain ⟨r, rfl⟩ := hw.hd
      simp at e
    | @step y p' q' v h' h0' _ _ hv =>
      simp only [List.map_cons, List.cons.injEq] at e
      have := ih hv (fun u hu => mw u (by simp [hu])) (fun u hu => mv u (by simp [hu])) e.2
      exact hd h h' (mw _ (by simp)) (mv _ (by simp)) this e.1
theorem pathX_up {x : Id3} {w : List Id3} (h : Up T x w) : namesX T live x = w.reverse.map (nmX T live) := by
  unfold namesX
  rw [wy_iff.2 h]
/-- No two that are seen have one path. -/
theorem pathX_inj (hT : Rt T) {x y : Id3} (hx : marked T live x = true) (hy : marked T live y = true) (h : pathX T live x = pathX T live y) : x = y := by
  obtain ⟨w, hw, mw⟩ := marked_up hx
  obtain ⟨v, hv, mv⟩ := marked_up hy
  have := joinR_inj (fun s hs => seen_no (namesX_seen hT x s hs)) (fun s hs => seen_no (namesX_seen hT y s hs)) h
  rw [pathX_up hw, pathX_up hv, List.map_reverse, List.map_reverse, List.reverse_inj] at this
  exact up_inj hT hw hv mw mv this
theorem seen_pl {p : Pl} (h : p ∈ seenL T live) : p ∈ T ∧ marked T live p.1 = true := by
  unfold seenL at h
  rw [List.mem_filter] at h
  exact h
theorem items_key (hT : Rt T) : ∀ a ∈ (seenL T live).map (itemX T live), ∀ b ∈ (seenL T live).map (itemX T live), a.2.1 = b.2.1 → a = b := by
  intro a ha b hb h
  obtain ⟨p, hp, rfl⟩ := List.mem_map.1 ha
  obtain ⟨q, hq, rfl⟩ := List.mem_map.1 hb
  obtain ⟨p1, p2⟩ := seen_pl hp
  obtain ⟨q1, q2⟩ := seen_pl hq
  have e := pathX_inj hT p2 q2 h
  have e1 := atPl_of hT.1 p1
  have e2 := atPl_of hT.1 q1
  rw [e, e2] at e1
  cases e1
  rfl
theorem itemsX_perm : (itemsX T live).Perm ((seenL T live).map (itemX T live)) := sortI_perm _
theorem itemsX_pw : (itemsX T live).Pairwise fun a b => Op.bytesLess b.2.1 a.2.1 = false := sortI_key lin_B (fun a : It => a.2.1) _
/-- However they are sorted, there is one order. -/
theorem itemsX_of (hT : Rt T) {a : List It} (hp : a.Perm ((seenL T live).map (itemX T live))) (ha : a.Pairwise fun x y => Op.bytesLess y.2.1 x.2.1 = false) : a = itemsX T live :=
  sorted_key lin_B (fun a : It => a.2.1) (fun x hx y hy h => items_key hT x (hp.mem_iff.1 hx) y (hp.mem_iff.1 hy) h) (hp.trans itemsX_perm.symm) ha itemsX_pw
theorem sortI_nil {α : Type} {lt : α → α → Bool} : sortI lt [] = [] := rfl
/-- They rise. -/
theorem itemsX_lt (hT : Rt T) : (itemsX T live).Pairwise fun a b => Op.bytesLess a.2.1 b.2.1 = true := by
  have hn : (itemsX T live).Nodup := by
    rw [itemsX_perm.nodup_iff]
    have : (seenL T live).map (itemX T live) |>.map (·.1) |>.Nodup := by
      have e : ((seenL T live).map (itemX T live)).map (·.1) = seenI T live := by simp [seenI, itemX]
      rw [e]
      exact seenI_nodup hT.1 live
    exact List.Pairwise.of_map (fun a : It => a.1) (fun a b h e => h (by rw [e])) this
  refine (itemsX_pw.and hn).imp_of_mem ?_
  intro a b ha hb hab
  cases hl : Op.bytesLess a.2.1 b.2.1 with
  | true => rfl
  | false => exact absurd (items_key hT a (itemsX_perm.mem_iff.1 ha) b (itemsX_perm.mem_iff.1 hb) (lin_B.tot _ _ hl hab.1)) hab.2
end
end Pi

