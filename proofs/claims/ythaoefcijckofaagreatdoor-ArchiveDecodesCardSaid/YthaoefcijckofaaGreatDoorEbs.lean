/- The texts B1 B1H B2H B3H B4H B5 B5H W3. -/
import Derived.Test.YthaoefcijckofaaGreatDoorEbr
import Derived.Lib.ValidLaws
import Derived.Sort.Walk0
import Derived.Lib.LaidTab
import Derived.Lib.LaidU8
import Derived.Stop.LaidErr
import Derived.Shelf.Vars
import Derived.Lay
import Derived.Deep.DeepHandedRow
import Derived.SevenTiedAt
import Derived.ProofKit
import Derived.Test.YthaoefcijckofaaGreatDoorRows
/- Archive: the reference: what its runs ask. -/
namespace Pi
open Go Go.Proofs
set_option maxRecDepth 100000
set_option maxHeartbeats 0
abbrev rnH (n : Int) (c : List UInt8) : S := ⟨25, [(0, iD n), (4, .sl 0 0 c.length)], [(0, ⟨0, none, u8R c⟩)]⟩
def gRn : S → K (PX × S) := fun s post => ∃ n, s = rnH n [] ∧ (0 ≤ n ∧ n < 9223372036854775808) ∧ ∀ (c : List UInt8) (m : Int), m < 128 → 0 ≤ m → c ++ [UInt8.ofNat m.toNat] = natW n.toNat → c.length < 10 → post (.exit 0, rnH m c)
theorem vcRnN (n : Int) (c : List UInt8) (post : PX × S → Prop) : (bif decide (n ≥ (128 : Int)) then bif decide ((-9223372036854775808 : Int) ≤ (128 : Int) + Int.tmod n (128 : Int) ∧ (128 : Int) + Int.tmod n (128 : Int) ≤ (9223372036854775807 : Int)) then bif Nat.ble (List.length c) (List.length (List.map bD c)) && roomOk (List.length c + List.length [D.int IntKind.u8 (IntKind.wrap IntKind.u8 ((128 : Int) + Int.tmod n (128 : Int)))]) 1 then bif decide ((-9223372036854775808 : Int) ≤ Int.tdiv n (128 : Int) ∧ Int.tdiv n (128 : Int) ≤ (9223372036854775807 : Int)) then post (PX.normal, S.mk 25 [(0, P.d (D.int IntKind.i64 (Int.tdiv n (128 : Int)))), (4, P.sl 0 0 (List.length c + List.length [D.int IntKind.u8 (IntKind.wrap IntKind.u8 ((128 : Int) + Int.tmod n (128 : Int)))]))] [(0, En.mk 0 none (Obj.arr 5 false (List.take (List.length c) (List.map bD c) ++ [D.int IntKind.u8 (IntKind.wrap IntKind.u8 ((128 : Int) + Int.tmod n (128 : Int)))])))]) else False else False else False else post (PX.exit 0, S.mk 25 [(0, P.d (D.int IntKind.i64 n)), (4, P.sl 0 0 (List.length c))] [(0, En.mk 0 none (Obj.arr 5 false (List.map bD c)))])) = (roundL [] [] 33 4 (rnH n c)) post := by kernel_rfl
theorem vcRn (n : Int) (post : P × List (Nat × En) → Prop) : (bif decide (n < (0 : Int)) then post (P.tup [P.d (D.str []), P.d (D.int IntKind.i64 (1 : Int))], []) else ∃ (n_1 : Int), S.mk 25 [(0, P.d (D.int IntKind.i64 n)), (4, P.sl 0 0 0)] [(0, En.mk 0 none (Obj.arr 5 false []))] = S.mk 25 [(0, P.d (D.int IntKind.i64 n_1)), (4, P.sl 0 0 0)] [(0, En.mk 0 none (Obj.arr 5 false []))] ∧ ((0 : Int) ≤ n_1 ∧ n_1 < (9223372036854775808 : Int)) ∧ ∀ (c : List UInt8) (m : Int), m < (128 : Int) → (0 : Int) ≤ m → c ++ [UInt8.ofNat (Int.toNat m)] = natW (Int.toNat n_1) → List.length c < 10 → bif Nat.ble (List.length c) (List.length (List.map bD c)) && roomOk (List.length c + List.length [D.int IntKind.u8 (IntKind.wrap IntKind.u8 m)]) 1 then bif bytesB (List.take (List.length c + List.length [D.int IntKind.u8 (IntKind.wrap IntKind.u8 m)]) (List.take (List.length c) (List.map bD c) ++ [D.int IntKind.u8 (IntKind.wrap IntKind.u8 m)])) then post (P.tup [P.d (D.str (bytesOf (List.take (List.length c + List.length [D.int IntKind.u8 (IntKind.wrap IntKind.u8 m)]) (List.take (List.length c) (List.map bD c) ++ [D.int IntKind.u8 (IntKind.wrap IntKind.u8 m)])))), P.d (D.int IntKind.i64 (0 : Int))], []) else False else False) = (bodyF [] [(4, loopHook (kpF 33 4) gRn)] 33 [iD n] []) post := by kernel_rfl
abbrev rtH (s : List UInt8) (n p i : Int) : S := ⟨46, [(0, sD s), (5, iD n), (6, iD p), (7, iD i)], []⟩
def gRt : S → K (PX × S) := fun st post => ∃ s, st = rtH s 0 1 0 ∧ s.length ≤ 2000000 ∧ (takeG 0 s = (10, 0, []) → post (.exit 0, ⟨46, [], []⟩)) ∧ ∀ (e : Int) (n : Nat) (r : List UInt8), takeG 0 s = (e, n, r) → post (.ret, ⟨46, [(2, iD n), (3, sD r), (4, iD e)], []⟩)
theorem vcRtN (s : List UInt8) (n p i : Int) (post : PX × S → Prop) : (bif decide (i < (↑(List.length s) : Int)) then bif decide ((0 : Int) ≤ i ∧ i < (↑(List.length s) : Int)) then bif decide ((-9223372036854775808 : Int) ≤ (↑(UInt8.toNat (List.getD s (Int.toNat i) (0 : UInt8))) : Int) ∧ (↑(UInt8.toNat (List.getD s (Int.toNat i) (0 : UInt8))) : Int) ≤ (9223372036854775807 : Int)) then bif i == (8 : Int) then bif decide ((↑(UInt8.toNat (List.getD s (Int.toNat i) (0 : UInt8))) : Int) > (127 : Int)) then post (PX.ret, S.mk 46 [(2, P.d (D.int IntKind.i64 (0 : Int))), (3, P.d (D.str [])), (4, P.d (D.int IntKind.i64 (11 : Int)))] []) else bif decide ((-9223372036854775808 : Int) ≤ Int.tmod (↑(UInt8.toNat (List.getD s (Int.toNat i) (0 : UInt8))) : Int) (128 : Int) * p ∧ Int.tmod (↑(UInt8.toNat (List.getD s (Int.toNat i) (0 : UInt8))) : Int) (128 : Int) * p ≤ (9223372036854775807 : Int)) then bif decide ((-9223372036854775808 : Int) ≤ n + Int.tmod (↑(UInt8.toNat (List.getD s (Int.toNat i) (0 : UInt8))) : Int) (128 : Int) * p ∧ n + Int.tmod (↑(UInt8.toNat (List.getD s (Int.toNat i) (0 : UInt8))) : Int) (128 : Int) * p ≤ (9223372036854775807 : Int)) then bif decide ((↑(UInt8.toNat (List.getD s (Int.toNat i) (0 : UInt8))) : Int) < (128 : Int)) then bif (↑(UInt8.toNat (List.getD s (Int.toNat i) (0 : UInt8))) : Int) == (0 : Int) then bif decide (i > (0 : Int)) then post (PX.ret, S.mk 46 [(2, P.d (D.int IntKind.i64 (0 : Int))), (3, P.d (D.str [])), (4, P.d (D.int IntKind.i64 (11 : Int)))] []) else bif decide ((-9223372036854775808 : Int) ≤ i + (1 : Int) ∧ i + (1 : Int) ≤ (9223372036854775807 : Int)) then bif decide ((0 : Int) ≤ i + (1 : Int) ∧ i + (1 : Int) ≤ (↑(List.length s) : Int)) then post (PX.ret, S.mk 46 [(2, P.d (D.int IntKind.i64 (n + Int.tmod (↑(UInt8.toNat (List.getD s (Int.toNat i) (0 : UInt8))) : Int) (128 : Int) * p))), (3, P.d (D.str (List.drop (Int.toNat (i + (1 : Int))) (List.take (List.length s) s)))), (4, P.d (D.int IntKind.i64 (0 : Int)))] []) else False else False else bif decide ((-9223372036854775808 : Int) ≤ i + (1 : Int) ∧ i + (1 : Int) ≤ (9223372036854775807 : Int)) then bif decide ((0 : Int) ≤ i + (1 : Int) ∧ i + (1 : Int) ≤ (↑(List.length s) : Int)) then post (PX.ret, S.mk 46 [(2, P.d (D.int IntKind.i64 (n + Int.tmod (↑(UInt8.toNat (List.getD s (Int.toNat i) (0 : UInt8))) : Int) (128 : Int) * p))), (3, P.d (D.str (List.drop (Int.toNat (i + (1 : Int))) (List.take (List.length s) s)))), (4, P.d (D.int IntKind.i64 (0 : Int)))] []) else False else False else bif decide ((-9223372036854775808 : Int) ≤ p * (128 : Int) ∧ p * (128 : Int) ≤ (9223372036854775807 : Int)) then bif decide ((-9223372036854775808 : Int) ≤ i + (1 : Int) ∧ i + (1 : Int) ≤ (9223372036854775807 : Int)) then post (PX.normal, S.mk 46 [(0, P.d (D.str s)), (5, P.d (D.int IntKind.i64 (n + Int.tmod (↑(UInt8.toNat (List.getD s (Int.toNat i) (0 : UInt8))) : Int) (128 : Int) * p))), (6, P.d (D.int IntKind.i64 (p * (128 : Int)))), (7, P.d (D.int IntKind.i64 (i + (1 : Int))))] []) else False else False else False else False else bif decide ((-9223372036854775808 : Int) ≤ Int.tmod (↑(UInt8.toNat (List.getD s (Int.toNat i) (0 : UInt8))) : Int) (128 : Int) * p ∧ Int.tmod (↑(UInt8.toNat (List.getD s (Int.toNat i) (0 : UInt8))) : Int) (128 : Int) * p ≤ (9223372036854775807 : Int)) then bif decide ((-9223372036854775808 : Int) ≤ n + Int.tmod (↑(UInt8.toNat (List.getD s (Int.toNat i) (0 : UInt8))) : Int) (128 : Int) * p ∧ n + Int.tmod (↑(UInt8.toNat (List.getD s (Int.toNat i) (0 : UInt8))) : Int) (128 : Int) * p ≤ (9223372036854775807 : Int)) then bif decide ((↑(UInt8.toNat (List.getD s (Int.toNat i) (0 : UInt8))) : Int) < (128 : Int)) then bif (↑(UInt8.toNat (List.getD s (Int.toNat i) (0 : UInt8))) : Int) == (0 : Int) then bif decide (i > (0 : Int)) then post (PX.ret, S.mk 46 [(2, P.d (D.int IntKind.i64 (0 : Int))), (3, P.d (D.str [])), (4, P.d (D.int IntKind.i64 (11 : Int)))] []) else bif decide ((-9223372036854775808 : Int) ≤ i + (1 : Int) ∧ i + (1 : Int) ≤ (9223372036854775807 : Int)) then bif decide ((0 : Int) ≤ i + (1 : Int) ∧ i + (1 : Int) ≤ (↑(List.length s) : Int)) then post (PX.ret, S.mk 46 [(2, P.d (D.int IntKind.i64 (n + Int.tmod (↑(UInt8.toNat (List.getD s (Int.toNat i) (0 : UInt8))) : Int) (128 : Int) * p))), (3, P.d (D.str (List.drop (Int.toNat (i + (1 : Int))) (List.take (List.length s) s)))), (4, P.d (D.int IntKind.i64 (0 : Int)))] []) else False else False else bif decide ((-9223372036854775808 : Int) ≤ i + (1 : Int) ∧ i + (1 : Int) ≤ (9223372036854775807 : Int)) then bif decide ((0 : Int) ≤ i + (1 : Int) ∧ i + (1 : Int) ≤ (↑(List.length s) : Int)) then post (PX.ret, S.mk 46 [(2, P.d (D.int IntKind.i64 (n + Int.tmod (↑(UInt8.toNat (List.getD s (Int.toNat i) (0 : UInt8))) : Int) (128 : Int) * p))), (3, P.d (D.str (List.drop (Int.toNat (i + (1 : Int))) (List.take (List.length s) s)))), (4, P.d (D.int IntKind.i64 (0 : Int)))] []) else False else False else bif decide ((-9223372036854775808 : Int) ≤ p * (128 : Int) ∧ p * (128 : Int) ≤ (9223372036854775807 : Int)) then bif decide ((-9223372036854775808 : Int) ≤ i + (1 : Int) ∧ i + (1 : Int) ≤ (9223372036854775807 : Int)) then post (PX.normal, S.mk 46 [(0, P.d (D.str s)), (5, P.d (D.int IntKind.i64 (n + Int.tmod (↑(UInt8.toNat (List.getD s (Int.toNat i) (0 : UInt8))) : Int) (128 : Int) * p))), (6, P.d (D.int IntKind.i64 (p * (128 : Int)))), (7, P.d (D.int IntKind.i64 (i + (1 : Int))))] []) else False else False else False else False else False else False else post (PX.exit 0, S.mk 46 [] [])) = (roundL [] [] 29 4 (rtH s n p i)) post := by kernel_rfl
theorem vcRt (s : List UInt8) (post : P × List (Nat × En) → Prop) : (∃ (s_1 : List UInt8), S.mk 46 [(0, P.d (D.str s)), (5, P.d (D.int IntKind.i64 (0 : Int))), (6, P.d (D.int IntKind.i64 (1 : Int))), (7, P.d (D.int IntKind.i64 (0 : Int)))] [] = S.mk 46 [(0, P.d (D.str s_1)), (5, P.d (D.int IntKind.i64 (0 : Int))), (6, P.d (D.int IntKind.i64 (1 : Int))), (7, P.d (D.int IntKind.i64 (0 : Int)))] [] ∧ List.length s_1 ≤ 2000000 ∧ (takeG 0 s_1 = ((10 : Int), 0, []) → post (P.tup [P.d (D.int IntKind.i64 (0 : Int)), P.d (D.str []), P.d (D.int IntKind.i64 (10 : Int))], [])) ∧ ∀ (e : Int) (n : Nat) (r : List UInt8), takeG 0 s_1 = (e, n, r) → post (P.tup [P.d (D.int IntKind.i64 (↑n : Int)), P.d (D.str r), P.d (D.int IntKind.i64 e)], [])) = (bodyF [] [(4, loopHook (kpF 29 4) gRt)] 29 [sD s] []) post := by kernel_rfl
theorem vcRby (s : List UInt8) (post : P × List (Nat × En) → Prop) : (∃ (n : Int), [P.d (D.int IntKind.i64 (↑(List.length s) : Int))] = [P.d (D.int IntKind.i64 n)] ∧ EqR [] [] ∧ ((0 : Int) ≤ n ∧ n < (9223372036854775808 : Int)) ∧ bif decide (List.length (natW (Int.toNat n)) + List.length s ≤ 9223372036854775807) then post (P.d (D.str (natW (Int.toNat n) ++ s)), []) else False) = (bodyF [(33, hNat)] [] 34 [sD s] []) post := by kernel_rfl
theorem vcRtb (s : List UInt8) (post : P × List (Nat × En) → Prop) : (∃ (s_1 : List UInt8), [P.d (D.str s)] = [P.d (D.str s_1)] ∧ EqR [] [] ∧ List.length s_1 ≤ 2000000 ∧ ∀ (e : Int) (n : Nat) (r : List UInt8), takeG 0 s_1 = (e, n, r) → bif e != (0 : Int) then post (P.tup [P.d (D.str []), P.d (D.str []), P.d (D.int IntKind.i64 e)], []) else bif decide ((↑n : Int) > (↑(List.length r) : Int)) then post (P.tup [P.d (D.str []), P.d (D.str []), P.d (D.int IntKind.i64 (10 : Int))], []) else bif decide ((0 : Int) ≤ (↑n : Int) ∧ (↑n : Int) ≤ (↑(List.length r) : Int)) then bif decide ((0 : Int) ≤ (↑n : Int) ∧ (↑n : Int) ≤ (↑(List.length r) : Int)) then post (P.tup [P.d (D.str (List.drop 0 (List.take n r))), P.d (D.str (List.drop n (List.take (List.length r) r))), P.d (D.int IntKind.i64 (0 : Int))], []) else False else False) = (bodyF [(29, hTake)] [] 30 [sD s] []) post := by kernel_rfl
/-- The head of a text is no code point. -/
def badH (s : List UInt8) : Prop := (Lib.decodeL s).1 = 65533 ∧ (Lib.decodeL s).2 = 1
def hFirst : KF1 := fun ps R post => ∃ s, ps = [sD s] ∧ R = [] ∧ (s ≠ [] ∧ s.length ≤ 2000000) ∧ (badH s → ∀ c n, post (.tup [iD c, iD n, bD' false], [])) ∧ (¬ badH s → ∀ (c : Int) (n : Int), n = (Lib.decodeL s).2 → 1 ≤ n → n.toNat ≤ s.length → post (.tup [iD c, iD n, bD' true], []))
theorem vcFirst (s : List UInt8) (post : P × List (Nat × En) → Prop) : (bif decide ((0 : Int) ≤ (0 : Int) ∧ (0 : Int) < (↑(List.length s) : Int)) then bif decide ((-9223372036854775808 : Int) ≤ (↑(UInt8.toNat (List.getD s 0 (0 : UInt8))) : Int) ∧ (↑(UInt8.toNat (List.getD s 0 (0 : UInt8))) : Int) ≤ (9223372036854775807 : Int)) then bif decide ((↑(UInt8.toNat (List.getD s 0 (0 : UInt8))) : Int) < (128 : Int)) then post (P.tup [P.d (D.int IntKind.i64 (↑(UInt8.toNat (List.getD s 0 (0 : UInt8))) : Int)), P.d (D.int IntKind.i64 (1 : Int)), P.d (D.bool true)], []) else bif decide ((↑(UInt8.toNat (List.getD s 0 (0 : UInt8))) : Int) ≥ (194 : Int)) then bif decide ((↑(UInt8.toNat (List.getD s 0 (0 : UInt8))) : Int) < (224 : Int)) then bif decide ((-9223372036854775808 : Int) ≤ (↑(UInt8.toNat (List.getD s 0 (0 : UInt8))) : Int) - (192 : Int) ∧ (↑(UInt8.toNat (List.getD s 0 (0 : UInt8))) : Int) - (192 : Int) ≤ (9223372036854775807 : Int)) then bif decide ((↑(List.length s) : Int) < (2 : Int)) then post (P.tup [P.d (D.int IntKind.i64 (0 : Int)), P.d (D.int IntKind.i64 (0 : Int)), P.d (D.bool false)], []) else bif decide ((0 : Int) ≤ (1 : Int) ∧ (1 : Int) < (↑(List.length s) : Int)) then bif decide ((-9223372036854775808 : Int) ≤ (↑(UInt8.toNat (List.getD s 1 (0 : UInt8))) : Int) ∧ (↑(UInt8.toNat (List.getD s 1 (0 : UInt8))) : Int) ≤ (9223372036854775807 : Int)) then bif decide ((↑(UInt8.toNat (List.getD s 1 (0 : UInt8))) : Int) < (128 : Int)) then post (P.tup [P.d (D.int IntKind.i64 (0 : Int)), P.d (D.int IntKind.i64 (0 : Int)), P.d (D.bool false)], []) else bif decide ((↑(UInt8.toNat (List.getD s 1 (0 : UInt8))) : Int) ≥ (192 : Int)) then post (P.tup [P.d (D.int IntKind.i64 (0 : Int)), P.d (D.int IntKind.i64 (0 : Int)), P.d (D.bool false)], []) else bif decide ((-9223372036854775808 : Int) ≤ ((↑(UInt8.toNat (List.getD s 0 (0 : UInt8))) : Int) - (192 : Int)) * (64 : Int) ∧ ((↑(UInt8.toNat (List.getD s 0 (0 : UInt8))) : Int) - (192 : Int)) * (64 : Int) ≤ (9223372036854775807 : Int)) then bif decide ((-9223372036854775808 : Int) ≤ ((↑(UInt8.toNat (List.getD s 0 (0 : UInt8))) : Int) - (192 : Int)) * (64 : Int) + (↑(UInt8.toNat (List.getD s 1 (0 : UInt8))) : Int) ∧ ((↑(UInt8.toNat (List.getD s 0 (0 : UInt8))) : Int) - (192 : Int)) * (64 : Int) + (↑(UInt8.toNat (List.getD s 1 (0 : UInt8))) : Int) ≤ (9223372036854775807 : Int)) then bif decide ((-9223372036854775808 : Int) ≤ ((↑(UInt8.toNat (List.getD s 0 (0 : UInt8))) : Int) - (192 : Int)) * (64 : Int) + (↑(UInt8.toNat (List.getD s 1 (0 : UInt8))) : Int) - (128 : Int) ∧ ((↑(UInt8.toNat (List.getD s 0 (0 : UInt8))) : Int) - (192 : Int)) * (64 : Int) + (↑(UInt8.toNat (List.getD s 1 (0 : UInt8))) : Int) - (128 : Int) ≤ (9223372036854775807 : Int)) then bif decide (((↑(UInt8.toNat (List.getD s 0 (0 : UInt8))) : Int) - (192 : Int)) * (64 : Int) + (↑(UInt8.toNat (List.getD s 1 (0 : UInt8))) : Int) - (128 : Int) > (1114111 : Int)) then post (P.tup [P.d (D.int IntKind.i64 (0 : Int)), P.d (D.int IntKind.i64 (0 : Int)), P.d (D.bool false)], []) else bif decide (((↑(UInt8.toNat (List.getD s 0 (0 : UInt8))) : Int) - (192 : Int)) * (64 : Int) + (↑(UInt8.toNat (List.getD s 1 (0 : UInt8))) : Int) - (128 : Int) ≥ (55296 : Int)) then bif decide (((↑(UInt8.toNat (List.getD s 0 (0 : UInt8))) : Int) - (192 : Int)) * (64 : Int) + (↑(UInt8.toNat (List.getD s 1 (0 : UInt8))) : Int) - (128 : Int) < (57344 : Int)) then post (P.tup [P.d (D.int IntKind.i64 (0 : Int)), P.d (D.int IntKind.i64 (0 : Int)), P.d (D.bool false)], []) else post (P.tup [P.d (D.int IntKind.i64 (((↑(UInt8.toNat (List.getD s 0 (0 : UInt8))) : Int) - (192 : Int)) * (64 : Int) + (↑(UInt8.toNat (List.getD s 1 (0 : UInt8))) : Int) - (128 : Int))), P.d (D.int IntKind.i64 (2 : Int)), P.d (D.bool true)], []) else post (P.tup [P.d (D.int IntKind.i64 (((↑(UInt8.toNat (List.getD s 0 (0 : UInt8))) : Int) - (192 : Int)) * (64 : Int) + (↑(UInt8.toNat (List.getD s 1 (0 : UInt8))) : Int) - (128 : Int))), P.d (D.int IntKind.i64 (2 : Int)), P.d (D.bool true)], []) else False else False else False else False else False else False else bif decide ((↑(UInt8.toNat (List.getD s 0 (0 : UInt8))) : Int) ≥ (224 : Int)) then bif decide ((↑(UInt8.toNat (List.getD s 0 (0 : UInt8))) : Int) < (240 : Int)) then bif decide ((-9223372036854775808 : Int) ≤ (↑(UInt8.toNat (List.getD s 0 (0 : UInt8))) : Int) - (224 : Int) ∧ (↑(UInt8.toNat (List.getD s 0 (0 : UInt8))) : Int) - (224 : Int) ≤ (9223372036854775807 : Int)) then bif decide ((↑(List.length s) : Int) < (3 : Int)) then post (P.tup [P.d (D.int IntKind.i64 (0 : Int)), P.d (D.int IntKind.i64 (0 : Int)), P.d (D.bool false)], []) else bif decide ((0 : Int) ≤ (1 : Int) ∧ (1 : Int) < (↑(List.length s) : Int)) then bif decide ((-9223372036854775808 : Int) ≤ (↑(UInt8.toNat (List.getD s 1 (0 : UInt8))) : Int) ∧ (↑(UInt8.toNat (List.getD s 1 (0 : UInt8))) : Int) ≤ (9223372036854775807 : Int)) then bif decide ((↑(UInt8.toNat (List.getD s 1 (0 : UInt8))) : Int) < (128 : Int)) then post (P.tup [P.d (D.int IntKind.i64 (0 : Int)), P.d (D.int IntKind.i64 (0 : Int)), P.d (D.bool false)], []) else bif decide ((↑(UInt8.toNat (List.getD s 1 (0 : UInt8))) : Int) ≥ (192 : Int)) then post (P.tup [P.d (D.int IntKind.i64 (0 : Int)), P.d (D.int IntKind.i64 (0 : Int)), P.d (D.bool false)], []) else bif decide ((-9223372036854775808 : Int) ≤ ((↑(UInt8.toNat (List.getD s 0 (0 : UInt8))) : Int) - (224 : Int)) * (64 : Int) ∧ ((↑(UInt8.toNat (List.getD s 0 (0 : UInt8))) : Int) - (224 : Int)) * (64 : Int) ≤ (9223372036854775807 : Int)) then bif decide ((-9223372036854775808 : Int) ≤ ((↑(UInt8.toNat (List.getD s 0 (0 : UInt8))) : Int) - (224 : Int)) * (64 : Int) + (↑(UInt8.toNat (List.getD s 1 (0 : UInt8))) : Int) ∧ ((↑(UInt8.toNat (List.getD s 0 (0 : UInt8))) : Int) - (224 : Int)) * (64 : Int) + (↑(UInt8.toNat (List.getD s 1 (0 : UInt8))) : Int) ≤ (9223372036854775807 : Int)) then bif decide ((-9223372036854775808 : Int) ≤ ((↑(UInt8.toNat (List.getD s 0 (0 : UInt8))) : Int) - (224 : Int)) * (64 : Int) + (↑(UInt8.toNat (List.getD s 1 (0 : UInt8))) : Int) - (128 : Int) ∧ ((↑(UInt8.toNat (List.getD s 0 (0 : UInt8))) : Int) - (224 : Int)) * (64 : Int) + (↑(UInt8.toNat (List.getD s 1 (0 : UInt8))) : Int) - (128 : Int) ≤ (9223372036854775807 : Int)) then bif decide ((0 : Int) ≤ (1 : Int) + (1 : Int) ∧ (1 : Int) + (1 : Int) < (↑(List.length s) : Int)) then bif decide ((-9223372036854775808 : Int) ≤ (↑(UInt8.toNat (List.getD s 2 (0 : UInt8))) : Int) ∧ (↑(UInt8.toNat (List.getD s 2 (0 : UInt8))) : Int) ≤ (9223372036854775807 : Int)) then bif decide ((↑(UInt8.toNat (List.getD s 2 (0 : UInt8))) : Int) < (128 : Int)) then post (P.tup [P.d (D.int IntKind.i64 (0 : Int)), P.d (D.int IntKind.i64 (0 : Int)), P.d (D.bool false)], []) else bif decide ((↑(UInt8.toNat (List.getD s 2 (0 : UInt8))) : Int) ≥ (192 : Int)) then post (P.tup [P.d (D.int IntKind.i64 (0 : Int)), P.d (D.int IntKind.i64 (0 : Int)), P.d (D.bool false)], []) else bif decide ((-9223372036854775808 : Int) ≤ (((↑(UInt8.toNat (List.getD s 0 (0 : UInt8))) : Int) - (224 : Int)) * (64 : Int) + (↑(UInt8.toNat (List.getD s 1 (0 : UInt8))) : Int) - (128 : Int)) * (64 : Int) ∧ (((↑(UInt8.toNat (List.getD s 0 (0 : UInt8))) : Int) - (224 : Int)) * (64 : Int) + (↑(UInt8.toNat (List.getD s 1 (0 : UInt8))) : Int) - (128 : Int)) * (64 : Int) ≤ (9223372036854775807 : Int)) then bif decide ((-9223372036854775808 : Int) ≤ (((↑(UInt8.toNat (List.getD s 0 (0 : UInt8))) : Int) - (224 : Int)) * (64 : Int) + (↑(UInt8.toNat (List.getD s 1 (0 : UInt8))) : Int) - (128 : Int)) * (64 : Int) + (↑(UInt8.toNat (List.getD s 2 (0 : UInt8))) : Int) ∧ (((↑(UInt8.toNat (List.getD s 0 (0 : UInt8))) : Int) - (224 : Int)) * (64 : Int) + (↑(UInt8.toNat (List.getD s 1 (0 : UInt8))) : Int) - (128 : Int)) * (64 : Int) + (↑(UInt8.toNat (List.getD s 2 (0 : UInt8))) : Int) ≤ (9223372036854775807 : Int)) then bif decide ((-9223372036854775808 : Int) ≤ (((↑(UInt8.toNat (List.getD s 0 (0 : UInt8))) : Int) - (224 : Int)) * (64 : Int) + (↑(UInt8.toNat (List.getD s 1 (0 : UInt8))) : Int) - (128 : Int)) * (64 : Int) + (↑(UInt8.toNat (List.getD s 2 (0 : UInt8))) : Int) - (128 : Int) ∧ (((↑(UInt8.toNat (List.getD s 0 (0 : UInt8))) : Int) - (224 : Int)) * (64 : Int) + (↑(UInt8.toNat (List.getD s 1 (0 : UInt8))) : Int) - (128 : Int)) * (64 : Int) + (↑(UInt8.toNat (List.getD s 2 (0 : UInt8))) : Int) - (128 : Int) ≤ (9223372036854775807 : Int)) then bif decide ((((↑(UInt8.toNat (List.getD s 0 (0 : UInt8))) : Int) - (224 : Int)) * (64 : Int) + (↑(UInt8.toNat (List.getD s 1 (0 : UInt8))) : Int) - (128 : Int)) * (64 : Int) + (↑(UInt8.toNat (List.getD s 2 (0 : UInt8))) : Int) - (128 : Int) < (2048 : Int)) then post (P.tup [P.d (D.int IntKind.i64 (0 : Int)), P.d (D.int IntKind.i64 (0 : Int)), P.d (D.bool false)], []) else bif decide ((((↑(UInt8.toNat (List.getD s 0 (0 : UInt8))) : Int) - (224 : Int)) * (64 : Int) + (↑(UInt8.toNat (List.getD s 1 (0 : UInt8))) : Int) - (128 : Int)) * (64 : Int) + (↑(UInt8.toNat (List.getD s 2 (0 : UInt8))) : Int) - (128 : Int) > (1114111 : Int)) then post (P.tup [P.d (D.int IntKind.i64 (0 : Int)), P.d (D.int IntKind.i64 (0 : Int)), P.d (D.bool false)], []) else bif decide ((((↑(UInt8.toNat (List.getD s 0 (0 : UInt8))) : Int) - (224 : Int)) * (64 : Int) + (↑(UInt8.toNat (List.getD s 1 (0 : UInt8))) : Int) - (128 : Int)) * (64 : Int) + (↑(UInt8.toNat (List.getD s 2 (0 : UInt8))) : Int) - (128 : Int) ≥ (55296 : Int)) then bif decide ((((↑(UInt8.toNat (List.getD s 0 (0 : UInt8))) : Int) - (224 : Int)) * (64 : Int) + (↑(UInt8.toNat (List.getD s 1 (0 : UInt8))) : Int) - (128 : Int)) * (64 : Int) + (↑(UInt8.toNat (List.getD s 2 (0 : UInt8))) : Int) - (128 : Int) < (57344 : Int)) then post (P.tup [P.d (D.int IntKind.i64 (0 : Int)), P.d (D.int IntKind.i64 (0 : Int)), P.d (D.bool false)], []) else post (P.tup [P.d (D.int IntKind.i64 ((((↑(UInt8.toNat (List.getD s 0 (0 : UInt8))) : Int) - (224 : Int)) * (64 : Int) + (↑(UInt8.toNat (List.getD s 1 (0 : UInt8))) : Int) - (128 : Int)) * (64 : Int) + (↑(UInt8.toNat (List.getD s 2 (0 : UInt8))) : Int) - (128 : Int))), P.d (D.int IntKind.i64 (3 : Int)), P.d (D.bool true)], []) else post (P.tup [P.d (D.int IntKind.i64 ((((↑(UInt8.toNat (List.getD s 0 (0 : UInt8))) : Int) - (224 : Int)) * (64 : Int) + (↑(UInt8.toNat (List.getD s 1 (0 : UInt8))) : Int) - (128 : Int)) * (64 : Int) + (↑(UInt8.toNat (List.getD s 2 (0 : UInt8))) : Int) - (128 : Int))), P.d (D.int IntKind.i64 (3 : Int)), P.d (D.bool true)], []) else False else False else False else False else False else False else False else False else False else False else False else bif decide ((↑(UInt8.toNat (List.getD s 0 (0 : UInt8))) : Int) ≥ (240 : Int)) then bif decide ((↑(UInt8.toNat (List.getD s 0 (0 : UInt8))) : Int) < (245 : Int)) then bif decide ((-9223372036854775808 : Int) ≤ (↑(UInt8.toNat (List.getD s 0 (0 : UInt8))) : Int) - (240 : Int) ∧ (↑(UInt8.toNat (List.getD s 0 (0 : UInt8))) : Int) - (240 : Int) ≤ (9223372036854775807 : Int)) then bif decide ((↑(List.length s) : Int) < (4 : Int)) then post (P.tup [P.d (D.int IntKind.i64 (0 : Int)), P.d (D.int IntKind.i64 (0 : Int)), P.d (D.bool false)], []) else bif decide ((0 : Int) ≤ (1 : Int) ∧ (1 : Int) < (↑(List.length s) : Int)) then bif decide ((-9223372036854775808 : Int) ≤ (↑(UInt8.toNat (List.getD s 1 (0 : UInt8))) : Int) ∧ (↑(UInt8.toNat (List.getD s 1 (0 : UInt8))) : Int) ≤ (9223372036854775807 : Int)) then bif decide ((↑(UInt8.toNat (List.getD s 1 (0 : UInt8))) : Int) < (128 : Int)) then post (P.tup [P.d (D.int IntKind.i64 (0 : Int)), P.d (D.int IntKind.i64 (0 : Int)), P.d (D.bool false)], []) else bif decide ((↑(UInt8.toNat (List.getD s 1 (0 : UInt8))) : Int) ≥ (192 : Int)) then post (P.tup [P.d (D.int IntKind.i64 (0 : Int)), P.d (D.int IntKind.i64 (0 : Int)), P.d (D.bool false)], []) else bif decide ((-9223372036854775808 : Int) ≤ ((↑(UInt8.toNat (List.getD s 0 (0 : UInt8))) : Int) - (240 : Int)) * (64 : Int) ∧ ((↑(UInt8.toNat (List.getD s 0 (0 : UInt8))) : Int) - (240 : Int)) * (64 : Int) ≤ (9223372036854775807 : Int)) then bif decide ((-9223372036854775808 : Int) ≤ ((↑(UInt8.toNat (List.getD s 0 (0 : UInt8))) : Int) - (240 : Int)) * (64 : Int) + (↑(UInt8.toNat (List.getD s 1 (0 : UInt8))) : Int) ∧ ((↑(UInt8.toNat (List.getD s 0 (0 : UInt8))) : Int) - (240 : Int)) * (64 : Int) + (↑(UInt8.toNat (List.getD s 1 (0 : UInt8))) : Int) ≤ (9223372036854775807 : Int)) then bif decide ((-9223372036854775808 : Int) ≤ ((↑(UInt8.toNat (List.getD s 0 (0 : UInt8))) : Int) - (240 : Int)) * (64 : Int) + (↑(UInt8.toNat (List.getD s 1 (0 : UInt8))) : Int) - (128 : Int) ∧ ((↑(UInt8.toNat (List.getD s 0 (0 : UInt8))) : Int) - (240 : Int)) * (64 : Int) + (↑(UInt8.toNat (List.getD s 1 (0 : UInt8))) : Int) - (128 : Int) ≤ (9223372036854775807 : Int)) then bif decide ((0 : Int) ≤ (1 : Int) + (1 : Int) ∧ (1 : Int) + (1 : Int) < (↑(List.length s) : Int)) then bif decide ((-9223372036854775808 : Int) ≤ (↑(UInt8.toNat (List.getD s 2 (0 : UInt8))) : Int) ∧ (↑(UInt8.toNat (List.getD s 2 (0 : UInt8))) : Int) ≤ (9223372036854775807 : Int)) then bif decide ((↑(UInt8.toNat (List.getD s 2 (0 : UInt8))) : Int) < (128 : Int)) then post (P.tup [P.d (D.int IntKind.i64 (0 : Int)), P.d (D.int IntKind.i64 (0 : Int)), P.d (D.bool false)], []) else bif decide ((↑(UInt8.toNat (List.getD s 2 (0 : UInt8))) : Int) ≥ (192 : Int)) then post (P.tup [P.d (D.int IntKind.i64 (0 : Int)), P.d (D.int IntKind.i64 (0 : Int)), P.d (D.bool false)], []) else bif decide ((-9223372036854775808 : Int) ≤ (((↑(UInt8.toNat (List.getD s 0 (0 : UInt8))) : Int) - (240 : Int)) * (64 : Int) + (↑(UInt8.toNat (List.getD s 1 (0 : UInt8))) : Int) - (128 : Int)) * (64 : Int) ∧ (((↑(UInt8.toNat (List.getD s 0 (0 : UInt8))) : Int) - (240 : Int)) * (64 : Int) + (↑(UInt8.toNat (List.getD s 1 (0 : UInt8))) : Int) - (128 : Int)) * (64 : Int) ≤ (9223372036854775807 : Int)) then bif decide ((-9223372036854775808 : Int) ≤ (((↑(UInt8.toNat (List.getD s 0 (0 : UInt8))) : Int) - (240 : Int)) * (64 : Int) + (↑(UInt8.toNat (List.getD s 1 (0 : UInt8))) : Int) - (128 : Int)) * (64 : Int) + (↑(UInt8.toNat (List.getD s 2 (0 : UInt8))) : Int) ∧ (((↑(UInt8.toNat (List.getD s 0 (0 : UInt8))) : Int) - (240 : Int)) * (64 : Int) + (↑(UInt8.toNat (List.getD s 1 (0 : UInt8))) : Int) - (128 : Int)) * (64 : Int) + (↑(UInt8.toNat (List.getD s 2 (0 : UInt8))) : Int) ≤ (9223372036854775807 : Int)) then bif decide ((-9223372036854775808 : Int) ≤ (((↑(UInt8.toNat (List.getD s 0 (0 : UInt8))) : Int) - (240 : Int)) * (64 : Int) + (↑(UInt8.toNat (List.getD s 1 (0 : UInt8))) : Int) - (128 : Int)) * (64 : Int) + (↑(UInt8.toNat (List.getD s 2 (0 : UInt8))) : Int) - (128 : Int) ∧ (((↑(UInt8.toNat (List.getD s 0 (0 : UInt8))) : Int) - (240 : Int)) * (64 : Int) + (↑(UInt8.toNat (List.getD s 1 (0 : UInt8))) : Int) - (128 : Int)) * (64 : Int) + (↑(UInt8.toNat (List.getD s 2 (0 : UInt8))) : Int) - (128 : Int) ≤ (9223372036854775807 : Int)) then bif decide ((0 : Int) ≤ (1 : Int) + (1 : Int) + (1 : Int) ∧ (1 : Int) + (1 : Int) + (1 : Int) < (↑(List.length s) : Int)) then bif decide ((-9223372036854775808 : Int) ≤ (↑(UInt8.toNat (List.getD s 3 (0 : UInt8))) : Int) ∧ (↑(UInt8.toNat (List.getD s 3 (0 : UInt8))) : Int) ≤ (9223372036854775807 : Int)) then bif decide ((↑(UInt8.toNat (List.getD s 3 (0 : UInt8))) : Int) < (128 : Int)) then post (P.tup [P.d (D.int IntKind.i64 (0 : Int)), P.d (D.int IntKind.i64 (0 : Int)), P.d (D.bool false)], []) else bif decide ((↑(UInt8.toNat (List.getD s 3 (0 : UInt8))) : Int) ≥ (192 : Int)) then post (P.tup [P.d (D.int IntKind.i64 (0 : Int)), P.d (D.int IntKind.i64 (0 : Int)), P.d (D.bool false)], []) else bif decide ((-9223372036854775808 : Int) ≤ ((((↑(UInt8.toNat (List.getD s 0 (0 : UInt8))) : Int) - (240 : Int)) * (64 : Int) + (↑(UInt8.toNat (List.getD s 1 (0 : UInt8))) : Int) - (128 : Int)) * (64 : Int) + (↑(UInt8.toNat (List.getD s 2 (0 : UInt8))) : Int) - (128 : Int)) * (64 : Int) ∧ ((((↑(UInt8.toNat (List.getD s 0 (0 : UInt8))) : Int) - (240 : Int)) * (64 : Int) + (↑(UInt8.toNat (List.getD s 1 (0 : UInt8))) : Int) - (128 : Int)) * (64 : Int) + (↑(UInt8.toNat (List.getD s 2 (0 : UInt8))) : Int) - (128 : Int)) * (64 : Int) ≤ (9223372036854775807 : Int)) then bif decide ((-9223372036854775808 : Int) ≤ ((((↑(UInt8.toNat (List.getD s 0 (0 : UInt8))) : Int) - (240 : Int)) * (64 : Int) + (↑(UInt8.toNat (List.getD s 1 (0 : UInt8))) : Int) - (128 : Int)) * (64 : Int) + (↑(UInt8.toNat (List.getD s 2 (0 : UInt8))) : Int) - (128 : Int)) * (64 : Int) + (↑(UInt8.toNat (List.getD s 3 (0 : UInt8))) : Int) ∧ ((((↑(UInt8.toNat (List.getD s 0 (0 : UInt8))) : Int) - (240 : Int)) * (64 : Int) + (↑(UInt8.toNat (List.getD s 1 (0 : UInt8))) : Int) - (128 : Int)) * (64 : Int) + (↑(UInt8.toNat (List.getD s 2 (0 : UInt8))) : Int) - (128 : Int)) * (64 : Int) + (↑(UInt8.toNat (List.getD s 3 (0 : UInt8))) : Int) ≤ (9223372036854775807 : Int)) then bif decide ((-9223372036854775808 : Int) ≤ ((((↑(UInt8.toNat (List.getD s 0 (0 : UInt8))) : Int) - (240 : Int)) * (64 : Int) + (↑(UInt8.toNat (List.getD s 1 (0 : UInt8))) : Int) - (128 : Int)) * (64 : Int) + (↑(UInt8.toNat (List.getD s 2 (0 : UInt8))) : Int) - (128 : Int)) * (64 : Int) + (↑(UInt8.toNat (List.getD s 3 (0 : UInt8))) : Int) - (128 : Int) ∧ ((((↑(UInt8.toNat (List.getD s 0 (0 : UInt8))) : Int) - (240 : Int)) * (64 : Int) + (↑(UInt8.toNat (List.getD s 1 (0 : UInt8))) : Int) - (128 : Int)) * (64 : Int) + (↑(UInt8.toNat (List.getD s 2 (0 : UInt8))) : Int) - (128 : Int)) * (64 : Int) + (↑(UInt8.toNat (List.getD s 3 (0 : UInt8))) : Int) - (128 : Int) ≤ (9223372036854775807 : Int)) then bif decide (((((↑(UInt8.toNat (List.getD s 0 (0 : UInt8))) : Int) - (240 : Int)) * (64 : Int) + (↑(UInt8.toNat (List.getD s 1 (0 : UInt8))) : Int) - (128 : Int)) * (64 : Int) + (↑(UInt8.toNat (List.getD s 2 (0 : UInt8))) : Int) - (128 : Int)) * (64 : Int) + (↑(UInt8.toNat (List.getD s 3 (0 : UInt8))) : Int) - (128 : Int) < (65536 : Int)) then post (P.tup [P.d (D.int IntKind.i64 (0 : Int)), P.d (D.int IntKind.i64 (0 : Int)), P.d (D.bool false)], []) else bif decide (((((↑(UInt8.toNat (List.getD s 0 (0 : UInt8))) : Int) - (240 : Int)) * (64 : Int) + (↑(UInt8.toNat (List.getD s 1 (0 : UInt8))) : Int) - (128 : Int)) * (64 : Int) + (↑(UInt8.toNat (List.getD s 2 (0 : UInt8))) : Int) - (128 : Int)) * (64 : Int) + (↑(UInt8.toNat (List.getD s 3 (0 : UInt8))) : Int) - (128 : Int) > (1114111 : Int)) then post (P.tup [P.d (D.int IntKind.i64 (0 : Int)), P.d (D.int IntKind.i64 (0 : Int)), P.d (D.bool false)], []) else bif decide (((((↑(UInt8.toNat (List.getD s 0 (0 : UInt8))) : Int) - (240 : Int)) * (64 : Int) + (↑(UInt8.toNat (List.getD s 1 (0 : UInt8))) : Int) - (128 : Int)) * (64 : Int) + (↑(UInt8.toNat (List.getD s 2 (0 : UInt8))) : Int) - (128 : Int)) * (64 : Int) + (↑(UInt8.toNat (List.getD s 3 (0 : UInt8))) : Int) - (128 : Int) ≥ (55296 : Int)) then bif decide (((((↑(UInt8.toNat (List.getD s 0 (0 : UInt8))) : Int) - (240 : Int)) * (64 : Int) + (↑(UInt8.toNat (List.getD s 1 (0 : UInt8))) : Int) - (128 : Int)) * (64 : Int) + (↑(UInt8.toNat (List.getD s 2 (0 : UInt8))) : Int) - (128 : Int)) * (64 : Int) + (↑(UInt8.toNat (List.getD s 3 (0 : UInt8))) : Int) - (128 : Int) < (57344 : Int)) then post (P.tup [P.d (D.int IntKind.i64 (0 : Int)), P.d (D.int IntKind.i64 (0 : Int)), P.d (D.bool false)], []) else post (P.tup [P.d (D.int IntKind.i64 (((((↑(UInt8.toNat (List.getD s 0 (0 : UInt8))) : Int) - (240 : Int)) * (64 : Int) + (↑(UInt8.toNat (List.getD s 1 (0 : UInt8))) : Int) - (128 : Int)) * (64 : Int) + (↑(UInt8.toNat (List.getD s 2 (0 : UInt8))) : Int) - (128 : Int)) * (64 : Int) + (↑(UInt8.toNat (List.getD s 3 (0 : UInt8))) : Int) - (128 : Int))), P.d (D.int IntKind.i64 (4 : Int)), P.d (D.bool true)], []) else post (P.tup [P.d (D.int IntKind.i64 (((((↑(UInt8.toNat (List.getD s 0 (0 : UInt8))) : Int) - (240 : Int)) * (64 : Int) + (↑(UInt8.toNat (List.getD s 1 (0 : UInt8))) : Int) - (128 : Int)) * (64 : Int) + (↑(UInt8.toNat (List.getD s 2 (0 : UInt8))) : Int) - (128 : Int)) * (64 : Int) + (↑(UInt8.toNat (List.getD s 3 (0 : UInt8))) : Int) - (128 : Int))), P.d (D.int IntKind.i64 (4 : Int)), P.d (D.bool true)], []) else False else False else False else False else False else False else False else False else False else False else False else False else False else False else False else False else post (P.tup [P.d (D.int IntKind.i64 (0 : Int)), P.d (D.int IntKind.i64 (0 : Int)), P.d (D.bool false)], []) else post (P.tup [P.d (D.int IntKind.i64 (0 : Int)), P.d (D.int IntKind.i64 (0 : Int)), P.d (D.bool false)], []) else bif decide ((↑(UInt8.toNat (List.getD s 0 (0 : UInt8))) : Int) ≥ (240 : Int)) then bif decide ((↑(UInt8.toNat (List.getD s 0 (0 : UInt8))) : Int) < (245 : Int)) then bif decide ((-9223372036854775808 : Int) ≤ (↑(UInt8.toNat (List.getD s 0 (0 : UInt8))) : Int) - (240 : Int) ∧ (↑(UInt8.toNat (List.getD s 0 (0 : UInt8))) : Int) - (240 : Int) ≤ (9223372036854775807 : Int)) then bif decide ((↑(List.length s) : Int) < (4 : Int)) then post (P.tup [P.d (D.int IntKind.i64 (0 : Int)), P.d (D.int IntKind.i64 (0 : Int)), P.d (D.bool false)], []) else bif decide ((0 : Int) ≤ (1 : Int) ∧ (1 : Int) < (↑(List.length s) : Int)) then bif decide ((-9223372036854775808 : Int) ≤ (↑(UInt8.toNat (List.getD s 1 (0 : UInt8))) : Int) ∧ (↑(UInt8.toNat (List.getD s 1 (0 : UInt8))) : Int) ≤ (9223372036854775807 : Int)) then bif decide ((↑(UInt8.toNat (List.getD s 1 (0 : UInt8))) : Int) < (128 : Int)) then post (P.tup [P.d (D.int IntKind.i64 (0 : Int)), P.d (D.int IntKind.i64 (0 : Int)), P.d (D.bool false)], []) else bif decide ((↑(UInt8.toNat (List.getD s 1 (0 : UInt8))) : Int) ≥ (192 : Int)) then post (P.tup [P.d (D.int IntKind.i64 (0 : Int)), P.d (D.int IntKind.i64 (0 : Int)), P.d (D.bool false)], []) else bif decide ((-9223372036854775808 : Int) ≤ ((↑(UInt8.toNat (List.getD s 0 (0 : UInt8))) : Int) - (240 : Int)) * (64 : Int) ∧ ((↑(UInt8.toNat (List.getD s 0 (0 : UInt8))) : Int) - (240 : Int)) * (64 : Int) ≤ (9223372036854775807 : Int)) then bif decide ((-9223372036854775808 : Int) ≤ ((↑(UInt8.toNat (List.getD s 0 (0 : UInt8))) : Int) - (240 : Int)) * (64 : Int) + (↑(UInt8.toNat (List.getD s 1 (0 : UInt8))) : Int) ∧ ((↑(UInt8.toNat (List.getD s 0 (0 : UInt8))) : Int) - (240 : Int)) * (64 : Int) + (↑(UInt8.toNat (List.getD s 1 (0 : UInt8))) : Int) ≤ (9223372036854775807 : Int)) then bif decide ((-9223372036854775808 : Int) ≤ ((↑(UInt8.toNat (List.getD s 0 (0 : UInt8))) : Int) - (240 : Int)) * (64 : Int) + (↑(UInt8.toNat (List.getD s 1 (0 : UInt8))) : Int) - (128 : Int) ∧ ((↑(UInt8.toNat (List.getD s 0 (0 : UInt8))) : Int) - (240 : Int)) * (64 : Int) + (↑(UInt8.toNat (List.getD s 1 (0 : UInt8))) : Int) - (128 : Int) ≤ (9223372036854775807 : Int)) then bif decide ((0 : Int) ≤ (1 : Int) + (1 : Int) ∧ (1 : Int) + (1 : Int) < (↑(List.length s) : Int)) then bif decide ((-9223372036854775808 : Int) ≤ (↑(UInt8.toNat (List.getD s 2 (0 : UInt8))) : Int) ∧ (↑(UInt8.toNat (List.getD s 2 (0 : UInt8))) : Int) ≤ (9223372036854775807 : Int)) then bif decide ((↑(UInt8.toNat (List.getD s 2 (0 : UInt8))) : Int) < (128 : Int)) then post (P.tup [P.d (D.int IntKind.i64 (0 : Int)), P.d (D.int IntKind.i64 (0 : Int)), P.d (D.bool false)], []) else bif decide ((↑(UInt8.toNat (List.getD s 2 (0 : UInt8))) : Int) ≥ (192 : Int)) then post (P.tup [P.d (D.int IntKind.i64 (0 : Int)), P.d (D.int IntKind.i64 (0 : Int)), P.d (D.bool false)], []) else bif decide ((-9223372036854775808 : Int) ≤ (((↑(UInt8.toNat (List.getD s 0 (0 : UInt8))) : Int) - (240 : Int)) * (64 : Int) + (↑(UInt8.toNat (List.getD s 1 (0 : UInt8))) : Int) - (128 : Int)) * (64 : Int) ∧ (((↑(UInt8.toNat (List.getD s 0 (0 : UInt8))) : Int) - (240 : Int)) * (64 : Int) + (↑(UInt8.toNat (List.getD s 1 (0 : UInt8))) : Int) - (128 : Int)) * (64 : Int) ≤ (9223372036854775807 : Int)) then bif decide ((-9223372036854775808 : Int) ≤ (((↑(UInt8.toNat (List.getD s 0 (0 : UInt8))) : Int) - (240 : Int)) * (64 : Int) + (↑(UInt8.toNat (List.getD s 1 (0 : UInt8))) : Int) - (128 : Int)) * (64 : Int) + (↑(UInt8.toNat (List.getD s 2 (0 : UInt8))) : Int) ∧ (((↑(UInt8.toNat (List.getD s 0 (0 : UInt8))) : Int) - (240 : Int)) * (64 : Int) + (↑(UInt8.toNat (List.getD s 1 (0 : UInt8))) : Int) - (128 : Int)) * (64 : Int) + (↑(UInt8.toNat (List.getD s 2 (0 : UInt8))) : Int) ≤ (9223372036854775807 : Int)) then bif decide ((-9223372036854775808 : Int) ≤ (((↑(UInt8.toNat (List.getD s 0 (0 : UInt8))) : Int) - (240 : Int)) * (64 : Int) + (↑(UInt8.toNat (List.getD s 1 (0 : UInt8))) : Int) - (128 : Int)) * (64 : Int) + (↑(UInt8.toNat (List.getD s 2 (0 : UInt8))) : Int) - (128 : Int) ∧ (((↑(UInt8.toNat (List.getD s 0 (0 : UInt8))) : Int) - (240 : Int)) * (64 : Int) + (↑(UInt8.toNat (List.getD s 1 (0 : UInt8))) : Int) - (128 : Int)) * (64 : Int) + (↑(UInt8.toNat (List.getD s 2 (0 : UInt8))) : Int) - (128 : Int) ≤ (9223372036854775807 : Int)) then bif decide ((0 : Int) ≤ (1 : Int) + (1 : Int) + (1 : Int) ∧ (1 : Int) + (1 : Int) + (1 : Int) < (↑(List.length s) : Int)) then bif decide ((-9223372036854775808 : Int) ≤ (↑(UInt8.toNat (List.getD s 3 (0 : UInt8))) : Int) ∧ (↑(UInt8.toNat (List.getD s 3 (0 : UInt8))) : Int) ≤ (9223372036854775807 : Int)) then bif decide ((↑(UInt8.toNat (List.getD s 3 (0 : UInt8))) : Int) < (128 : Int)) then post (P.tup [P.d (D.int IntKind.i64 (0 : Int)), P.d (D.int IntKind.i64 (0 : Int)), P.d (D.bool false)], []) else bif decide ((↑(UInt8.toNat (List.getD s 3 (0 : UInt8))) : Int) ≥ (192 : Int)) then post (P.tup [P.d (D.int IntKind.i64 (0 : Int)), P.d (D.int IntKind.i64 (0 : Int)), P.d (D.bool false)], []) else bif decide ((-9223372036854775808 : Int) ≤ ((((↑(UInt8.toNat (List.getD s 0 (0 : UInt8))) : Int) - (240 : Int)) * (64 : Int) + (↑(UInt8.toNat (List.getD s 1 (0 : UInt8))) : Int) - (128 : Int)) * (64 : Int) + (↑(UInt8.toNat (List.getD s 2 (0 : UInt8))) : Int) - (128 : Int)) * (64 : Int) ∧ ((((↑(UInt8.toNat (List.getD s 0 (0 : UInt8))) : Int) - (240 : Int)) * (64 : Int) + (↑(UInt8.toNat (List.getD s 1 (0 : UInt8))) : Int) - (128 : Int)) * (64 : Int) + (↑(UInt8.toNat (List.getD s 2 (0 : UInt8))) : Int) - (128 : Int)) * (64 : Int) ≤ (9223372036854775807 : Int)) then bif decide ((-9223372036854775808 : Int) ≤ ((((↑(UInt8.toNat (List.getD s 0 (0 : UInt8))) : Int) - (240 : Int)) * (64 : Int) + (↑(UInt8.toNat (List.getD s 1 (0 : UInt8))) : Int) - (128 : Int)) * (64 : Int) + (↑(UInt8.toNat (List.getD s 2 (0 : UInt8))) : Int) - (128 : Int)) * (64 : Int) + (↑(UInt8.toNat (List.getD s 3 (0 : UInt8))) : Int) ∧ ((((↑(UInt8.toNat (List.getD s 0 (0 : UInt8))) : Int) - (240 : Int)) * (64 : Int) + (↑(UInt8.toNat (List.getD s 1 (0 : UInt8))) : Int) - (128 : Int)) * (64 : Int) + (↑(UInt8.toNat (List.getD s 2 (0 : UInt8))) : Int) - (128 : Int)) * (64 : Int) + (↑(UInt8.toNat (List.getD s 3 (0 : UInt8))) : Int) ≤ (9223372036854775807 : Int)) then bif decide ((-9223372036854775808 : Int) ≤ ((((↑(UInt8.toNat (List.getD s 0 (0 : UInt8))) : Int) - (240 : Int)) * (64 : Int) + (↑(UInt8.toNat (List.getD s 1 (0 : UInt8))) : Int) - (128 : Int)) * (64 : Int) + (↑(UInt8.toNat (List.getD s 2 (0 : UInt8))) : Int) - (128 : Int)) * (64 : Int) + (↑(UInt8.toNat (List.getD s 3 (0 : UInt8))) : Int) - (128 : Int) ∧ ((((↑(UInt8.toNat (List.getD s 0 (0 : UInt8))) : Int) - (240 : Int)) * (64 : Int) + (↑(UInt8.toNat (List.getD s 1 (0 : UInt8))) : Int) - (128 : Int)) * (64 : Int) + (↑(UInt8.toNat (List.getD s 2 (0 : UInt8))) : Int) - (128 : Int)) * (64 : Int) + (↑(UInt8.toNat (List.getD s 3 (0 : UInt8))) : Int) - (128 : Int) ≤ (9223372036854775807 : Int)) then bif decide (((((↑(UInt8.toNat (List.getD s 0 (0 : UInt8))) : Int) - (240 : Int)) * (64 : Int) + (↑(UInt8.toNat (List.getD s 1 (0 : UInt8))) : Int) - (128 : Int)) * (64 : Int) + (↑(UInt8.toNat (List.getD s 2 (0 : UInt8))) : Int) - (128 : Int)) * (64 : Int) + (↑(UInt8.toNat (List.getD s 3 (0 : UInt8))) : Int) - (128 : Int) < (65536 : Int)) then post (P.tup [P.d (D.int IntKind.i64 (0 : Int)), P.d (D.int IntKind.i64 (0 : Int)), P.d (D.bool false)], []) else bif decide (((((↑(UInt8.toNat (List.getD s 0 (0 : UInt8))) : Int) - (240 : Int)) * (64 : Int) + (↑(UInt8.toNat (List.getD s 1 (0 : UInt8))) : Int) - (128 : Int)) * (64 : Int) + (↑(UInt8.toNat (List.getD s 2 (0 : UInt8))) : Int) - (128 : Int)) * (64 : Int) + (↑(UInt8.toNat (List.getD s 3 (0 : UInt8))) : Int) - (128 : Int) > (1114111 : Int)) then post (P.tup [P.d (D.int IntKind.i64 (0 : Int)), P.d (D.int IntKind.i64 (0 : Int)), P.d (D.bool false)], []) else bif decide (((((↑(UInt8.toNat (List.getD s 0 (0 : UInt8))) : Int) - (240 : Int)) * (64 : Int) + (↑(UInt8.toNat (List.getD s 1 (0 : UInt8))) : Int) - (128 : Int)) * (64 : Int) + (↑(UInt8.toNat (List.getD s 2 (0 : UInt8))) : Int) - (128 : Int)) * (64 : Int) + (↑(UInt8.toNat (List.getD s 3 (0 : UInt8))) : Int) - (128 : Int) ≥ (55296 : Int)) then bif decide (((((↑(UInt8.toNat (List.getD s 0 (0 : UInt8))) : Int) - (240 : Int)) * (64 : Int) + (↑(UInt8.toNat (List.getD s 1 (0 : UInt8))) : Int) - (128 : Int)) * (64 : Int) + (↑(UInt8.toNat (List.getD s 2 (0 : UInt8))) : Int) - (128 : Int)) * (64 : Int) + (↑(UInt8.toNat (List.getD s 3 (0 : UInt8))) : Int) - (128 : Int) < (57344 : Int)) then post (P.tup [P.d (D.int IntKind.i64 (0 : Int)), P.d (D.int IntKind.i64 (0 : Int)), P.d (D.bool false)], []) else post (P.tup [P.d (D.int IntKind.i64 (((((↑(UInt8.toNat (List.getD s 0 (0 : UInt8))) : Int) - (240 : Int)) * (64 : Int) + (↑(UInt8.toNat (List.getD s 1 (0 : UInt8))) : Int) - (128 : Int)) * (64 : Int) + (↑(UInt8.toNat (List.getD s 2 (0 : UInt8))) : Int) - (128 : Int)) * (64 : Int) + (↑(UInt8.toNat (List.getD s 3 (0 : UInt8))) : Int) - (128 : Int))), P.d (D.int IntKind.i64 (4 : Int)), P.d (D.bool true)], []) else post (P.tup [P.d (D.int IntKind.i64 (((((↑(UInt8.toNat (List.getD s 0 (0 : UInt8))) : Int) - (240 : Int)) * (64 : Int) + (↑(UInt8.toNat (List.getD s 1 (0 : UInt8))) : Int) - (128 : Int)) * (64 : Int) + (↑(UInt8.toNat (List.getD s 2 (0 : UInt8))) : Int) - (128 : Int)) * (64 : Int) + (↑(UInt8.toNat (List.getD s 3 (0 : UInt8))) : Int) - (128 : Int))), P.d (D.int IntKind.i64 (4 : Int)), P.d (D.bool true)], []) else False else False else False else False else False else False else False else False else False else False else False else False else False else False else False else False else post (P.tup [P.d (D.int IntKind.i64 (0 : Int)), P.d (D.int IntKind.i64 (0 : Int)), P.d (D.bool false)], []) else post (P.tup [P.d (D.int IntKind.i64 (0 : Int)), P.d (D.int IntKind.i64 (0 : Int)), P.d (D.bool false)], []) else bif decide ((↑(UInt8.toNat (List.getD s 0 (0 : UInt8))) : Int) ≥ (224 : Int)) then bif decide ((↑(UInt8.toNat (List.getD s 0 (0 : UInt8))) : Int) < (240 : Int)) then bif decide ((-9223372036854775808 : Int) ≤ (↑(UInt8.toNat (List.getD s 0 (0 : UInt8))) : Int) - (224 : Int) ∧ (↑(UInt8.toNat (List.getD s 0 (0 : UInt8))) : Int) - (224 : Int) ≤ (9223372036854775807 : Int)) then bif decide ((↑(List.length s) : Int) < (3 : Int)) then post (P.tup [P.d (D.int IntKind.i64 (0 : Int)), P.d (D.int IntKind.i64 (0 : Int)), P.d (D.bool false)], []) else bif decide ((0 : Int) ≤ (1 : Int) ∧ (1 : Int) < (↑(List.length s) : Int)) then bif decide ((-9223372036854775808 : Int) ≤ (↑(UInt8.toNat (List.getD s 1 (0 : UInt8))) : Int) ∧ (↑(UInt8.toNat (List.getD s 1 (0 : UInt8))) : Int) ≤ (9223372036854775807 : Int)) then bif decide ((↑(UInt8.toNat (List.getD s 1 (0 : UInt8))) : Int) < (128 : Int)) then post (P.tup [P.d (D.int IntKind.i64 (0 : Int)), P.d (D.int IntKind.i64 (0 : Int)), P.d (D.bool false)], []) else bif decide ((↑(UInt8.toNat (List.getD s 1 (0 : UInt8))) : Int) ≥ (192 : Int)) then post (P.tup [P.d (D.int IntKind.i64 (0 : Int)), P.d (D.int IntKind.i64 (0 : Int)), P.d (D.bool false)], []) else bif decide ((-9223372036854775808 : Int) ≤ ((↑(UInt8.toNat (List.getD s 0 (0 : UInt8))) : Int) - (224 : Int)) * (64 : Int) ∧ ((↑(UInt8.toNat (List.getD s 0 (0 : UInt8))) : Int) - (224 : Int)) * (64 : Int) ≤ (9223372036854775807 : Int)) then bif decide ((-9223372036854775808 : Int) ≤ ((↑(UInt8.toNat (List.getD s 0 (0 : UInt8))) : Int) - (224 : Int)) * (64 : Int) + (↑(UInt8.toNat (List.getD s 1 (0 : UInt8))) : Int) ∧ ((↑(UInt8.toNat (List.getD s 0 (0 : UInt8))) : Int) - (224 : Int)) * (64 : Int) + (↑(UInt8.toNat (List.getD s 1 (0 : UInt8))) : Int) ≤ (9223372036854775807 : Int)) then bif decide ((-9223372036854775808 : Int) ≤ ((↑(UInt8.toNat (List.getD s 0 (0 : UInt8))) : Int) - (224 : Int)) * (64 : Int) + (↑(UInt8.toNat (List.getD s 1 (0 : UInt8))) : Int) - (128 : Int) ∧ ((↑(UInt8.toNat (List.getD s 0 (0 : UInt8))) : Int) - (224 : Int)) * (64 : Int) + (↑(UInt8.toNat (List.getD s 1 (0 : UInt8))) : Int) - (128 : Int) ≤ (9223372036854775807 : Int)) then bif decide ((0 : Int) ≤ (1 : Int) + (1 : Int) ∧ (1 : Int) + (1 : Int) < (↑(List.length s) : Int)) then bif decide ((-9223372036854775808 : Int) ≤ (↑(UInt8.toNat (List.getD s 2 (0 : UInt8))) : Int) ∧ (↑(UInt8.toNat (List.getD s 2 (0 : UInt8))) : Int) ≤ (9223372036854775807 : Int)) then bif decide ((↑(UInt8.toNat (List.getD s 2 (0 : UInt8))) : Int) < (128 : Int)) then post (P.tup [P.d (D.int IntKind.i64 (0 : Int)), P.d (D.int IntKind.i64 (0 : Int)), P.d (D.bool false)], []) else bif decide ((↑(UInt8.toNat (List.getD s 2 (0 : UInt8))) : Int) ≥ (192 : Int)) then post (P.tup [P.d (D.int IntKind.i64 (0 : Int)), P.d (D.int IntKind.i64 (0 : Int)), P.d (D.bool false)], []) else bif decide ((-9223372036854775808 : Int) ≤ (((↑(UInt8.toNat (List.getD s 0 (0 : UInt8))) : Int) - (224 : Int)) * (64 : Int) + (↑(UInt8.toNat (List.getD s 1 (0 : UInt8))) : Int) - (128 : Int)) * (64 : Int) ∧ (((↑(UInt8.toNat (List.getD s 0 (0 : UInt8))) : Int) - (224 : Int)) * (64 : Int) + (↑(UInt8.toNat (List.getD s 1 (0 : UInt8))) : Int) - (128 : Int)) * (64 : Int) ≤ (9223372036854775807 : Int)) then bif decide ((-9223372036854775808 : Int) ≤ (((↑(UInt8.toNat (List.getD s 0 (0 : UInt8))) : Int) - (224 : Int)) * (64 : Int) + (↑(UInt8.toNat (List.getD s 1 (0 : UInt8))) : Int) - (128 : Int)) * (64 : Int) + (↑(UInt8.toNat (List.getD s 2 (0 : UInt8))) : Int) ∧ (((↑(UInt8.toNat (List.getD s 0 (0 : UInt8))) : Int) - (224 : Int)) * (64 : Int) + (↑(UInt8.toNat (List.getD s 1 (0 : UInt8))) : Int) - (128 : Int)) * (64 : Int) + (↑(UInt8.toNat (List.getD s 2 (0 : UInt8))) : Int) ≤ (9223372036854775807 : Int)) then bif decide ((-9223372036854775808 : Int) ≤ (((↑(UInt8.toNat (List.getD s 0 (0 : UInt8))) : Int) - (224 : Int)) * (64 : Int) + (↑(UInt8.toNat (List.getD s 1 (0 : UInt8))) : Int) - (128 : Int)) * (64 : Int) + (↑(UInt8.toNat (List.getD s 2 (0 : UInt8))) : Int) - (128 : Int) ∧ (((↑(UInt8.toNat (List.getD s 0 (0 : UInt8))) : Int) - (224 : Int)) * (64 : Int) + (↑(UInt8.toNat (List.getD s 1 (0 : UInt8))) : Int) - (128 : Int)) * (64 : Int) + (↑(UInt8.toNat (List.getD s 2 (0 : UInt8))) : Int) - (128 : Int) ≤ (9223372036854775807 : Int)) then bif decide ((((↑(UInt8.toNat (List.getD s 0 (0 : UInt8))) : Int) - (224 : Int)) * (64 : Int) + (↑(UInt8.toNat (List.getD s 1 (0 : UInt8))) : Int) - (128 : Int)) * (64 : Int) + (↑(UInt8.toNat (List.getD s 2 (0 : UInt8))) : Int) - (128 : Int) < (2048 : Int)) then post (P.tup [P.d (D.int IntKind.i64 (0 : Int)), P.d (D.int IntKind.i64 (0 : Int)), P.d (D.bool false)], []) else bif decide ((((↑(UInt8.toNat (List.getD s 0 (0 : UInt8))) : Int) - (224 : Int)) * (64 : Int) + (↑(UInt8.toNat (List.getD s 1 (0 : UInt8))) : Int) - (128 : Int)) * (64 : Int) + (↑(UInt8.toNat (List.getD s 2 (0 : UInt8))) : Int) - (128 : Int) > (1114111 : Int)) then post (P.tup [P.d (D.int IntKind.i64 (0 : Int)), P.d (D.int IntKind.i64 (0 : Int)), P.d (D.bool false)], []) else bif decide ((((↑(UInt8.toNat (List.getD s 0 (0 : UInt8))) : Int) - (224 : Int)) * (64 : Int) + (↑(UInt8.toNat (List.getD s 1 (0 : UInt8))) : Int) - (128 : Int)) * (64 : Int) + (↑(UInt8.toNat (List.getD s 2 (0 : UInt8))) : Int) - (128 : Int) ≥ (55296 : Int)) then bif decide ((((↑(UInt8.toNat (List.getD s 0 (0 : UInt8))) : Int) - (224 : Int)) * (64 : Int) + (↑(UInt8.toNat (List.getD s 1 (0 : UInt8))) : Int) - (128 : Int)) * (64 : Int) + (↑(UInt8.toNat (List.getD s 2 (0 : UInt8))) : Int) - (128 : Int) < (57344 : Int)) then post (P.tup [P.d (D.int IntKind.i64 (0 : Int)), P.d (D.int IntKind.i64 (0 : Int)), P.d (D.bool false)], []) else post (P.tup [P.d (D.int IntKind.i64 ((((↑(UInt8.toNat (List.getD s 0 (0 : UInt8))) : Int) - (224 : Int)) * (64 : Int) + (↑(UInt8.toNat (List.getD s 1 (0 : UInt8))) : Int) - (128 : Int)) * (64 : Int) + (↑(UInt8.toNat (List.getD s 2 (0 : UInt8))) : Int) - (128 : Int))), P.d (D.int IntKind.i64 (3 : Int)), P.d (D.bool true)], []) else post (P.tup [P.d (D.int IntKind.i64 ((((↑(UInt8.toNat (List.getD s 0 (0 : UInt8))) : Int) - (224 : Int)) * (64 : Int) + (↑(UInt8.toNat (List.getD s 1 (0 : UInt8))) : Int) - (128 : Int)) * (64 : Int) + (↑(UInt8.toNat (List.getD s 2 (0 : UInt8))) : Int) - (128 : Int))), P.d (D.int IntKind.i64 (3 : Int)), P.d (D.bool true)], []) else False else False else False else False else False else False else False else False else False else False else False else bif decide ((↑(UInt8.toNat (List.getD s 0 (0 : UInt8))) : Int) ≥ (240 : Int)) then bif decide ((↑(UInt8.toNat (List.getD s 0 (0 : UInt8))) : Int) < (245 : Int)) then bif decide ((-9223372036854775808 : Int) ≤ (↑(UInt8.toNat (List.getD s 0 (0 : UInt8))) : Int) - (240 : Int) ∧ (↑(UInt8.toNat (List.getD s 0 (0 : UInt8))) : Int) - (240 : Int) ≤ (9223372036854775807 : Int)) then bif decide ((↑(List.length s) : Int) < (4 : Int)) then post (P.tup [P.d (D.int IntKind.i64 (0 : Int)), P.d (D.int IntKind.i64 (0 : Int)), P.d (D.bool false)], []) else bif decide ((0 : Int) ≤ (1 : Int) ∧ (1 : Int) < (↑(List.length s) : Int)) then bif decide ((-9223372036854775808 : Int) ≤ (↑(UInt8.toNat (List.getD s 1 (0 : UInt8))) : Int) ∧ (↑(UInt8.toNat (List.getD s 1 (0 : UInt8))) : Int) ≤ (9223372036854775807 : Int)) then bif decide ((↑(UInt8.toNat (List.getD s 1 (0 : UInt8))) : Int) < (128 : Int)) then post (P.tup [P.d (D.int IntKind.i64 (0 : Int)), P.d (D.int IntKind.i64 (0 : Int)), P.d (D.bool false)], []) else bif decide ((↑(UInt8.toNat (List.getD s 1 (0 : UInt8))) : Int) ≥ (192 : Int)) then post (P.tup [P.d (D.int IntKind.i64 (0 : Int)), P.d (D.int IntKind.i64 (0 : Int)), P.d (D.bool false)], []) else bif decide ((-9223372036854775808 : Int) ≤ ((↑(UInt8.toNat (List.getD s 0 (0 : UInt8))) : Int) - (240 : Int)) * (64 : Int) ∧ ((↑(UInt8.toNat (List.getD s 0 (0 : UInt8))) : Int) - (240 : Int)) * (64 : Int) ≤ (9223372036854775807 : Int)) then bif decide ((-9223372036854775808 : Int) ≤ ((↑(UInt8.toNat (List.getD s 0 (0 : UInt8))) : Int) - (240 : Int)) * (64 : Int) + (↑(UInt8.toNat (List.getD s 1 (0 : UInt8))) : Int) ∧ ((↑(UInt8.toNat (List.getD s 0 (0 : UInt8))) : Int) - (240 : Int)) * (64 : Int) + (↑(UInt8.toNat (List.getD s 1 (0 : UInt8))) : Int) ≤ (9223372036854775807 : Int)) then bif decide ((-9223372036854775808 : Int) ≤ ((↑(UInt8.toNat (List.getD s 0 (0 : UInt8))) : Int) - (240 : Int)) * (64 : Int) + (↑(UInt8.toNat (List.getD s 1 (0 : UInt8))) : Int) - (128 : Int) ∧ ((↑(UInt8.toNat (List.getD s 0 (0 : UInt8))) : Int) - (240 : Int)) * (64 : Int) + (↑(UInt8.toNat (List.getD s 1 (0 : UInt8))) : Int) - (128 : Int) ≤ (9223372036854775807 : Int)) then bif decide ((0 : Int) ≤ (1 : Int) + (1 : Int) ∧ (1 : Int) + (1 : Int) < (↑(List.length s) : Int)) then bif decide ((-9223372036854775808 : Int) ≤ (↑(UInt8.toNat (List.getD s 2 (0 : UInt8))) : Int) ∧ (↑(UInt8.toNat (List.getD s 2 (0 : UInt8))) : Int) ≤ (9223372036854775807 : Int)) then bif decide ((↑(UInt8.toNat (List.getD s 2 (0 : UInt8))) : Int) < (128 : Int)) then post (P.tup [P.d (D.int IntKind.i64 (0 : Int)), P.d (D.int IntKind.i64 (0 : Int)), P.d (D.bool false)], []) else bif decide ((↑(UInt8.toNat (List.getD s 2 (0 : UInt8))) : Int) ≥ (192 : Int)) then post (P.tup [P.d (D.int IntKind.i64 (0 : Int)), P.d (D.int IntKind.i64 (0 : Int)), P.d (D.bool false)], []) else bif decide ((-9223372036854775808 : Int) ≤ (((↑(UInt8.toNat (List.getD s 0 (0 : UInt8))) : Int) - (240 : Int)) * (64 : Int) + (↑(UInt8.toNat (List.getD s 1 (0 : UInt8))) : Int) - (128 : Int)) * (64 : Int) ∧ (((↑(UInt8.toNat (List.getD s 0 (0 : UInt8))) : Int) - (240 : Int)) * (64 : Int) + (↑(UInt8.toNat (List.getD s 1 (0 : UInt8))) : Int) - (128 : Int)) * (64 : Int) ≤ (9223372036854775807 : Int)) then bif decide ((-9223372036854775808 : Int) ≤ (((↑(UInt8.toNat (List.getD s 0 (0 : UInt8))) : Int) - (240 : Int)) * (64 : Int) + (↑(UInt8.toNat (List.getD s 1 (0 : UInt8))) : Int) - (128 : Int)) * (64 : Int) + (↑(UInt8.toNat (List.getD s 2 (0 : UInt8))) : Int) ∧ (((↑(UInt8.toNat (List.getD s 0 (0 : UInt8))) : Int) - (240 : Int)) * (64 : Int) + (↑(UInt8.toNat (List.getD s 1 (0 : UInt8))) : Int) - (128 : Int)) * (64 : Int) + (↑(UInt8.toNat (List.getD s 2 (0 : UInt8))) : Int) ≤ (9223372036854775807 : Int)) then bif decide ((-9223372036854775808 : Int) ≤ (((↑(UInt8.toNat (List.getD s 0 (0 : UInt8))) : Int) - (240 : Int)) * (64 : Int) + (↑(UInt8.toNat (List.getD s 1 (0 : UInt8))) : Int) - (128 : Int)) * (64 : Int) + (↑(UInt8.toNat (List.getD s 2 (0 : UInt8))) : Int) - (128 : Int) ∧ (((↑(UInt8.toNat (List.getD s 0 (0 : UInt8))) : Int) - (240 : Int)) * (64 : Int) + (↑(UInt8.toNat (List.getD s 1 (0 : UInt8))) : Int) - (128 : Int)) * (64 : Int) + (↑(UInt8.toNat (List.getD s 2 (0 : UInt8))) : Int) - (128 : Int) ≤ (9223372036854775807 : Int)) then bif decide ((0 : Int) ≤ (1 : Int) + (1 : Int) + (1 : Int) ∧ (1 : Int) + (1 : Int) + (1 : Int) < (↑(List.length s) : Int)) then bif decide ((-9223372036854775808 : Int) ≤ (↑(UInt8.toNat (List.getD s 3 (0 : UInt8))) : Int) ∧ (↑(UInt8.toNat (List.getD s 3 (0 : UInt8))) : Int) ≤ (9223372036854775807 : Int)) then bif decide ((↑(UInt8.toNat (List.getD s 3 (0 : UInt8))) : Int) < (128 : Int)) then post (P.tup [P.d (D.int IntKind.i64 (0 : Int)), P.d (D.int IntKind.i64 (0 : Int)), P.d (D.bool false)], []) else bif decide ((↑(UInt8.toNat (List.getD s 3 (0 : UInt8))) : Int) ≥ (192 : Int)) then post (P.tup [P.d (D.int IntKind.i64 (0 : Int)), P.d (D.int IntKind.i64 (0 : Int)), P.d (D.bool false)], []) else bif decide ((-9223372036854775808 : Int) ≤ ((((↑(UInt8.toNat (List.getD s 0 (0 : UInt8))) : Int) - (240 : Int)) * (64 : Int) + (↑(UInt8.toNat (List.getD s 1 (0 : UInt8))) : Int) - (128 : Int)) * (64 : Int) + (↑(UInt8.toNat (List.getD s 2 (0 : UInt8))) : Int) - (128 : Int)) * (64 : Int) ∧ ((((↑(UInt8.toNat (List.getD s 0 (0 : UInt8))) : Int) - (240 : Int)) * (64 : Int) + (↑(UInt8.toNat (List.getD s 1 (0 : UInt8))) : Int) - (128 : Int)) * (64 : Int) + (↑(UInt8.toNat (List.getD s 2 (0 : UInt8))) : Int) - (128 : Int)) * (64 : Int) ≤ (9223372036854775807 : Int)) then bif decide ((-9223372036854775808 : Int) ≤ ((((↑(UInt8.toNat (List.getD s 0 (0 : UInt8))) : Int) - (240 : Int)) * (64 : Int) + (↑(UInt8.toNat (List.getD s 1 (0 : UInt8))) : Int) - (128 : Int)) * (64 : Int) + (↑(UInt8.toNat (List.getD s 2 (0 : UInt8))) : Int) - (128 : Int)) * (64 : Int) + (↑(UInt8.toNat (List.getD s 3 (0 : UInt8))) : Int) ∧ ((((↑(UInt8.toNat (List.getD s 0 (0 : UInt8))) : Int) - (240 : Int)) * (64 : Int) + (↑(UInt8.toNat (List.getD s 1 (0 : UInt8))) : Int) - (128 : Int)) * (64 : Int) + (↑(UInt8.toNat (List.getD s 2 (0 : UInt8))) : Int) - (128 : Int)) * (64 : Int) + (↑(UInt8.toNat (List.getD s 3 (0 : UInt8))) : Int) ≤ (9223372036854775807 : Int)) then bif decide ((-9223372036854775808 : Int) ≤ ((((↑(UInt8.toNat (List.getD s 0 (0 : UInt8))) : Int) - (240 : Int)) * (64 : Int) + (↑(UInt8.toNat (List.getD s 1 (0 : UInt8))) : Int) - (128 : Int)) * (64 : Int) + (↑(UInt8.toNat (List.getD s 2 (0 : UInt8))) : Int) - (128 : Int)) * (64 : Int) + (↑(UInt8.toNat (List.getD s 3 (0 : UInt8))) : Int) - (128 : Int) ∧ ((((↑(UInt8.toNat (List.getD s 0 (0 : UInt8))) : Int) - (240 : Int)) * (64 : Int) + (↑(UInt8.toNat (List.getD s 1 (0 : UInt8))) : Int) - (128 : Int)) * (64 : Int) + (↑(UInt8.toNat (List.getD s 2 (0 : UInt8))) : Int) - (128 : Int)) * (64 : Int) + (↑(UInt8.toNat (List.getD s 3 (0 : UInt8))) : Int) - (128 : Int) ≤ (9223372036854775807 : Int)) then bif decide (((((↑(UInt8.toNat (List.getD s 0 (0 : UInt8))) : Int) - (240 : Int)) * (64 : Int) + (↑(UInt8.toNat (List.getD s 1 (0 : UInt8))) : Int) - (128 : Int)) * (64 : Int) + (↑(UInt8.toNat (List.getD s 2 (0 : UInt8))) : Int) - (128 : Int)) * (64 : Int) + (↑(UInt8.toNat (List.getD s 3 (0 : UInt8))) : Int) - (128 : Int) < (65536 : Int)) then post (P.tup [P.d (D.int IntKind.i64 (0 : Int)), P.d (D.int IntKind.i64 (0 : Int)), P.d (D.bool false)], []) else bif decide (((((↑(UInt8.toNat (List.getD s 0 (0 : UInt8))) : Int) - (240 : Int)) * (64 : Int) + (↑(UInt8.toNat (List.getD s 1 (0 : UInt8))) : Int) - (128 : Int)) * (64 : Int) + (↑(UInt8.toNat (List.getD s 2 (0 : UInt8))) : Int) - (128 : Int)) * (64 : Int) + (↑(UInt8.toNat (List.getD s 3 (0 : UInt8))) : Int) - (128 : Int) > (1114111 : Int)) then post (P.tup [P.d (D.int IntKind.i64 (0 : Int)), P.d (D.int IntKind.i64 (0 : Int)), P.d (D.bool false)], []) else bif decide (((((↑(UInt8.toNat (List.getD s 0 (0 : UInt8))) : Int) - (240 : Int)) * (64 : Int) + (↑(UInt8.toNat (List.getD s 1 (0 : UInt8))) : Int) - (128 : Int)) * (64 : Int) + (↑(UInt8.toNat (List.getD s 2 (0 : UInt8))) : Int) - (128 : Int)) * (64 : Int) + (↑(UInt8.toNat (List.getD s 3 (0 : UInt8))) : Int) - (128 : Int) ≥ (55296 : Int)) then bif decide (((((↑(UInt8.toNat (List.getD s 0 (0 : UInt8))) : Int) - (240 : Int)) * (64 : Int) + (↑(UInt8.toNat (List.getD s 1 (0 : UInt8))) : Int) - (128 : Int)) * (64 : Int) + (↑(UInt8.toNat (List.getD s 2 (0 : UInt8))) : Int) - (128 : Int)) * (64 : Int) + (↑(UInt8.toNat (List.getD s 3 (0 : UInt8))) : Int) - (128 : Int) < (57344 : Int)) then post (P.tup [P.d (D.int IntKind.i64 (0 : Int)), P.d (D.int IntKind.i64 (0 : Int)), P.d (D.bool false)], []) else post (P.tup [P.d (D.int IntKind.i64 (((((↑(UInt8.toNat (List.getD s 0 (0 : UInt8))) : Int) - (240 : Int)) * (64 : Int) + (↑(UInt8.toNat (List.getD s 1 (0 : UInt8))) : Int) - (128 : Int)) * (64 : Int) + (↑(UInt8.toNat (List.getD s 2 (0 : UInt8))) : Int) - (128 : Int)) * (64 : Int) + (↑(UInt8.toNat (List.getD s 3 (0 : UInt8))) : Int) - (128 : Int))), P.d (D.int IntKind.i64 (4 : Int)), P.d (D.bool true)], []) else post (P.tup [P.d (D.int IntKind.i64 (((((↑(UInt8.toNat (List.getD s 0 (0 : UInt8))) : Int) - (240 : Int)) * (64 : Int) + (↑(UInt8.toNat (List.getD s 1 (0 : UInt8))) : Int) - (128 : Int)) * (64 : Int) + (↑(UInt8.toNat (List.getD s 2 (0 : UInt8))) : Int) - (128 : Int)) * (64 : Int) + (↑(UInt8.toNat (List.getD s 3 (0 : UInt8))) : Int) - (128 : Int))), P.d (D.int IntKind.i64 (4 : Int)), P.d (D.bool true)], []) else False else False else False else False else False else False else False else False else False else False else False else False else False else False else False else False else post (P.tup [P.d (D.int IntKind.i64 (0 : Int)), P.d (D.int IntKind.i64 (0 : Int)), P.d (D.bool false)], []) else post (P.tup [P.d (D.int IntKind.i64 (0 : Int)), P.d (D.int IntKind.i64 (0 : Int)), P.d (D.bool false)], []) else bif decide ((↑(UInt8.toNat (List.getD s 0 (0 : UInt8))) : Int) ≥ (240 : Int)) then bif decide ((↑(UInt8.toNat (List.getD s 0 (0 : UInt8))) : Int) < (245 : Int)) then bif decide ((-9223372036854775808 : Int) ≤ (↑(UInt8.toNat (List.getD s 0 (0 : UInt8))) : Int) - (240 : Int) ∧ (↑(UInt8.toNat (List.getD s 0 (0 : UInt8))) : Int) - (240 : Int) ≤ (9223372036854775807 : Int)) then bif decide ((↑(List.length s) : Int) < (4 : Int)) then post (P.tup [P.d (D.int IntKind.i64 (0 : Int)), P.d (D.int IntKind.i64 (0 : Int)), P.d (D.bool false)], []) else bif decide ((0 : Int) ≤ (1 : Int) ∧ (1 : Int) < (↑(List.length s) : Int)) then bif decide ((-9223372036854775808 : Int) ≤ (↑(UInt8.toNat (List.getD s 1 (0 : UInt8))) : Int) ∧ (↑(UInt8.toNat (List.getD s 1 (0 : UInt8))) : Int) ≤ (9223372036854775807 : Int)) then bif decide ((↑(UInt8.toNat (List.getD s 1 (0 : UInt8))) : Int) < (128 : Int)) then post (P.tup [P.d (D.int IntKind.i64 (0 : Int)), P.d (D.int IntKind.i64 (0 : Int)), P.d (D.bool false)], []) else bif decide ((↑(UInt8.toNat (List.getD s 1 (0 : UInt8))) : Int) ≥ (192 : Int)) then post (P.tup [P.d (D.int IntKind.i64 (0 : Int)), P.d (D.int IntKind.i64 (0 : Int)), P.d (D.bool false)], []) else bif decide ((-9223372036854775808 : Int) ≤ ((↑(UInt8.toNat (List.getD s 0 (0 : UInt8))) : Int) - (240 : Int)) * (64 : Int) ∧ ((↑(UInt8.toNat (List.getD s 0 (0 : UInt8))) : Int) - (240 : Int)) * (64 : Int) ≤ (9223372036854775807 : Int)) then bif decide ((-9223372036854775808 : Int) ≤ ((↑(UInt8.toNat (List.getD s 0 (0 : UInt8))) : Int) - (240 : Int)) * (64 : Int) + (↑(UInt8.toNat (List.getD s 1 (0 : UInt8))) : Int) ∧ ((↑(UInt8.toNat (List.getD s 0 (0 : UInt8))) : Int) - (240 : Int)) * (64 : Int) + (↑(UInt8.toNat (List.getD s 1 (0 : UInt8))) : Int) ≤ (9223372036854775807 : Int)) then bif decide ((-9223372036854775808 : Int) ≤ ((↑(UInt8.toNat (List.getD s 0 (0 : UInt8))) : Int) - (240 : Int)) * (64 : Int) + (↑(UInt8.toNat (List.getD s 1 (0 : UInt8))) : Int) - (128 : Int) ∧ ((↑(UInt8.toNat (List.getD s 0 (0 : UInt8))) : Int) - (240 : Int)) * (64 : Int) + (↑(UInt8.toNat (List.getD s 1 (0 : UInt8))) : Int) - (128 : Int) ≤ (9223372036854775807 : Int)) then bif decide ((0 : Int) ≤ (1 : Int) + (1 : Int) ∧ (1 : Int) + (1 : Int) < (↑(List.length s) : Int)) then bif decide ((-9223372036854775808 : Int) ≤ (↑(UInt8.toNat (List.getD s 2 (0 : UInt8))) : Int) ∧ (↑(UInt8.toNat (List.getD s 2 (0 : UInt8))) : Int) ≤ (9223372036854775807 : Int)) then bif decide ((↑(UInt8.toNat (List.getD s 2 (0 : UInt8))) : Int) < (128 : Int)) then post (P.tup [P.d (D.int IntKind.i64 (0 : Int)), P.d (D.int IntKind.i64 (0 : Int)), P.d (D.bool false)], []) else bif decide ((↑(UInt8.toNat (List.getD s 2 (0 : UInt8))) : Int) ≥ (192 : Int)) then post (P.tup [P.d (D.int IntKind.i64 (0 : Int)), P.d (D.int IntKind.i64 (0 : Int)), P.d (D.bool false)], []) else bif decide ((-9223372036854775808 : Int) ≤ (((↑(UInt8.toNat (List.getD s 0 (0 : UInt8))) : Int) - (240 : Int)) * (64 : Int) + (↑(UInt8.toNat (List.getD s 1 (0 : UInt8))) : Int) - (128 : Int)) * (64 : Int) ∧ (((↑(UInt8.toNat (List.getD s 0 (0 : UInt8))) : Int) - (240 : Int)) * (64 : Int) + (↑(UInt8.toNat (List.getD s 1 (0 : UInt8))) : Int) - (128 : Int)) * (64 : Int) ≤ (9223372036854775807 : Int)) then bif decide ((-9223372036854775808 : Int) ≤ (((↑(UInt8.toNat (List.getD s 0 (0 : UInt8))) : Int) - (240 : Int)) * (64 : Int) + (↑(UInt8.toNat (List.getD s 1 (0 : UInt8))) : Int) - (128 : Int)) * (64 : Int) + (↑(UInt8.toNat (List.getD s 2 (0 : UInt8))) : Int) ∧ (((↑(UInt8.toNat (List.getD s 0 (0 : UInt8))) : Int) - (240 : Int)) * (64 : Int) + (↑(UInt8.toNat (List.getD s 1 (0 : UInt8))) : Int) - (128 : Int)) * (64 : Int) + (↑(UInt8.toNat (List.getD s 2 (0 : UInt8))) : Int) ≤ (9223372036854775807 : Int)) then bif decide ((-9223372036854775808 : Int) ≤ (((↑(UInt8.toNat (List.getD s 0 (0 : UInt8))) : Int) - (240 : Int)) * (64 : Int) + (↑(UInt8.toNat (List.getD s 1 (0 : UInt8))) : Int) - (128 : Int)) * (64 : Int) + (↑(UInt8.toNat (List.getD s 2 (0 : UInt8))) : Int) - (128 : Int) ∧ (((↑(UInt8.toNat (List.getD s 0 (0 : UInt8))) : Int) - (240 : Int)) * (64 : Int) + (↑(UInt8.toNat (List.getD s 1 (0 : UInt8))) : Int) - (128 : Int)) * (64 : Int) + (↑(UInt8.toNat (List.getD s 2 (0 : UInt8))) : Int) - (128 : Int) ≤ (9223372036854775807 : Int)) then bif decide ((0 : Int) ≤ (1 : Int) + (1 : Int) + (1 : Int) ∧ (1 : Int) + (1 : Int) + (1 : Int) < (↑(List.length s) : Int)) then bif decide ((-9223372036854775808 : Int) ≤ (↑(UInt8.toNat (List.getD s 3 (0 : UInt8))) : Int) ∧ (↑(UInt8.toNat (List.getD s 3 (0 : UInt8))) : Int) ≤ (9223372036854775807 : Int)) then bif decide ((↑(UInt8.toNat (List.getD s 3 (0 : UInt8))) : Int) < (128 : Int)) then post (P.tup [P.d (D.int IntKind.i64 (0 : Int)), P.d (D.int IntKind.i64 (0 : Int)), P.d (D.bool false)], []) else bif decide ((↑(UInt8.toNat (List.getD s 3 (0 : UInt8))) : Int) ≥ (192 : Int)) then post (P.tup [P.d (D.int IntKind.i64 (0 : Int)), P.d (D.int IntKind.i64 (0 : Int)), P.d (D.bool false)], []) else bif decide ((-9223372036854775808 : Int) ≤ ((((↑(UInt8.toNat (List.getD s 0 (0 : UInt8))) : Int) - (240 : Int)) * (64 : Int) + (↑(UInt8.toNat (List.getD s 1 (0 : UInt8))) : Int) - (128 : Int)) * (64 : Int) + (↑(UInt8.toNat (List.getD s 2 (0 : UInt8))) : Int) - (128 : Int)) * (64 : Int) ∧ ((((↑(UInt8.toNat (List.getD s 0 (0 : UInt8))) : Int) - (240 : Int)) * (64 : Int) + (↑(UInt8.toNat (List.getD s 1 (0 : UInt8))) : Int) - (128 : Int)) * (64 : Int) + (↑(UInt8.toNat (List.getD s 2 (0 : UInt8))) : Int) - (128 : Int)) * (64 : Int) ≤ (9223372036854775807 : Int)) then bif decide ((-9223372036854775808 : Int) ≤ ((((↑(UInt8.toNat (List.getD s 0 (0 : UInt8))) : Int) - (240 : Int)) * (64 : Int) + (↑(UInt8.toNat (List.getD s 1 (0 : UInt8))) : Int) - (128 : Int)) * (64 : Int) + (↑(UInt8.toNat (List.getD s 2 (0 : UInt8))) : Int) - (128 : Int)) * (64 : Int) + (↑(UInt8.toNat (List.getD s 3 (0 : UInt8))) : Int) ∧ ((((↑(UInt8.toNat (List.getD s 0 (0 : UInt8))) : Int) - (240 : Int)) * (64 : Int) + (↑(UInt8.toNat (List.getD s 1 (0 : UInt8))) : Int) - (128 : Int)) * (64 : Int) + (↑(UInt8.toNat (List.getD s 2 (0 : UInt8))) : Int) - (128 : Int)) * (64 : Int) + (↑(UInt8.toNat (List.getD s 3 (0 : UInt8))) : Int) ≤ (9223372036854775807 : Int)) then bif decide ((-9223372036854775808 : Int) ≤ ((((↑(UInt8.toNat (List.getD s 0 (0 : UInt8))) : Int) - (240 : Int)) * (64 : Int) + (↑(UInt8.toNat (List.getD s 1 (0 : UInt8))) : Int) - (128 : Int)) * (64 : Int) + (↑(UInt8.toNat (List.getD s 2 (0 : UInt8))) : Int) - (128 : Int)) * (64 : Int) + (↑(UInt8.toNat (List.getD s 3 (0 : UInt8))) : Int) - (128 : Int) ∧ ((((↑(UInt8.toNat (List.getD s 0 (0 : UInt8))) : Int) - (240 : Int)) * (64 : Int) + (↑(UInt8.toNat (List.getD s 1 (0 : UInt8))) : Int) - (128 : Int)) * (64 : Int) + (↑(UInt8.toNat (List.getD s 2 (0 : UInt8))) : Int) - (128 : Int)) * (64 : Int) + (↑(UInt8.toNat (List.getD s 3 (0 : UInt8))) : Int) - (128 : Int) ≤ (9223372036854775807 : Int)) then bif decide (((((↑(UInt8.toNat (List.getD s 0 (0 : UInt8))) : Int) - (240 : Int)) * (64 : Int) + (↑(UInt8.toNat (List.getD s 1 (0 : UInt8))) : Int) - (128 : Int)) * (64 : Int) + (↑(UInt8.toNat (List.getD s 2 (0 : UInt8))) : Int) - (128 : Int)) * (64 : Int) + (↑(UInt8.toNat (List.getD s 3 (0 : UInt8))) : Int) - (128 : Int) < (65536 : Int)) then post (P.tup [P.d (D.int IntKind.i64 (0 : Int)), P.d (D.int IntKind.i64 (0 : Int)), P.d (D.bool false)], []) else bif decide (((((↑(UInt8.toNat (List.getD s 0 (0 : UInt8))) : Int) - (240 : Int)) * (64 : Int) + (↑(UInt8.toNat (List.getD s 1 (0 : UInt8))) : Int) - (128 : Int)) * (64 : Int) + (↑(UInt8.toNat (List.getD s 2 (0 : UInt8))) : Int) - (128 : Int)) * (64 : Int) + (↑(UInt8.toNat (List.getD s 3 (0 : UInt8))) : Int) - (128 : Int) > (1114111 : Int)) then post (P.tup [P.d (D.int IntKind.i64 (0 : Int)), P.d (D.int IntKind.i64 (0 : Int)), P.d (D.bool false)], []) else bif decide (((((↑(UInt8.toNat (List.getD s 0 (0 : UInt8))) : Int) - (240 : Int)) * (64 : Int) + (↑(UInt8.toNat (List.getD s 1 (0 : UInt8))) : Int) - (128 : Int)) * (64 : Int) + (↑(UInt8.toNat (List.getD s 2 (0 : UInt8))) : Int) - (128 : Int)) * (64 : Int) + (↑(UInt8.toNat (List.getD s 3 (0 : UInt8))) : Int) - (128 : Int) ≥ (55296 : Int)) then bif decide (((((↑(UInt8.toNat (List.getD s 0 (0 : UInt8))) : Int) - (240 : Int)) * (64 : Int) + (↑(UInt8.toNat (List.getD s 1 (0 : UInt8))) : Int) - (128 : Int)) * (64 : Int) + (↑(UInt8.toNat (List.getD s 2 (0 : UInt8))) : Int) - (128 : Int)) * (64 : Int) + (↑(UInt8.toNat (List.getD s 3 (0 : UInt8))) : Int) - (128 : Int) < (57344 : Int)) then post (P.tup [P.d (D.int IntKind.i64 (0 : Int)), P.d (D.int IntKind.i64 (0 : Int)), P.d (D.bool false)], []) else post (P.tup [P.d (D.int IntKind.i64 (((((↑(UInt8.toNat (List.getD s 0 (0 : UInt8))) : Int) - (240 : Int)) * (64 : Int) + (↑(UInt8.toNat (List.getD s 1 (0 : UInt8))) : Int) - (128 : Int)) * (64 : Int) + (↑(UInt8.toNat (List.getD s 2 (0 : UInt8))) : Int) - (128 : Int)) * (64 : Int) + (↑(UInt8.toNat (List.getD s 3 (0 : UInt8))) : Int) - (128 : Int))), P.d (D.int IntKind.i64 (4 : Int)), P.d (D.bool true)], []) else post (P.tup [P.d (D.int IntKind.i64 (((((↑(UInt8.toNat (List.getD s 0 (0 : UInt8))) : Int) - (240 : Int)) * (64 : Int) + (↑(UInt8.toNat (List.getD s 1 (0 : UInt8))) : Int) - (128 : Int)) * (64 : Int) + (↑(UInt8.toNat (List.getD s 2 (0 : UInt8))) : Int) - (128 : Int)) * (64 : Int) + (↑(UInt8.toNat (List.getD s 3 (0 : UInt8))) : Int) - (128 : Int))), P.d (D.int IntKind.i64 (4 : Int)), P.d (D.bool true)], []) else False else False else False else False else False else False else False else False else False else False else False else False else False else False else False else False else post (P.tup [P.d (D.int IntKind.i64 (0 : Int)), P.d (D.int IntKind.i64 (0 : Int)), P.d (D.bool false)], []) else post (P.tup [P.d (D.int IntKind.i64 (0 : Int)), P.d (D.int IntKind.i64 (0 : Int)), P.d (D.bool false)], []) else False else False) = (bodyF [] [] 55 [sD s] []) post := by kernel_rfl
abbrev rsH (s : List UInt8) (o : List (List UInt8)) : S := ⟨29, [(0, sD s), (4, .sl 0 0 o.length)], [(0, ⟨0, none, .arr 9 false (o.map D.str)⟩)]⟩
def gRs : S → K (PX × S) := fun st post => ∃ s, st = rsH s [] ∧ s.length ≤ 2000000 ∧ (Lib.validD s = false → ∀ o : List (List UInt8), post (.ret, ⟨29, [(2, .sl 0 0 0), (3, iD 60), (4, .sl 1 0 o.length)], [(0, ⟨0, none, .arr 9 false []⟩), (1, ⟨0, none, .arr 9 false (o.map D.str)⟩)]⟩)) ∧ (Lib.validD s = true → ∀ o : List (List UInt8), post (.exit 0, ⟨29, [(4, .sl 0 0 o.length)], [(0, ⟨0, none, .arr 9 false (o.map D.str)⟩)]⟩))
def hSplitRf : KF1 := fun ps R post => ∃ s, ps = [sD s] ∧ R = [] ∧ s.length ≤ 2000000 ∧ (Lib.validD s = false → post (.tup [.sl 0 0 0, iD 60], [(0, ⟨0, none, .arr 9 false []⟩)])) ∧ (Lib.validD s = true → ∀ o : List (List UInt8), post (.tup [.sl 0 0 o.length, iD 0], [(0, ⟨0, none, .arr 9 false (o.map D.str)⟩)]))
theorem vcRs (s : List UInt8) (post : P × List (Nat × En) → Prop) : (∃ (s_1 : List UInt8), S.mk 29 [(0, P.d (D.str s)), (4, P.sl 0 0 0)] [(0, En.mk 0 none (Obj.arr 9 false []))] = S.mk 29 [(0, P.d (D.str s_1)), (4, P.sl 0 0 0)] [(0, En.mk 0 none (Obj.arr 9 false []))] ∧ List.length s_1 ≤ 2000000 ∧ (Lib.validD s_1 = false → ∀ (o : List (List UInt8)), post (P.tup [P.sl 0 0 0, P.d (D.int IntKind.i64 (60 : Int))], [(0, En.mk 0 none (Obj.arr 9 false []))])) ∧ (Lib.validD s_1 = true → ∀ (o : List (List UInt8)), post (P.tup [P.sl 0 0 (List.length o), P.d (D.int IntKind.i64 (0 : Int))], [(0, En.mk 0 none (Obj.arr 9 false (List.map D.str o)))]))) = (bodyF [] [(2, loopHook (kpF 43 2) gRs)] 43 [sD s] []) post := by kernel_rfl
theorem vcRl (s : List UInt8) (post : P × List (Nat × En) → Prop) : (∃ (s_1 : List UInt8), [P.d (D.str s)] = [P.d (D.str s_1)] ∧ EqR [] [] ∧ List.length s_1 ≤ 2000000 ∧ (Lib.validD s_1 = false → post (P.tup [P.d (D.int IntKind.i64 (0 : Int)), P.d (D.int IntKind.i64 (60 : Int))], [])) ∧ (Lib.validD s_1 = true → ∀ (o : List (List UInt8)), post (P.tup [P.d (D.int IntKind.i64 (↑(List.length o) : Int)), P.d (D.int IntKind.i64 (0 : Int))], []))) = (bodyF [(43, hSplitRf)] [] 24 [sD s] []) post := by kernel_rfl
theorem vcRsN (s : List UInt8) (o : List (List UInt8)) (post : PX × S → Prop) : (bif decide ((↑(List.length s) : Int) > (0 : Int)) then ∃ (s_1 : List UInt8), [P.d (D.str s)] = [P.d (D.str s_1)] ∧ EqR [] [] ∧ (s_1 ≠ [] ∧ List.length s_1 ≤ 2000000) ∧ (badH s_1 → ∀ (c n : Int), post (PX.ret, S.mk 29 [(2, P.sl 0 0 0), (3, P.d (D.int IntKind.i64 (60 : Int))), (4, P.sl 1 0 (List.length o))] [(0, En.mk 0 none (Obj.arr 9 false [])), (1, En.mk 0 none (Obj.arr 9 false (List.map D.str o)))])) ∧ (¬badH s_1 → ∀ (c n : Int), n = (↑(Prod.snd (Lib.decodeL s_1)) : Int) → (1 : Int) ≤ n → Int.toNat n ≤ List.length s_1 → bif decide ((0 : Int) ≤ n ∧ n ≤ (↑(List.length s) : Int)) then bif Nat.ble (List.length o) (List.length (List.map D.str o)) && roomOk (List.length o + List.length [D.str (List.drop 0 (List.take (Int.toNat n) s))]) 16 then bif decide ((0 : Int) ≤ n ∧ n ≤ (↑(List.length s) : Int)) then post (PX.normal, S.mk 29 [(0, P.d (D.str (List.drop (Int.toNat n) (List.take (List.length s) s)))), (4, P.sl 0 0 (List.length o + List.length [D.str (List.drop 0 (List.take (Int.toNat n) s))]))] [(0, En.mk 0 none (Obj.arr 9 false (List.take (List.length o) (List.map D.str o) ++ [D.str (List.drop 0 (List.take (Int.toNat n) s))])))]) else False else False else False) else post (PX.exit 0, S.mk 29 [(4, P.sl 0 0 (List.length o))] [(0, En.mk 0 none (Obj.arr 9 false (List.map D.str o)))])) = (roundL [(55, hFirst)] [] 43 2 (rsH s o)) post := by kernel_rfl
abbrev rdH (l : List En3) (p : List UInt8) (k : Int) : S := ⟨28, [(0, esP l), (1, sD p), (5, iD k)], []⟩
def dirL (l : List En3) (p : List UInt8) : Bool := l.any (fun e => e.2.1 && e.1 == p)
def gRd : S → K (PX × S) := fun st post => ∃ l p, st = rdH l p 0 ∧ l.length ≤ 3000000 ∧ (dirL l p = true → post (.ret, ⟨28, [(4, bD' true)], []⟩)) ∧ (dirL l p = false → post (.exit 0, ⟨28, [], []⟩))
def hDir : KF1 := fun ps R post => ∃ l p, ps = [esP l, sD p] ∧ R = [] ∧ l.length ≤ 3000000 ∧ ∀ b, b = (p == [] || dirL l p) → post (bD' b, [])
theorem vcRdN (l : List En3) (p : List UInt8) (k : Int) (post : PX × S → Prop) : (bif decide (k < (↑(List.length (List.map enD l)) : Int)) then bif decide ((0 : Int) ≤ k ∧ k < (↑(List.length (List.map enD l)) : Int)) then bif isD PR 34 (D.nth (List.map enD l) (Int.toNat k)) then bif D.sVal (D.cAt (D.nth (List.map enD l) (Int.toNat k)) 0) == p then bif decide ((0 : Int) ≤ k ∧ k < (↑(List.length (List.map enD l)) : Int)) then bif isD PR 34 (D.nth (List.map enD l) (Int.toNat k)) then bif D.bVal (D.cAt (D.nth (List.map enD l) (Int.toNat k)) 1) then post (PX.ret, S.mk 28 [(4, P.d (D.bool true))] []) else bif decide ((-9223372036854775808 : Int) ≤ k + (1 : Int) ∧ k + (1 : Int) ≤ (9223372036854775807 : Int)) then post (PX.normal, S.mk 28 [(0, P.d (D.sl 3 (List.map enD l))), (1, P.d (D.str p)), (5, P.d (D.int IntKind.i64 (k + (1 : Int))))] []) else False else False else False else bif decide ((-9223372036854775808 : Int) ≤ k + (1 : Int) ∧ k + (1 : Int) ≤ (9223372036854775807 : Int)) then post (PX.normal, S.mk 28 [(0, P.d (D.sl 3 (List.map enD l))), (1, P.d (D.str p)), (5, P.d (D.int IntKind.i64 (k + (1 : Int))))] []) else False else False else False else post (PX.exit 0, S.mk 28 [] [])) = (roundL [] [] 25 4 (rdH l p k)) post := by kernel_rfl
theorem vcRd (l : List En3) (p : List UInt8) (post : P × List (Nat × En) → Prop) : (bif p == [] then post (P.d (D.bool true), []) else ∃ (l_1 : List En3), ∃ (p_1 : List UInt8), S.mk 28 [(0, P.d (D.sl 3 (List.map enD l))), (1, P.d (D.str p)), (5, P.d (D.int IntKind.i64 (0 : Int)))] [] = S.mk 28 [(0, P.d (D.sl 3 (List.map enD l_1))), (1, P.d (D.str p_1)), (5, P.d (D.int IntKind.i64 (0 : Int)))] [] ∧ List.length l_1 ≤ 3000000 ∧ (dirL l_1 p_1 = true → post (P.d (D.bool true), [])) ∧ (dirL l_1 p_1 = false → post (P.d (D.bool false), []))) = (bodyF [] [(4, loopHook (kpF 25 4) gRd)] 25 [esP l, sD p] []) post := by kernel_rfl
abbrev ruH (s : List UInt8) (k i : Int) : S := ⟨19, [(0, sD s), (3, iD k), (4, iD i)], []⟩
def gRu : S → K (PX × S) := fun st post => ∃ s, st = ruH s 0 0 ∧ s.length ≤ 3000000 ∧ ∀ k : Int, 0 ≤ k → k ≤ s.length → k.toNat = (max 0 (Lib.lastIndex s [47])).toNat → post (.exit 0, ⟨19, [(0, sD s), (3, iD k)], []⟩)
def hUp : KF1 := fun ps R post => ∃ s, ps = [sD s] ∧ R = [] ∧ s.length ≤ 3000000 ∧ post (sD (upP s), [])
theorem vcRuN (s : List UInt8) (k i : Int) (post : PX × S → Prop) : (bif decide (i < (↑(List.length s) : Int)) then bif decide ((0 : Int) ≤ i ∧ i < (↑(List.length s) : Int)) then bif (↑(UInt8.toNat (List.getD s (Int.toNat i) (0 : UInt8))) : Int) == (47 : Int) then bif decide ((-9223372036854775808 : Int) ≤ i + (1 : Int) ∧ i + (1 : Int) ≤ (9223372036854775807 : Int)) then post (PX.normal, S.mk 19 [(0, P.d (D.str s)), (3, P.d (D.int IntKind.i64 i)), (4, P.d (D.int IntKind.i64 (i + (1 : Int))))] []) else False else bif decide ((-9223372036854775808 : Int) ≤ i + (1 : Int) ∧ i + (1 : Int) ≤ (9223372036854775807 : Int)) then post (PX.normal, S.mk 19 [(0, P.d (D.str s)), (3, P.d (D.int IntKind.i64 k)), (4, P.d (D.int IntKind.i64 (i + (1 : Int))))] []) else False else False else post (PX.exit 0, S.mk 19 [(0, P.d (D.str s)), (3, P.d (D.int IntKind.i64 k))] [])) = (roundL [] [] 26 3 (ruH s k i)) post := by kernel_rfl
theorem vcRu (s : List UInt8) (post : P × List (Nat × En) → Prop) : (∃ (s_1 : List UInt8), S.mk 19 [(0, P.d (D.str s)), (3, P.d (D.int IntKind.i64 (0 : Int))), (4, P.d (D.int IntKind.i64 (0 : Int)))] [] = S.mk 19 [(0, P.d (D.str s_1)), (3, P.d (D.int IntKind.i64 (0 : Int))), (4, P.d (D.int IntKind.i64 (0 : Int)))] [] ∧ List.length s_1 ≤ 3000000 ∧ ∀ (k : Int), (0 : Int) ≤ k → k ≤ (↑(List.length s_1) : Int) → Int.toNat k = Int.toNat (max (0 : Int) (Lib.lastIndex s_1 [(47 : UInt8)])) → bif decide ((0 : Int) ≤ k ∧ k ≤ (↑(List.length s_1) : Int)) then post (P.d (D.str (List.drop 0 (List.take (Int.toNat k) s_1))), []) else False) = (bodyF [] [(3, loopHook (kpF 26 3) gRu)] 26 [sD s] []) post := by kernel_rfl
abbrev rcH (l : List En3) (k : Int) : S := ⟨89, [(0, esP l), (3, iD k)], []⟩
def gRc : S → K (PX × S) := fun st post => ∃ l, st = rcH l 0 ∧ SmE l ∧ (¬ ChkL l → post (.ret, ⟨89, [(2, iD 80)], []⟩)) ∧ (ChkL l → post (.exit 0, ⟨89, [], []⟩))
theorem vcRcN (l : List En3) (k : Int) (post : PX × S → Prop) : (bif decide (k < (↑(List.length (List.map enD l)) : Int)) then bif decide ((0 : Int) ≤ k ∧ k < (↑(List.length (List.map enD l)) : Int)) then bif isD PR 34 (D.nth (List.map enD l) (Int.toNat k)) then ∃ (s : List UInt8), [P.d (D.str (D.sVal (D.cAt (D.nth (List.map enD l) (Int.toNat k)) 0)))] = [P.d (D.str s)] ∧ EqR [] [] ∧ List.length s ≤ 2000000 ∧ ∀ (n : Nat) (e : Int) (l_1 : List (List UInt8)), splitP s = (e, l_1) → n = List.length l_1 → bif decide ((0 : Int) ≤ k ∧ k < (↑(List.length (List.map enD l)) : Int)) then bif isD PR 34 (D.nth (List.map enD l) (Int.toNat k)) then ∃ (s : List UInt8), [P.d (D.str (D.sVal (D.cAt (D.nth (List.map enD l) (Int.toNat k)) 2)))] = [P.d (D.str s)] ∧ EqR [] [] ∧ List.length s ≤ 2000000 ∧ ∀ (n_1 e_1 : Int), (e_1 = if Lib.validD s = true then (0 : Int) else (60 : Int)) → bif e != (0 : Int) then post (PX.ret, S.mk 89 [(2, P.d (D.int IntKind.i64 (80 : Int)))] []) else bif (↑n : Int) == (0 : Int) then post (PX.ret, S.mk 89 [(2, P.d (D.int IntKind.i64 (80 : Int)))] []) else bif e_1 != (0 : Int) then post (PX.ret, S.mk 89 [(2, P.d (D.int IntKind.i64 (80 : Int)))] []) else bif decide ((0 : Int) ≤ k ∧ k < (↑(List.length (List.map enD l)) : Int)) then bif isD PR 34 (D.nth (List.map enD l) (Int.toNat k)) then bif D.bVal (D.cAt (D.nth (List.map enD l) (Int.toNat k)) 1) then bif decide ((0 : Int) ≤ k ∧ k < (↑(List.length (List.map enD l)) : Int)) then bif isD PR 34 (D.nth (List.map enD l) (Int.toNat k)) then bif !D.sVal (D.cAt (D.nth (List.map enD l) (Int.toNat k)) 2) == [] then post (PX.ret, S.mk 89 [(2, P.d (D.int IntKind.i64 (80 : Int)))] []) else bif decide ((0 : Int) ≤ k ∧ k ≤ (↑(List.length (List.map enD l)) : Int)) then bif decide ((0 : Int) ≤ k ∧ k < (↑(List.length (List.map enD l)) : Int)) then bif isD PR 34 (D.nth (List.map enD l) (Int.toNat k)) then ∃ (s : List UInt8), [P.d (D.str (D.sVal (D.cAt (D.nth (List.map enD l) (Int.toNat k)) 0)))] = [P.d (D.str s)] ∧ EqR [] [] ∧ List.length s ≤ 3000000 ∧ ∃ (l_2 : List En3), ∃ (p : List UInt8), [P.d (D.sl 3 (List.drop 0 (List.take (Int.toNat k) (List.map enD l)))), P.d (D.str (upP s))] = [P.d (D.sl 3 (List.map enD l_2)), P.d (D.str p)] ∧ EqR [] [] ∧ List.length l_2 ≤ 3000000 ∧ ∀ (b : Bool), b = (p == [] || dirL l_2 p) → bif !b then post (PX.ret, S.mk 89 [(2, P.d (D.int IntKind.i64 (80 : Int)))] []) else bif decide (k > (0 : Int)) then bif decide ((-9223372036854775808 : Int) ≤ k - (1 : Int) ∧ k - (1 : Int) ≤ (9223372036854775807 : Int)) then bif decide ((0 : Int) ≤ k - (1 : Int) ∧ k - (1 : Int) < (↑(List.length (List.map enD l)) : Int)) then bif isD PR 34 (D.nth (List.map enD l) (Int.toNat (k - (1 : Int)))) then bif decide ((0 : Int) ≤ k ∧ k < (↑(List.length (List.map enD l)) : Int)) then bif isD PR 34 (D.nth (List.map enD l) (Int.toNat k)) then bif !Op.bytesLess (D.sVal (D.cAt (D.nth (List.map enD l) (Int.toNat (k - (1 : Int)))) 0)) (D.sVal (D.cAt (D.nth (List.map enD l) (Int.toNat k)) 0)) then post (PX.ret, S.mk 89 [(2, P.d (D.int IntKind.i64 (80 : Int)))] []) else bif decide ((-9223372036854775808 : Int) ≤ k + (1 : Int) ∧ k + (1 : Int) ≤ (9223372036854775807 : Int)) then post (PX.normal, S.mk 89 [(0, P.d (D.sl 3 (List.map enD l))), (3, P.d (D.int IntKind.i64 (k + (1 : Int))))] []) else False else False else False else False else False else False else bif decide ((-9223372036854775808 : Int) ≤ k + (1 : Int) ∧ k + (1 : Int) ≤ (9223372036854775807 : Int)) then post (PX.normal, S.mk 89 [(0, P.d (D.sl 3 (List.map enD l))), (3, P.d (D.int IntKind.i64 (k + (1 : Int))))] []) else False else False else False else False else False else False else bif decide ((0 : Int) ≤ k ∧ k ≤ (↑(List.length (List.map enD l)) : Int)) then bif decide ((0 : Int) ≤ k ∧ k < (↑(List.length (List.map enD l)) : Int)) then bif isD PR 34 (D.nth (List.map enD l) (Int.toNat k)) then ∃ (s : List UInt8), [P.d (D.str (D.sVal (D.cAt (D.nth (List.map enD l) (Int.toNat k)) 0)))] = [P.d (D.str s)] ∧ EqR [] [] ∧ List.length s ≤ 3000000 ∧ ∃ (l_2 : List En3), ∃ (p : List UInt8), [P.d (D.sl 3 (List.drop 0 (List.take (Int.toNat k) (List.map enD l)))), P.d (D.str (upP s))] = [P.d (D.sl 3 (List.map enD l_2)), P.d (D.str p)] ∧ EqR [] [] ∧ List.length l_2 ≤ 3000000 ∧ ∀ (b : Bool), b = (p == [] || dirL l_2 p) → bif !b then post (PX.ret, S.mk 89 [(2, P.d (D.int IntKind.i64 (80 : Int)))] []) else bif decide (k > (0 : Int)) then bif decide ((-9223372036854775808 : Int) ≤ k - (1 : Int) ∧ k - (1 : Int) ≤ (9223372036854775807 : Int)) then bif decide ((0 : Int) ≤ k - (1 : Int) ∧ k - (1 : Int) < (↑(List.length (List.map enD l)) : Int)) then bif isD PR 34 (D.nth (List.map enD l) (Int.toNat (k - (1 : Int)))) then bif decide ((0 : Int) ≤ k ∧ k < (↑(List.length (List.map enD l)) : Int)) then bif isD PR 34 (D.nth (List.map enD l) (Int.toNat k)) then bif !Op.bytesLess (D.sVal (D.cAt (D.nth (List.map enD l) (Int.toNat (k - (1 : Int)))) 0)) (D.sVal (D.cAt (D.nth (List.map enD l) (Int.toNat k)) 0)) then post (PX.ret, S.mk 89 [(2, P.d (D.int IntKind.i64 (80 : Int)))] []) else bif decide ((-9223372036854775808 : Int) ≤ k + (1 : Int) ∧ k + (1 : Int) ≤ (9223372036854775807 : Int)) then post (PX.normal, S.mk 89 [(0, P.d (D.sl 3 (List.map enD l))), (3, P.d (D.int IntKind.i64 (k + (1 : Int))))] []) else False else False else False else False else False else False else bif decide ((-9223372036854775808 : Int) ≤ k + (1 : Int) ∧ k + (1 : Int) ≤ (9223372036854775807 : Int)) then post (PX.normal, S.mk 89 [(0, P.d (D.sl 3 (List.map enD l))), (3, P.d (D.int IntKind.i64 (k + (1 : Int))))] []) else False else False else False else False else False else False else False else False else False else False else post (PX.exit 0, S.mk 89 [] [])) = (roundL [(23, hSplitP), (24, hLen), (25, hDir), (26, hUp)] [] 10 2 (rcH l k)) post := by kernel_rfl
theorem vcRc (l : List En3) (post : P × List (Nat × En) → Prop) : (∃ (l_1 : List En3), S.mk 89 [(0, P.d (D.sl 3 (List.map enD l))), (3, P.d (D.int IntKind.i64 (0 : Int)))] [] = S.mk 89 [(0, P.d (D.sl 3 (List.map enD l_1))), (3, P.d (D.int IntKind.i64 (0 : Int)))] [] ∧ SmE l_1 ∧ (¬ChkL l_1 → post (P.d (D.int IntKind.i64 (80 : Int)), [])) ∧ (ChkL l_1 → post (P.d (D.int IntKind.i64 (0 : Int)), []))) = (bodyF [] [(2, loopHook (kpF 10 2) gRc)] 10 [esP l] []) post := by kernel_rfl
abbrev rpH (l : List En3) (s : List UInt8) (k : Int) : S := ⟨43, [(0, esP l), (3, sD s), (5, iD k)], []⟩
def gRp : S → K (PX × S) := fun st post => ∃ l s, st = rpH l s 0 ∧ (SmX l ∧ s.length ≤ 100) ∧ ∀ t, t = s ++ l.flatMap encE → post (.exit 0, ⟨43, [(3, sD t)], []⟩)
def hSpell : KF1 := fun ps R post => ∃ l, ps = [esP l] ∧ R = [] ∧ SmX l ∧ ∀ s, s = natW l.length ++ l.flatMap encE → post (sD s, [])
def hRby : KF1 := fun ps R post => ∃ s, ps = [sD s] ∧ R = [] ∧ s.length ≤ 2000000 ∧ post (sD (natW s.length ++ s), [])
theorem vcRpN (l : List En3) (s : List UInt8) (k : Int) (post : PX × S → Prop) : (bif decide (k < (↑(List.length (List.map enD l)) : Int)) then bif decide ((0 : Int) ≤ k ∧ k < (↑(List.length (List.map enD l)) : Int)) then bif isD PR 34 (D.nth (List.map enD l) (Int.toNat k)) then ∃ (s_1 : List UInt8), [P.d (D.str (D.sVal (D.cAt (D.nth (List.map enD l) (Int.toNat k)) 0)))] = [P.d (D.str s_1)] ∧ EqR [] [] ∧ List.length s_1 ≤ 2000000 ∧ bif decide (List.length s + List.length (natW (List.length s_1) ++ s_1) ≤ 9223372036854775807) then bif decide ((0 : Int) ≤ k ∧ k < (↑(List.length (List.map enD l)) : Int)) then bif isD PR 34 (D.nth (List.map enD l) (Int.toNat k)) then bif D.bVal (D.cAt (D.nth (List.map enD l) (Int.toNat k)) 1) then bif decide (List.length (s ++ (natW (List.length s_1) ++ s_1)) + 1 ≤ 9223372036854775807) then bif decide ((-9223372036854775808 : Int) ≤ k + (1 : Int) ∧ k + (1 : Int) ≤ (9223372036854775807 : Int)) then post (PX.normal, S.mk 43 [(0, P.d (D.sl 3 (List.map enD l))), (3, P.d (D.str (s ++ (natW (List.length s_1) ++ s_1) ++ [(1 : UInt8)]))), (5, P.d (D.int IntKind.i64 (k + (1 : Int))))] []) else False else False else bif decide (List.length (s ++ (natW (List.length s_1) ++ s_1)) + 1 ≤ 9223372036854775807) then bif decide ((0 : Int) ≤ k ∧ k < (↑(List.length (List.map enD l)) : Int)) then bif isD PR 34 (D.nth (List.map enD l) (Int.toNat k)) then ∃ (s_2 : List UInt8), [P.d (D.str (D.sVal (D.cAt (D.nth (List.map enD l) (Int.toNat k)) 2)))] = [P.d (D.str s_2)] ∧ EqR [] [] ∧ List.length s_2 ≤ 2000000 ∧ bif decide (List.length (s ++ (natW (List.length s_1) ++ s_1) ++ [(0 : UInt8)]) + List.length (natW (List.length s_2) ++ s_2) ≤ 9223372036854775807) then bif decide ((-9223372036854775808 : Int) ≤ k + (1 : Int) ∧ k + (1 : Int) ≤ (9223372036854775807 : Int)) then post (PX.normal, S.mk 43 [(0, P.d (D.sl 3 (List.map enD l))), (3, P.d (D.str (s ++ (natW (List.length s_1) ++ s_1) ++ [(0 : UInt8)] ++ (natW (List.length s_2) ++ s_2)))), (5, P.d (D.int IntKind.i64 (k + (1 : Int))))] []) else False else False else False else False else False else False else False else False else False else False else post (PX.exit 0, S.mk 43 [(3, P.d (D.str s))] [])) = (roundL [(34, hBytes)] [] 19 3 (rpH l s k)) post := by kernel_rfl
theorem vcRp (l : List En3) (post : P × List (Nat × En) → Prop) : (∃ (n : Int), [P.d (D.int IntKind.i64 (↑(List.length (List.map enD l)) : Int))] = [P.d (D.int IntKind.i64 n)] ∧ EqR [] [] ∧ ((0 : Int) ≤ n ∧ n < (9223372036854775808 : Int)) ∧ ∃ (l_1 : List En3), ∃ (s : List UInt8), S.mk 43 [(0, P.d (D.sl 3 (List.map enD l))), (3, P.d (D.str (natW (Int.toNat n)))), (5, P.d (D.int IntKind.i64 (0 : Int)))] [] = S.mk 43 [(0, P.d (D.sl 3 (List.map enD l_1))), (3, P.d (D.str s)), (5, P.d (D.int IntKind.i64 (0 : Int)))] [] ∧ (SmX l_1 ∧ List.length s ≤ 100) ∧ ∀ (t : List UInt8), t = s ++ List.flatMap encE l_1 → post (P.d (D.str t), [])) = (bodyF [(33, hNat)] [(3, loopHook (kpF 19 3) gRp)] 19 [esP l] []) post := by kernel_rfl
theorem vcRe (l : List En3) (post : P × List (Nat × En) → Prop) : (∃ (l_1 : List En3), [P.d (D.sl 3 (List.map enD l))] = [P.d (D.sl 3 (List.map enD l_1))] ∧ EqR [] [] ∧ SmE l_1 ∧ ∀ (e : Int), (ChkL l_1 → e = (0 : Int)) ∧ (¬ChkL l_1 → e = (80 : Int)) → bif e != (0 : Int) then post (P.tup [P.d (D.str []), P.d (D.int IntKind.i64 e)], []) else ∃ (l_2 : List En3), [P.d (D.sl 3 (List.map enD l))] = [P.d (D.sl 3 (List.map enD l_2))] ∧ EqR [] [] ∧ SmX l_2 ∧ ∀ (s : List UInt8), s = natW (List.length l_2) ++ List.flatMap encE l_2 → post (P.tup [P.d (D.str s), P.d (D.int IntKind.i64 (0 : Int))], [])) = (bodyF [(10, hCheck), (19, hSpell)] [] 8 [esP l] []) post := by kernel_rfl
abbrev rdeH (n : Int) (s : List UInt8) (o : List En3) (i : Int) : S := ⟨79, [(4, iD n), (5, sD s), (7, .sl 0 0 o.length), (8, iD i)], [(0, ⟨0, none, .arr 34 false (o.map enD)⟩)]⟩
theorem vcRdeN (n : Int) (s : List UInt8) (o : List En3) (i : Int) (post : PX × S → Prop) : (bif decide (i < n) then ∃ (s_1 : List UInt8), [P.d (D.str s)] = [P.d (D.str s_1)] ∧ EqR [] [] ∧ List.length s_1 ≤ 2000000 ∧ ∀ (e : Int) (t r : List UInt8), takeBG s_1 = (e, t, r) → bif e != (0 : Int) then post (PX.ret, S.mk 79 [(2, P.sl 0 0 0), (3, P.d (D.int IntKind.i64 (80 : Int))), (5, P.d (D.str s)), (7, P.sl 1 0 (List.length o))] [(0, En.mk 0 none (Obj.arr 34 false [])), (1, En.mk 0 none (Obj.arr 34 false (List.map enD o)))]) else bif r == [] then post (PX.ret, S.mk 79 [(2, P.sl 0 0 0), (3, P.d (D.int IntKind.i64 (80 : Int))), (5, P.d (D.str s)), (7, P.sl 1 0 (List.length o))] [(0, En.mk 0 none (Obj.arr 34 false [])), (1, En.mk 0 none (Obj.arr 34 false (List.map enD o)))]) else bif decide ((0 : Int) ≤ (0 : Int) ∧ (0 : Int) < (↑(List.length r) : Int)) then bif decide ((↑(UInt8.toNat (List.getD r 0 (0 : UInt8))) : Int) > (1 : Int)) then post (PX.ret, S.mk 79 [(2, P.sl 0 0 0), (3, P.d (D.int IntKind.i64 (80 : Int))), (5, P.d (D.str s)), (7, P.sl 1 0 (List.length o))] [(0, En.mk 0 none (Obj.arr 34 false [])), (1, En.mk 0 none (Obj.arr 34 false (List.map enD o)))]) else bif decide ((0 : Int) ≤ (0 : Int) ∧ (0 : Int) < (↑(List.length r) : Int)) then bif decide ((0 : Int) ≤ (1 : Int) ∧ (1 : Int) ≤ (↑(List.length r) : Int)) then bif !(↑(UInt8.toNat (List.getD r 0 (0 : UInt8))) : Int) == (1 : Int) then ∃ (s : List UInt8), [P.d (D.str (List.drop 1 (List.take (List.length r) r)))] = [P.d (D.str s)] ∧ EqR [] [] ∧ List.length s ≤ 2000000 ∧ ∀ (e : Int) (t_1 r_1 : List UInt8), takeBG s = (e, t_1, r_1) → bif e != (0 : Int) then post (PX.ret, S.mk 79 [(2, P.sl 0 0 0), (3, P.d (D.int IntKind.i64 (80 : Int))), (5, P.d (D.str (List.drop 1 (List.take (List.length r) r)))), (7, P.sl 1 0 (List.length o))] [(0, En.mk 0 none (Obj.arr 34 false [])), (1, En.mk 0 none (Obj.arr 34 false (List.map enD o)))]) else bif Nat.ble (List.length o) (List.length (List.map enD o)) && roomOk (List.length o + List.length [D.agg [D.str t, D.bool ((↑(UInt8.toNat (List.getD r 0 (0 : UInt8))) : Int) == (1 : Int)), D.str t_1]]) 40 then bif decide ((-9223372036854775808 : Int) ≤ i + (1 : Int) ∧ i + (1 : Int) ≤ (9223372036854775807 : Int)) then post (PX.normal, S.mk 79 [(4, P.d (D.int IntKind.i64 n)), (5, P.d (D.str r_1)), (7, P.sl 0 0 (List.length o + List.length [D.agg [D.str t, D.bool ((↑(UInt8.toNat (List.getD r 0 (0 : UInt8))) : Int) == (1 : Int)), D.str t_1]])), (8, P.d (D.int IntKind.i64 (i + (1 : Int))))] [(0, En.mk 0 none (Obj.arr 34 false (List.take (List.length o) (List.map enD o) ++ [D.agg [D.str t, D.bool ((↑(UInt8.toNat (List.getD r 0 (0 : UInt8))) : Int) == (1 : Int)), D.str t_1]])))]) else False else False else bif Nat.ble (List.length o) (List.length (List.map enD o)) && roomOk (List.length o + List.length [D.agg [D.str t, D.bool ((↑(UInt8.toNat (List.getD r 0 (0 : UInt8))) : Int) == (1 : Int)), D.str []]]) 40 then bif decide ((-9223372036854775808 : Int) ≤ i + (1 : Int) ∧ i + (1 : Int) ≤ (9223372036854775807 : Int)) then post (PX.normal, S.mk 79 [(4, P.d (D.int IntKind.i64 n)), (5, P.d (D.str (List.drop 1 (List.take (List.length r) r)))), (7, P.sl 0 0 (List.length o + List.length [D.agg [D.str t, D.bool ((↑(UInt8.toNat (List.getD r 0 (0 : UInt8))) : Int) == (1 : Int)), D.str []]])), (8, P.d (D.int IntKind.i64 (i + (1 : Int))))] [(0, En.mk 0 none (Obj.arr 34 false (List.take (List.length o) (List.map enD o) ++ [D.agg [D.str t, D.bool ((↑(UInt8.toNat (List.getD r 0 (0 : UInt8))) : Int) == (1 : Int)), D.str []]])))]) else False else False else False else False else False else post (PX.exit 0, S.mk 79 [(5, P.d (D.str s)), (7, P.sl 0 0 (List.length o))] [(0, En.mk 0 none (Obj.arr 34 false (List.map enD o)))])) = (roundL [(30, hTakeB)] [] 12 6 (rdeH n s o i)) post := by kernel_rfl
def gRde : S → K (PX × S) := fun st post => ∃ n s, st = rdeH n s [] 0 ∧ (s.length ≤ 2000000 ∧ 0 ≤ n) ∧ (decN n.toNat s = none → ∀ (r : List UInt8) (o : List En3), post (.ret, ⟨79, [(2, .sl 0 0 0), (3, iD 80), (5, sD r), (7, .sl 1 0 o.length)], [(0, ⟨0, none, .arr 34 false []⟩), (1, ⟨0, none, .arr 34 false (o.map enD)⟩)]⟩)) ∧ ∀ (o : List En3) (r : List UInt8), decN n.toNat s = some (o, r) → post (.exit 0, ⟨79, [(5, sD r), (7, .sl 0 0 o.length)], [(0, ⟨0, none, .arr 34 false (o.map enD)⟩)]⟩)
theorem vcRde (s : List UInt8) (post : P × List (Nat × En) → Prop) : (∃ (s_1 : List UInt8), [P.d (D.str s)] = [P.d (D.str s_1)] ∧ EqR [] [] ∧ List.length s_1 ≤ 2000000 ∧ ∀ (e : Int) (n : Nat) (r : List UInt8), takeG 0 s_1 = (e, n, r) → bif e != (0 : Int) then post (P.tup [P.sl 0 0 0, P.d (D.int IntKind.i64 (80 : Int))], [(0, En.mk 0 none (Obj.arr 34 false []))]) else ∃ (n_1 : Int), ∃ (s : List UInt8), S.mk 79 [(4, P.d (D.int IntKind.i64 (↑n : Int))), (5, P.d (D.str r)), (7, P.sl 0 0 0), (8, P.d (D.int IntKind.i64 (0 : Int)))] [(0, En.mk 0 none (Obj.arr 34 false []))] = S.mk 79 [(4, P.d (D.int IntKind.i64 n_1)), (5, P.d (D.str s)), (7, P.sl 0 0 0), (8, P.d (D.int IntKind.i64 (0 : Int)))] [(0, En.mk 0 none (Obj.arr 34 false []))] ∧ (List.length s ≤ 2000000 ∧ (0 : Int) ≤ n_1) ∧ (decN (Int.toNat n_1) s = none → ∀ (r : List UInt8) (o : List En3), post (P.tup [P.sl 0 0 0, P.d (D.int IntKind.i64 (80 : Int))], [(0, En.mk 0 none (Obj.arr 34 false []))])) ∧ ∀ (o : List En3) (r : List UInt8), decN (Int.toNat n_1) s = some (o, r) → bif !r == [] then post (P.tup [P.sl 0 0 0, P.d (D.int IntKind.i64 (80 : Int))], [(0, En.mk 0 none (Obj.arr 34 false []))]) else ∃ (l : List En3), [P.d (D.sl 3 (List.take (List.length o) (List.map enD o)))] = [P.d (D.sl 3 (List.map enD l))] ∧ EqR [] [] ∧ SmE l ∧ ∀ (e : Int), (ChkL l → e = (0 : Int)) ∧ (¬ChkL l → e = (80 : Int)) → bif e != (0 : Int) then post (P.tup [P.sl 0 0 0, P.d (D.int IntKind.i64 (80 : Int))], [(0, En.mk 0 none (Obj.arr 34 false []))]) else post (P.tup [P.sl 0 0 (List.length o), P.d (D.int IntKind.i64 (0 : Int))], [(0, En.mk 0 none (Obj.arr 34 true (List.map enD o)))])) = (bodyF [(29, hTake), (10, hCheck)] [(6, loopHook (kpF 12 6) gRde)] 12 [sD s] []) post := by kernel_rfl
end Pi

/- Archive: the reference: numbers, texts. -/
namespace Pi
open Go Go.Proofs
set_option maxRecDepth 100000
theorem tmod_byte {n : Int} (h0 : 0 ≤ n) : D.int .u8 (IntKind.wrap .u8 ((128 : Int) + Int.tmod n (128 : Int))) = bD (UInt8.ofNat (n.toNat % 128 + 128)) := by
  rw [wrap_u8, Int.tmod_eq_emod_of_nonneg h0]
  simp only [bD, D.int.injEq, true_and]
  simp only [UInt8.toNat_ofNat']
  omega
theorem tdiv_nat {n : Int} (h0 : 0 ≤ n) : Int.tdiv n (128 : Int) = ((n.toNat / 128 : Nat) : Int) := by
  rw [Int.tdiv_eq_ediv_of_nonneg h0]
  omega
section
variable {X : XF}
theorem loopRn : LD X 33 4 (loopHook (kpF 33 4) gRn) := LD.par (H := []) (hk := []) (by kernel_rfl) (by kernel_rfl) .nil .nil
  (A := Int) (B := List UInt8 × Int) (fun _ b => rnH b.2 b.1)
  (fun a b => (0 ≤ a ∧ a < 9223372036854775808) ∧ 0 ≤ b.2 ∧ b.1 ++ natW b.2.toNat = natW a.toNat)
  (fun _ b => b.2.toNat)
  (fun a x => ∃ c m, x = (.exit 0, rnH m c) ∧ m < 128 ∧ 0 ≤ m ∧ c ++ natW m.toNat = natW a.toNat)
  (by
    rintro a ⟨c, m⟩ ⟨ha, h0, he⟩
    dsimp only at *
    have hlen := congrArg List.length he
    have h9 := natW9 (n := a.toNat) (by omega)
    have hp := natW_pos m.toNat
    rw [List.length_append] at hlen
    rw [← vcRnN, tmod_byte h0, tdiv_nat h0]
    have hm : Int.tmod m (128 : Int) = m % 128 := Int.tmod_eq_emod_of_nonneg h0
    refine condP (fun h => ?_) fun h => ⟨c, m, rfl, by omega, h0, he⟩
    refine oblP (by rw [hm]; omega) (oblI (roomI (by simp; omega) (by simp; omega) _ (by simp)) (oblP (by
      have h1 : c ++ natW m.toNat = natW a.toNat := he
      have h2 := natW_len
      have : m.toNat < 128 ^ 9 ∨ 128 ^ 9 ≤ m.toNat := Nat.lt_or_ge _ _
      have hm9 : m.toNat / 128 < 9223372036854775808 := by
        refine Classical.byContradiction fun hc => ?_
        have : ∀ k n, 128 ^ k ≤ n → k < (natW n).length := by
          intro k
          induction k with
          | zero => intro n _; exact natW_pos n
          | succ k ih =>
            intro n hn
            have h128 : 128 ≤ n := Nat.le_trans (by rw [Nat.pow_succ]; exact Nat.le_mul_of_pos_left _ (Nat.pow_pos (by decide))) hn
            rw [natW_ge (by omega)]
            have := ih (n / 128) (by rw [Nat.pow_succ] at hn; exact (Nat.le_div_iff_mul_le (by decide)).2 hn)
            simp only [List.length_cons]
            omega
        have := this 9 m.toNat (by rw [show 128 ^ 9 = 9223372036854775808 from rfl]; omega)
        omega
      omega) ?_))
    refine ⟨_, ?_, (c ++ [UInt8.ofNat (m.toNat % 128 + 128)], ((m.toNat / 128 : Nat) : Int)), ?_, ⟨ha, by dsimp only; omega, ?_⟩, rfl⟩
    · dsimp only; omega
    · rw [List.take_of_length_le (by simp)]
      simp only [rnH, u8R, List.map_append, List.map_cons, List.map_nil, List.length_append, List.length_cons, List.length_nil]
    · dsimp only
      rw [← he, natW_ge (n := m.toNat) (by omega), List.append_assoc]
      rfl)
  (by
    rintro s post ⟨n, rfl, hn, h2⟩
    refine ⟨n, ([], n), rfl, ⟨hn, hn.1, rfl⟩, ?_⟩
    rintro x ⟨c, m, rfl, h3, h4, h5⟩
    rw [natW_lt (n := m.toNat) (by omega)] at h5
    have h9 := natW9 (n := n.toNat) (by omega)
    have hl := congrArg List.length h5
    simp at hl
    exact h2 c m h3 h4 h5 (by omega))
theorem okNatR : FD X 33 hNat := FD.mk (H := []) (hk := [(4, loopHook (kpF 33 4) gRn)]) (by kernel_rfl) .nil (.cons loopRn .nil) (by
  intro ps R post hh
  obtain ⟨n, rfl, rfl, hn, hp⟩ := hh
  rw [← vcRn]
  refine condP (fun h => by omega) fun _ => ⟨n, rfl, hn, fun c m h1 h2 h3 h4 => ?_⟩
  rw [small_byte h2 h1, List.take_of_length_le (l := List.map bD c) (by simp)]
  have e : List.map bD c ++ [bD (UInt8.ofNat m.toNat)] = List.map bD (natW n.toNat) := by rw [← h3]; simp
  have hl : List.length c + List.length [bD (UInt8.ofNat m.toNat)] = (natW n.toNat).length := by rw [← h3]; simp
  rw [e, hl]
  obtain ⟨b1, b2⟩ := bytes_row (natW n.toNat) rfl
  rw [b1, b2]
  have h9 := natW9 (n := n.toNat) (by omega)
  have := natW_pos n.toNat
  refine oblI ?_ hp
  have : (natW n.toNat).length = c.length + 1 := by rw [← h3]; simp
  rw [this, show c.length + 1 = c.length + [bD 0].length from rfl]
  exact roomI (by simp; omega) (by simp; omega) _ (by simp))
theorem okBytesR : FD X 34 hBytes := FD.mk (H := [(33, hNat)]) (hk := []) (by kernel_rfl) (.cons okNatR .nil) .nil (by
  intro ps R post hh
  obtain ⟨s, rfl, rfl, hs, hp⟩ := hh
  rw [← vcRby]
  refine ⟨_, rfl, rfl, ⟨by omega, by omega⟩, oblP ?_ hp⟩
  have := natW9 (n := s.length) (by omega)
  rw [show ((s.length : Int)).toNat = s.length from rfl]
  omega)
theorem loopRt : LD X 29 4 (loopHook (kpF 29 4) gRt) := LD.par (H := []) (hk := []) (by kernel_rfl) (by kernel_rfl) .nil .nil
  (A := List UInt8) (B := Nat × Int) (fun s b => rtH s b.1 ((2 ^ (7 * b.2.toNat) : Nat) : Int) b.2)
  (fun s b => s.length ≤ 2000000 ∧ (0 ≤ b.2 ∧ b.2 ≤ 8 ∧ b.2.toNat ≤ s.length) ∧ b.1 < 2 ^ (7 * b.2.toNat) ∧ takeG 0 s = comb b.1 (7 * b.2.toNat) (takeG b.2.toNat (s.drop b.2.toNat)))
  (fun s b => (s.length - b.2).toNat)
  (fun s x => (takeG 0 s = (10, 0, []) ∧ x = (.exit 0, ⟨46, [], []⟩)) ∨ ∃ (e : Int) (n : Nat) (r : List UInt8), takeG 0 s = (e, n, r) ∧ x = (.ret, ⟨46, [(2, iD n), (3, sD r), (4, iD e)], []⟩))
  (by
    rintro s ⟨n, i⟩ ⟨hl, ⟨hi0, hi8, hil⟩, hn1, he⟩
    dsimp only at *
    rw [← vcRtN]
    refine condP (fun h => ?_) fun h => ?_
    · have hlt : i.toNat < s.length := by omega
      have hb := (s.getD i.toNat 0).toNat_lt
      have hdr := drop_getD hlt
      have hp := pow7 (i := i.toNat) (by omega)
      generalize (s.getD i.toNat 0) = b at hb hdr
      have hmod : Int.tmod (b.toNat : Int) (128 : Int) = ((b.toNat % 128 : Nat) : Int) := by rw [Int.tmod_eq_emod_of_nonneg (by omega)]; omega
      have hm : b.toNat % 128 * 2 ^ (7 * i.toNat) ≤ 127 * 2 ^ (7 * i.toNat) := Nat.mul_le_mul_right _ (by omega)
      have hmul : Int.tmod (b.toNat : Int) (128 : Int) * ((2 ^ (7 * i.toNat) : Nat) : Int) = ((b.toNat % 128 * 2 ^ (7 * i.toNat) : Nat) : Int) := by rw [hmod]; simp
      have hinc : (i + 1).toNat = i.toNat + 1 := by omega
      rw [hmul, hinc]
      have done : b.toNat < 128 → ¬ (b.toNat = 0 ∧ 0 < i.toNat) → takeG 0 s = (0, n + b.toNat % 128 * 2 ^ (7 * i.toNat), s.drop (i.toNat + 1)) := fun h1 h2 => by
        rw [he, hdr]
        simp only [takeG]
        rw [if_pos h1, if_neg h2, Nat.mod_eq_of_lt h1]
        simp only [comb, if_true, Nat.mul_comm]
      have zero : b.toNat < 128 → b.toNat = 0 → 0 < i.toNat → takeG 0 s = (11, 0, []) := fun h1 h2 h3 => by
        rw [he, hdr]
        simp only [takeG]
        rw [if_pos h1, if_pos ⟨h2, h3⟩]
        rfl
      refine oblP ⟨hi0, by omega⟩ (oblP (by omega) ?_)
      refine condE (fun h8 => condP (fun h9 => .inr ⟨11, 0, [], ?_, rfl⟩) fun h9 => ?_) fun h8 => ?_
      · rw [he, hdr]
        simp only [takeG]
        rw [if_neg (by omega), if_pos (by omega)]
        rfl
      all_goals
        refine oblP (by omega) (oblP (by omega) (condP (fun ha => condE (fun hb0 => condP (fun hc => .inr ⟨11, 0, [], zero (by omega) (by omega) (by omega), rfl⟩) fun hc => oblI (incI (by omega) (by omega)) (oblP (by omega) ?_)) fun hb0 => oblI (incI (by omega) (by omega)) (oblP (by omega) ?_)) fun ha => ?_))
      · exact .inr ⟨0, _, _, done (by omega) (by omega), by rw [List.take_length]; rfl⟩
      · exact .inr ⟨0, _, _, done (by omega) (by omega), by rw [List.take_length]; rfl⟩
      · exfalso; omega
      · exact .inr ⟨0, _, _, done (by omega) (by omega), by rw [List.take_length]; rfl⟩
      · exact .inr ⟨0, _, _, done (by omega) (by omega), by rw [List.take_length]; rfl⟩
      · have hp3 : 2 ^ (7 * i.toNat) ≤ 2 ^ 49 := Nat.pow_le_pow_right (by omega) (by omega)
        have : (2 : Nat) ^ 49 = 562949953421312 := rfl
        refine oblP (by omega) (oblI (incI (by omega) (by omega)) ?_)
        have go : ¬ b.toNat < 128 → i.toNat < 8 → ∃ m, m < (s.length - i).toNat ∧ ∃ b' : Nat × Int, rtH s (((n + b.toNat % 128 * 2 ^ (7 * i.toNat) : Nat) : Int)) (((2 ^ (7 * i.toNat) : Nat) : Int) * 128) (i + 1) = rtH s b'.1 ((2 ^ (7 * b'.2.toNat) : Nat) : Int) b'.2 ∧ (s.length ≤ 2000000 ∧ (0 ≤ b'.2 ∧ b'.2 ≤ 8 ∧ b'.2.toNat ≤ s.length) ∧ b'.1 < 2 ^ (7 * b'.2.toNat) ∧ takeG 0 s = comb b'.1 (7 * b'.2.toNat) (takeG b'.2.toNat (s.drop b'.2.toNat))) ∧ m = (s.length - b'.2).toNat := fun h1 h2 => by
          have hp2 : 2 ^ (7 * (i.toNat + 1)) = 128 * 2 ^ (7 * i.toNat) := by rw [show 7 * (i.toNat + 1) = 7 * i.toNat + 7 by omega, Nat.pow_add]; omega
          refine ⟨_, ?_, (n + b.toNat % 128 * 2 ^ (7 * i.toNat), i + 1), ?_, ⟨hl, ⟨by dsimp only; omega, by dsimp only; omega, by dsimp only; omega⟩, ?_, ?_⟩, rfl⟩
          · dsimp only; omega
          · dsimp only
            rw [hinc, hp2]
            have : (((2 ^ (7 * i.toNat) : Nat) : Int) * 128) = ((128 * 2 ^ (7 * i.toNat) : Nat) : Int) := by simp [Int.mul_comm]
            rw [this]
          · dsimp only
            rw [hinc, hp2]
            omega
          · dsimp only
            rw [he, hinc, hdr]
            conv => lhs; unfold takeG
            rw [if_neg h1, if_neg (by omega)]
            have emod : b.toNat % 128 = b.toNat - 128 := by omega
            rw [emod]
            by_cases hz : (takeG (i.toNat + 1) (s.drop (i.toNat + 1))).1 = 0
            · rw [if_pos hz]
              unfold comb
              rw [if_pos rfl, if_pos hz, hp2]
              simp only [Prod.mk.injEq, true_and, and_true]
              rw [Nat.mul_add, Nat.add_assoc, Nat.mul_comm (2 ^ (7 * i.toNat)) (b.toNat - 128), ← Nat.mul_assoc, Nat.mul_comm (2 ^ (7 * i.toNat)) 128]
            · rw [if_neg hz, comb_err hz, comb_err hz]
        exact go (by omega) (by omega)
    · refine .inl ⟨?_, rfl⟩
      have e : i.toNat = s.length := by omega
      rw [he, e, List.drop_length]
      rfl)
  (by
    rintro st post ⟨s, rfl, hl, h1, h2⟩
    refine ⟨s, (0, 0), rfl, ⟨hl, ⟨by decide, by decide, by simp⟩, by simp, ?_⟩, ?_⟩
    · simp only [Int.toNat_zero, List.drop_zero, comb]
      split
      · rename_i h
        have : takeG 0 s = (0, (takeG 0 s).2.1, (takeG 0 s).2.2) := by rw [← h]
        rw [this]
        simp
      · rfl
    · rintro x (⟨h3, rfl⟩ | ⟨e, n, r, h3, rfl⟩)
      · exact h1 h3
      · exact h2 e n r h3)
theorem okTakeR : FD X 29 hTake := FD.mk (H := []) (hk := [(4, loopHook (kpF 29 4) gRt)]) (by kernel_rfl) .nil (.cons loopRt .nil) (by
  intro ps R post hh
  obtain ⟨s, rfl, rfl, hs, hp⟩ := hh
  rw [← vcRt]
  exact ⟨s, rfl, hs, fun h => hp 10 0 [] h, fun e n r h => hp e n r h⟩)
theorem okTakeBR : FD X 30 hTakeB := FD.mk (H := [(29, hTake)]) (hk := []) (by kernel_rfl) (.cons okTakeR .nil) .nil (by
  intro ps R post hh
  obtain ⟨s, rfl, rfl, hs, hp⟩ := hh
  rw [← vcRtb]
  refine ⟨s, rfl, rfl, hs, fun e n r he => condN (fun h => ?_) fun h => condP (fun h2 => ?_) fun h2 => ?_⟩
  · exact hp _ _ _ (by unfold takeBG; rw [if_pos (by rw [he]; exact h)]; rw [he])
  · exact hp _ _ _ (by unfold takeBG; rw [if_neg (by rw [he]; simpa using h), if_pos (by rw [he]; dsimp only; omega)])
  · refine oblP (by omega) (oblP (by omega) ?_)
    rw [List.drop_zero, List.take_length]
    exact hp _ _ _ (by unfold takeBG; rw [if_neg (by rw [he]; simpa using h), if_neg (by rw [he]; dsimp only; omega), he]))
end
end Pi

/- Archive: the reference: code points, directories. -/
namespace Pi
open Go Go.Proofs
set_option maxRecDepth 100000
set_option maxHeartbeats 0
/-- A code point at the head of bytes, by the bytes. -/
def decB (n b0 b1 b2 b3 : Nat) : Nat × Nat :=
  if b0 < 128 then (b0, 1) else
  if b0 / 32 = 6 ∧ 1 < n ∧ b1 / 64 = 2 then (if 128 ≤ (b0 % 32) * 64 + b1 % 64 then ((b0 % 32) * 64 + b1 % 64, 2) else (65533, 1)) else
  if b0 / 16 = 14 ∧ (1 < n ∧ b1 / 64 = 2) ∧ 2 < n ∧ b2 / 64 = 2 then (if 2048 ≤ (b0 % 16) * 4096 + (b1 % 64) * 64 + b2 % 64 ∧ ((b0 % 16) * 4096 + (b1 % 64) * 64 + b2 % 64 < 55296 ∨ 57344 ≤ (b0 % 16) * 4096 + (b1 % 64) * 64 + b2 % 64 ∧ (b0 % 16) * 4096 + (b1 % 64) * 64 + b2 % 64 ≤ 1114111) then ((b0 % 16) * 4096 + (b1 % 64) * 64 + b2 % 64, 3) else (65533, 1)) else
  if b0 / 8 = 30 ∧ (1 < n ∧ b1 / 64 = 2) ∧ (2 < n ∧ b2 / 64 = 2) ∧ 3 < n ∧ b3 / 64 = 2 then (if 65536 ≤ (b0 % 8) * 262144 + (b1 % 64) * 4096 + (b2 % 64) * 64 + b3 % 64 ∧ ((b0 % 8) * 262144 + (b1 % 64) * 4096 + (b2 % 64) * 64 + b3 % 64 < 55296 ∨ 57344 ≤ (b0 % 8) * 262144 + (b1 % 64) * 4096 + (b2 % 64) * 64 + b3 % 64 ∧ (b0 % 8) * 262144 + (b1 % 64) * 4096 + (b2 % 64) * 64 + b3 % 64 ≤ 1114111) then ((b0 % 8) * 262144 + (b1 % 64) * 4096 + (b2 % 64) * 64 + b3 % 64, 4) else (65533, 1)) else (65533, 1)
theorem get_list (s : List UInt8) (k : Nat) : (ByteArray.mk s.toArray).get! k = s.getD k 0 := by
  show s.toArray.getD k 0 = _
  simp [Array.getD, List.getD_eq_getElem?_getD]
  split
  · rename_i h; simp [h]
  · rename_i h; simp [List.getElem?_eq_none (by omega : s.length ≤ k)]
theorem decodeL_B (s : List UInt8) : Lib.decodeL s = decB s.length (s.getD 0 0).toNat (s.getD 1 0).toNat (s.getD 2 0).toNat (s.getD 3 0).toNat := by
  have hs : (ByteArray.mk s.toArray).size = s.length := rfl
  have hv : ∀ c : Nat, Utf8.valid (c : Int) = decide (c < 55296 ∨ 57344 ≤ c ∧ c ≤ 1114111) := fun c => by
    unfold Utf8.valid
    rw [Bool.eq_iff_iff]
    simp only [Bool.or_eq_true, Bool.and_eq_true, decide_eq_true_eq]
    omega
  unfold Lib.decodeL Utf8.decode decB
  simp only [get_list, Nat.zero_add, hs, hv, Bool.and_eq_true, beq_iff_eq, decide_eq_true_eq, ge_iff_le, Utf8.runeError, and_assoc]
section
variable {X : XF}
theorem okFirst : FD X 55 hFirst := FD.mk (H := []) (hk := []) (by kernel_rfl) .nil .nil (by
  intro ps R post hh
  obtain ⟨s, rfl, rfl, ⟨hne, hs⟩, h1, h2⟩ := hh
  rw [← vcFirst]
  have hpos : 0 < s.length := List.length_pos_iff.2 hne
  unfold badH at h1 h2
  rw [decodeL_B] at h1 h2
  have hb0 := (s.getD 0 0).toNat_lt
  have hb1 := (s.getD 1 0).toNat_lt
  have hb2 := (s.getD 2 0).toNat_lt
  have hb3 := (s.getD 3 0).toNat_lt
  generalize (s.getD 0 0).toNat = b0 at hb0 h1 h2
  generalize (s.getD 1 0).toNat = b1 at hb1 h1 h2
  generalize (s.getD 2 0).toNat = b2 at hb2 h1 h2
  generalize (s.getD 3 0).toNat = b3 at hb3 h1 h2
  generalize s.length = n at hpos hs h1 h2
  have bad : decB n b0 b1 b2 b3 = (65533, 1) → post (.tup [iD 0, iD 0, bD' false], []) := fun h => h1 (by rw [h]; exact ⟨rfl, rfl⟩) 0 0
  have good1 : b0 < 128 → ∀ c, post (.tup [iD c, iD 1, bD' true], []) := fun h c => by
    have e : decB n b0 b1 b2 b3 = (b0, 1) := by unfold decB; rw [if_pos h]
    rw [e] at h2
    exact h2 (fun h => by have := h.1; simp only at this; omega) c 1 rfl (by omega) (by omega)
  have good : ∀ c (k : Int), (decB n b0 b1 b2 b3).2 = k.toNat → 2 ≤ k → k.toNat ≤ n → post (.tup [iD c, iD k, bD' true], []) := fun c k h3 h4 h5 => h2 (fun h => by rw [h3] at h; omega) c k (by omega) (by omega) h5
  clear h1 h2
  repeat' (first | refine oblP (by omega) ?_ | refine condP (fun h => ?_) (fun h => ?_))
  all_goals first
    | (refine bad ?_; unfold decB; (repeat' split); all_goals first | rfl | (exfalso; omega))
    | exact good1 (by omega) _
    | (refine good _ _ ?_ (by omega) (by omega); unfold decB; (repeat' split); all_goals first | rfl | (exfalso; omega)))
end
end Pi

/- Archive: the reference: texts of code points, directories. -/
namespace Pi
open Go Go.Proofs
set_option maxRecDepth 100000
section
variable {X : XF}
theorem loopRs : LD X 43 2 (loopHook (kpF 43 2) gRs) := LD.par (H := [(55, hFirst)]) (hk := []) (by kernel_rfl) (by kernel_rfl) (.cons okFirst .nil) .nil
  (A := List UInt8) (B := List UInt8 × List (List UInt8)) (fun _ b => rsH b.1 b.2)
  (fun a b => a.length ≤ 2000000 ∧ b.1.length + b.2.length ≤ a.length ∧ Lib.validD b.1 = Lib.validD a)
  (fun _ b => b.1.length)
  (fun a x => (Lib.validD a = false ∧ ∃ o : List (List UInt8), x = (.ret, ⟨29, [(2, .sl 0 0 0), (3, iD 60), (4, .sl 1 0 o.length)], [(0, ⟨0, none, .arr 9 false []⟩), (1, ⟨0, none, .arr 9 false (o.map D.str)⟩)]⟩)) ∨ (Lib.validD a = true ∧ ∃ o : List (List UInt8), x = (.exit 0, ⟨29, [(4, .sl 0 0 o.length)], [(0, ⟨0, none, .arr 9 false (o.map D.str)⟩)]⟩)))
  (by
    rintro a ⟨s, o⟩ ⟨ha, hl, hv⟩
    dsimp only at *
    rw [← vcRsN]
    refine condP (fun h => ?_) fun h => ?_
    · have hne : s ≠ [] := fun e => by subst e; simp at h
      have hst := Lib.validD_step s hne
      refine ⟨s, rfl, rfl, ⟨hne, by omega⟩, fun hb c n => .inl ⟨?_, o, rfl⟩, fun hb c n hn h1 hle => ?_⟩
      · unfold badH at hb
        rw [← hv, hst, if_pos hb]
      · unfold badH at hb
        rw [if_neg hb] at hst
        refine oblP (by omega) (oblI (roomI (by simp; omega) (by simp; omega) _ (by simp)) (oblP (by omega) ?_))
        refine ⟨_, ?_, (s.drop n.toNat, o ++ [s.take n.toNat]), ?_, ⟨ha, ?_, ?_⟩, rfl⟩
        · dsimp only
          rw [List.length_drop]; omega
        · rw [List.take_length, List.take_of_length_le (l := List.map D.str o) (by simp), List.drop_zero]
          simp only [rsH, List.map_append, List.map_cons, List.map_nil, List.length_append, List.length_cons, List.length_nil]
        · dsimp only
          rw [List.length_drop, List.length_append]; simp; omega
        · dsimp only
          rw [← hv, hst, hn]
          rfl
    · have : s = [] := List.eq_nil_of_length_eq_zero (by omega)
      subst this
      exact .inr ⟨hv.symm.trans Lib.validD_nil, o, rfl⟩)
  (by
    rintro st post ⟨s, rfl, hs, h1, h2⟩
    refine ⟨s, (s, []), rfl, ⟨hs, by simp, rfl⟩, ?_⟩
    rintro x (⟨h3, o, rfl⟩ | ⟨h3, o, rfl⟩)
    · exact h1 h3 o
    · exact h2 h3 o)
theorem okSplitRf : FD X 43 hSplitRf := FD.mk (H := []) (hk := [(2, loopHook (kpF 43 2) gRs)]) (by kernel_rfl) .nil (.cons loopRs .nil) (by
  intro ps R post hh
  obtain ⟨s, rfl, rfl, hs, h1, h2⟩ := hh
  rw [← vcRs]
  exact ⟨s, rfl, hs, fun h o => h1 h, fun h o => h2 h o⟩)
theorem okLenR : FD X 24 hLen := FD.mk (H := [(43, hSplitRf)]) (hk := []) (by kernel_rfl) (.cons okSplitRf .nil) .nil (by
  intro ps R post hh
  obtain ⟨s, rfl, rfl, hs, hp⟩ := hh
  rw [← vcRl]
  refine ⟨s, rfl, rfl, hs, fun h => hp _ _ ?_, fun h o => hp _ _ ?_⟩
  · rw [if_neg (by simp [h])]
  · rw [if_pos h])
theorem loopRd : LD X 25 4 (loopHook (kpF 25 4) gRd) := LD.par (H := []) (hk := []) (by kernel_rfl) (by kernel_rfl) .nil .nil
  (A := List En3 × List UInt8) (B := Int) (fun a k => rdH a.1 a.2 k)
  (fun a k => a.1.length ≤ 3000000 ∧ (0 ≤ k ∧ k.toNat ≤ a.1.length) ∧ dirL (a.1.take k.toNat) a.2 = false)
  (fun a k => (a.1.length - k).toNat)
  (fun a x => (dirL a.1 a.2 = true ∧ x = (.ret, ⟨28, [(4, bD' true)], []⟩)) ∨ (dirL a.1 a.2 = false ∧ x = (.exit 0, ⟨28, [], []⟩)))
  (by
    rintro ⟨l, p⟩ k ⟨hm, ⟨h0, h1⟩, ht⟩
    dsimp only at *
    rw [← vcRdN]
    simp only [List.length_map]
    refine condP (fun h => ?_) fun h => ?_
    · have hk : k.toNat < l.length := by omega
      rw [en_nth hk]
      have hmem : l.getD k.toNat ([], false, []) ∈ l := by simp [List.getD_eq_getElem?_getD, hk]
      have htk : l.take (k.toNat + 1) = l.take k.toNat ++ [l.getD k.toNat ([], false, [])] := by
        rw [List.take_add_one, List.getElem?_eq_getElem hk]
        simp [List.getD_eq_getElem?_getD, hk]
      generalize l.getD k.toNat ([], false, []) = e at hmem htk
      have v0 : D.sVal (D.cAt (enD e) 0) = e.1 := rfl
      have v1 : D.bVal (D.cAt (enD e) 1) = e.2.1 := rfl
      rw [v0, v1]
      have step : (e.2.1 && e.1 == p) = false → ∃ m, m < (l.length - k).toNat ∧ ∃ b' : Int, rdH l p (k + 1) = rdH l p b' ∧ (l.length ≤ 3000000 ∧ (0 ≤ b' ∧ b'.toNat ≤ l.length) ∧ dirL (l.take b'.toNat) p = false) ∧ m = (l.length - b').toNat := fun h2 => by
        refine ⟨_, ?_, k + 1, rfl, ⟨hm, ⟨by omega, by omega⟩, ?_⟩, rfl⟩
        · omega
        · rw [show (k + 1).toNat = k.toNat + 1 by omega, htk]
          unfold dirL at ht ⊢
          rw [List.any_append, ht]
          simp only [List.any_cons, List.any_nil, Bool.or_false, Bool.false_or]
          exact h2
      refine oblP ⟨h0, by omega⟩ (oblI (isDe _) (condI (fun h2 => oblP ⟨h0, by omega⟩ (oblI (isDe _) (condI (fun h3 => ?_) fun h3 => oblI (incI (by omega) (by omega)) (step (by rw [h3]; rfl))))) fun h2 => oblI (incI (by omega) (by omega)) (step (by rw [h2]; simp))))
      refine .inl ⟨?_, rfl⟩
      unfold dirL
      rw [List.any_eq_true]
      exact ⟨e, hmem, by rw [h2, h3]; rfl⟩
    · refine .inr ⟨?_, rfl⟩
      rw [List.take_of_length_le (by omega)] at ht
      exact ht)
  (by
    rintro st post ⟨l, p, rfl, hm, h1, h2⟩
    refine ⟨(l, p), 0, rfl, ⟨hm, ⟨by decide, by simp⟩, rfl⟩, ?_⟩
    rintro x (⟨h3, rfl⟩ | ⟨h3, rfl⟩)
    · exact h1 h3
    · exact h2 h3)
theorem okDirR : FD X 25 hDir := FD.mk (H := []) (hk := [(4, loopHook (kpF 25 4) gRd)]) (by kernel_rfl) .nil (.cons loopRd .nil) (by
  intro ps R post hh
  obtain ⟨l, p, rfl, rfl, hm, hp⟩ := hh
  rw [← vcRd]
  refine condI (fun h => hp _ (by rw [h]; rfl)) fun h => ⟨l, p, rfl, hm, fun h2 => hp _ (by rw [h, h2]; rfl), fun h2 => hp _ (by rw [h, h2]; rfl)⟩)
theorem occ47 (s : List UInt8) (i : Nat) : Lib.occAt s [47] i = true ↔ s[i]? = some 47 := by
  unfold Lib.occAt
  by_cases h : i < s.length
  · rw [List.drop_eq_getElem_cons h, List.getElem?_eq_getElem h]
    show ((47 : UInt8) == s[i] && List.isPrefixOf [] (s.drop (i + 1))) = true ↔ _
    rw [show List.isPrefixOf [] (s.drop (i + 1)) = true by cases s.drop (i + 1) <;> rfl]
    simp only [Bool.and_true, beq_iff_eq, Option.some.injEq]
    exact ⟨Eq.symm, Eq.symm⟩
  · rw [List.drop_eq_nil_of_le (by omega), List.getElem?_eq_none (by omega)]
    exact ⟨(fun h => by cases h), (fun h => by cases h)⟩
theorem last47 (s : List UInt8) (k : Nat) (h1 : ∀ j, j < s.length → s[j]? = some 47 → j ≤ k) (h2 : k = 0 ∨ s[k]? = some 47) : k = (max 0 (Lib.lastIndex s [47])).toNat := by
  unfold Lib.lastIndex
  split
  · rename_i hl
    simp only [List.length_singleton] at hl
    rw [List.length_singleton, show s.length - 1 + 1 = s.length by omega]
    rcases Lib.lastOcc_spec s [47] s.length with ⟨e, h⟩ | ⟨i, hi, e, ho, h⟩
    · rw [e]
      rcases h2 with h2 | h2
      · omega
      · have hk : k < s.length := (List.getElem?_eq_some_iff.1 h2).1
        have := h k hk
        rw [(occ47 s k).2 h2] at this
        cases this
    · rw [e]
      have := h1 i hi ((occ47 s i).1 ho)
      rcases h2 with h2 | h2
      · omega
      · have hk : k < s.length := (List.getElem?_eq_some_iff.1 h2).1
        have : ¬ i < k := fun hlt => by
          have := h k hlt hk
          rw [(occ47 s k).2 h2] at this
          cases this
        omega
  · rename_i hl
    simp only [List.length_singleton] at hl
    rcases h2 with h2 | h2
    · omega
    · have hk : k < s.length := (List.getElem?_eq_some_iff.1 h2).1
      omega
theorem loopRu : LD X 26 3 (loopHook (kpF 26 3) gRu) := LD.par (H := []) (hk := []) (by kernel_rfl) (by kernel_rfl) .nil .nil
  (A := List UInt8) (B := Int × Int) (fun s b => ruH s b.1 b.2)
  (fun s b => s.length ≤ 3000000 ∧ (0 ≤ b.1 ∧ 0 ≤ b.2 ∧ b.2.toNat ≤ s.length ∧ b.1 ≤ b.2) ∧ (∀ j, j < b.2.toNat → s[j]? = some 47 → j ≤ b.1.toNat) ∧ (b.1 = 0 ∨ s[b.1.toNat]? = some 47))
  (fun s b => (s.length - b.2).toNat)
  (fun s x => ∃ k : Int, (0 ≤ k ∧ k ≤ s.length) ∧ k.toNat = (max 0 (Lib.lastIndex s [47])).toNat ∧ x = (.exit 0, ⟨19, [(0, sD s), (3, iD k)], []⟩))
  (by
    rintro s ⟨k, i⟩ ⟨hm, ⟨hk0, hi0, hil, hki⟩, h1, h2⟩
    dsimp only at *
    rw [← vcRuN]
    refine condP (fun h => ?_) fun h => ?_
    · have hlt : i.toNat < s.length := by omega
      have hg : s[i.toNat]? = some (s.getD i.toNat 0) := by simp [List.getD_eq_getElem?_getD, hlt]
      refine oblP ⟨hi0, by omega⟩ (condE (fun h3 => oblI (incI (by omega) (by omega)) ?_) fun h3 => oblI (incI (by omega) (by omega)) ?_)
      · have e47 : s.getD i.toNat 0 = 47 := by
          apply UInt8.toNat_inj.1
          have : (47 : UInt8).toNat = 47 := rfl
          omega
        refine ⟨_, ?_, (i, i + 1), rfl, ⟨hm, ⟨by dsimp only; omega, by dsimp only; omega, by dsimp only; omega, by dsimp only; omega⟩, fun j hj _ => ?_, .inr ?_⟩, rfl⟩
        · dsimp only; omega
        · dsimp only at hj ⊢; omega
        · dsimp only; rw [hg, e47]
      · refine ⟨_, ?_, (k, i + 1), rfl, ⟨hm, ⟨by dsimp only; omega, by dsimp only; omega, by dsimp only; omega, by dsimp only; omega⟩, fun j hj hjs => ?_, h2⟩, rfl⟩
        · dsimp only; omega
        · dsimp only at hj ⊢
          by_cases hji : j = i.toNat
          · subst hji
            rw [hg] at hjs
            simp only [Option.some.injEq] at hjs
            rw [hjs] at h3
            exact absurd rfl h3
          · exact h1 j (by omega) hjs
    · refine ⟨k, ⟨hk0, by omega⟩, last47 s k.toNat (fun j hj hjs => h1 j (by omega) hjs) ?_, rfl⟩
      rcases h2 with h2 | h2
      · left; omega
      · right; exact h2)
  (by
    rintro st post ⟨s, rfl, hm, h1⟩
    refine ⟨s, (0, 0), rfl, ⟨hm, ⟨by decide, by decide, by simp, by decide⟩, fun j hj _ => by simp at hj, .inl rfl⟩, ?_⟩
    rintro x ⟨k, ⟨h3, h4⟩, h5, rfl⟩
    exact h1 k h3 h4 h5)
theorem okUpR : FD X 26 hUp := FD.mk (H := []) (hk := [(3, loopHook (kpF 26 3) gRu)]) (by kernel_rfl) .nil (.cons loopRu .nil) (by
  intro ps R post hh
  obtain ⟨s, rfl, rfl, hm, hp⟩ := hh
  rw [← vcRu]
  refine ⟨s, rfl, hm, fun k h0 h1 h2 => oblP ⟨h0, h1⟩ ?_⟩
  rw [List.drop_zero, h2]
  exact hp)
end
end Pi

/- Archive: the reference: Check, Encode, Decode. -/
namespace Pi
open Go Go.Proofs
set_option maxRecDepth 100000
theorem less_total : ∀ a b : List UInt8, (Op.bytesLess a b || a == b) = !Op.bytesLess b a
  | [], [] => rfl
  | [], _ :: _ => rfl
  | _ :: _, [] => rfl
  | a :: x, b :: y => by
    have ih := less_total x y
    simp only [Op.bytesLess]
    by_cases h : a = b
    · subst h
      have h1 : (decide (a < a)) = false := by simp
      rw [h1]
      simp only [BEq.rfl, Bool.true_and, Bool.false_or]
      rw [← ih]
      congr 1
      rw [Bool.eq_iff_iff]
      simp
    · have h1 : (a == b) = false := by simpa using h
      have h2 : (b == a) = false := by simpa using fun e => h e.symm
      have h3 : (a :: x == b :: y) = false := by simp [h]
      rw [h1, h2, h3]
      simp only [Bool.false_and, Bool.or_false]
      rw [Bool.eq_iff_iff]
      simp only [decide_eq_true_eq, Bool.not_eq_true', decide_eq_false_iff_not, UInt8.lt_iff_toNat_lt]
      have : a.toNat ≠ b.toNat := fun e => h (UInt8.toNat_inj.1 e)
      omega
theorem less_nil (a : List UInt8) : Op.bytesLess a [] = false := by cases a <;> rfl
section
variable {X : XF}
theorem loopRc : LD X 10 2 (loopHook (kpF 10 2) gRc) := LD.par (H := [(23, hSplitP), (24, hLen), (25, hDir), (26, hUp)]) (hk := []) (by kernel_rfl) (by kernel_rfl) (.cons okSplitR (.cons okLenR (.cons okDirR (.cons okUpR .nil)))) .nil
  (A := List En3) (B := Int) (fun a k => rcH a k)
  (fun a k => SmE a ∧ (0 ≤ k ∧ k.toNat ≤ a.length) ∧ ∀ i, i < k.toNat → entOk a i (a.getD i ([], false, [])) = true)
  (fun a k => (a.length - k).toNat)
  (fun a x => (ChkL a ∧ x = (.exit 0, ⟨89, [], []⟩)) ∨ (¬ ChkL a ∧ x = (.ret, ⟨89, [(2, iD 80)], []⟩)))
  (by
    rintro l k ⟨hS, ⟨hk0, hkl⟩, hall⟩
    rw [← vcRcN]
    simp only [List.length_map]
    refine condP (fun h => ?_) fun h => .inl ⟨fun i hi => hall i (by omega), rfl⟩
    have hk : k.toNat < l.length := by omega
    rw [en_nth hk]
    have hmem : l.getD k.toNat ([], false, []) ∈ l := by simp [List.getD_eq_getElem?_getD, hk]
    have hall2 : entOk l k.toNat (l.getD k.toNat ([], false, [])) = true → ∀ i, i < k.toNat + 1 → entOk l i (l.getD i ([], false, [])) = true := fun h1 i hi => by
      by_cases hik : i = k.toNat
      · rw [hik]; exact h1
      · exact hall i (by omega)
    have hbad : entOk l k.toNat (l.getD k.toNat ([], false, [])) = false → ¬ ChkL l := fun h1 hc => by
      have := hc k.toNat hk
      rw [h1] at this
      cases this
    obtain ⟨hs1, hs2⟩ := hS.2 _ hmem
    have hS1 := hS.1
    generalize l.getD k.toNat ([], false, []) = e at hmem hall2 hbad hs1 hs2
    have v0 : D.sVal (D.cAt (enD e) 0) = e.1 := rfl
    have v1 : D.bVal (D.cAt (enD e) 1) = e.2.1 := rfl
    have v2 : D.sVal (D.cAt (enD e) 2) = e.2.2 := rfl
    rw [v0, v1, v2]
    have bad : entOk l k.toNat e = false → (¬ ChkL l ∧ (PX.ret, S.mk 89 [(2, iD 80)] []) = (PX.ret, S.mk 89 [(2, iD 80)] [])) := fun h1 => ⟨hbad h1, rfl⟩
    refine oblP ⟨hk0, by omega⟩ (oblI (isDe e) ⟨_, rfl, rfl, hs1, fun n1 er names hsp hn1 => oblP ⟨hk0, by omega⟩ (oblI (isDe e) ⟨_, rfl, rfl, hs2, fun n2 e1 he1 => ?_⟩)⟩)
    refine condN (fun h1 => .inr (bad (by simp [entOk, hsp, h1]))) fun h1 => condE (fun h2 => .inr (bad ?_)) fun h2 => condN (fun h3 => .inr (bad ?_)) fun h3 => oblP ⟨hk0, by omega⟩ (oblI (isDe e) ?_)
    · have : names = [] := List.eq_nil_of_length_eq_zero (by omega)
      simp [entOk, hsp, this]
    · have : Lib.validD e.2.2 = false := by
        cases hv : Lib.validD e.2.2 with
        | false => rfl
        | true => rw [hv] at he1; exact absurd he1 h3
      simp [entOk, this]
    have hv : Lib.validD e.2.2 = true := by
      cases hv : Lib.validD e.2.2 with
      | true => rfl
      | false => rw [hv] at he1; simp at he1; omega
    have hnm : names ≠ [] := fun h7 => by subst h7; simp at hn1; subst hn1; exact h2 rfl
    have hne : e.1 ≠ [] := fun h7 => by
      rw [h7] at hsp
      simp [splitP] at hsp
      exact hnm hsp.2
    have hent : entOk l k.toNat e = (dirAt l k.toNat (upP e.1) && !(Op.bytesLess e.1 (lastAt l k.toNat) || e.1 == lastAt l k.toNat) && (!e.2.1 || e.2.2 == [])) := by
      have hnb : (names == []) = false := by
        cases names with
        | nil => exact absurd rfl hnm
        | cons a b => rfl
      have he0 : (er == (0 : Int)) = true := by rw [h1]; rfl
      unfold entOk
      rw [hsp]
      simp only [he0, hv, hnb, Bool.not_false, Bool.true_and]
    have rest : (!e.2.1 || e.2.2 == []) = true → (bif decide ((0 : Int) ≤ k ∧ k ≤ (l.length : Int)) then bif decide ((0 : Int) ≤ k ∧ k < (l.length : Int)) then bif isD PR 34 (enD e) then ∃ (s : List UInt8), [P.d (D.str e.1)] = [P.d (D.str s)] ∧ EqR [] [] ∧ List.length s ≤ 3000000 ∧ ∃ (l_2 : List En3), ∃ (p : List UInt8), [P.d (D.sl 3 (List.drop 0 (List.take (Int.toNat k) (List.map enD l)))), P.d (D.str (upP s))] = [P.d (D.sl 3 (List.map enD l_2)), P.d (D.str p)] ∧ EqR [] [] ∧ List.length l_2 ≤ 3000000 ∧ ∀ (b : Bool), b = (p == [] || dirL l_2 p) → bif !b then (roundPost (l.length - k).toNat (fun m s => ∃ b', s = rcH l b' ∧ (SmE l ∧ (0 ≤ b' ∧ b'.toNat ≤ l.length) ∧ ∀ i, i < b'.toNat → entOk l i (l.getD i ([], false, [])) = true) ∧ m = (l.length - b').toNat) (fun x => (ChkL l ∧ x = (.exit 0, ⟨89, [], []⟩)) ∨ (¬ ChkL l ∧ x = (.ret, ⟨89, [(2, iD 80)], []⟩)))) (PX.ret, S.mk 89 [(2, P.d (D.int IntKind.i64 (80 : Int)))] []) else bif decide (k > (0 : Int)) then bif decide ((-9223372036854775808 : Int) ≤ k - (1 : Int) ∧ k - (1 : Int) ≤ (9223372036854775807 : Int)) then bif decide ((0 : Int) ≤ k - (1 : Int) ∧ k - (1 : Int) < (l.length : Int)) then bif isD PR 34 (D.nth (List.map enD l) (Int.toNat (k - (1 : Int)))) then bif decide ((0 : Int) ≤ k ∧ k < (l.length : Int)) then bif isD PR 34 (enD e) then bif !Op.bytesLess (D.sVal (D.cAt (D.nth (List.map enD l) (Int.toNat (k - (1 : Int)))) 0)) e.1 then (roundPost (l.length - k).toNat (fun m s => ∃ b', s = rcH l b' ∧ (SmE l ∧ (0 ≤ b' ∧ b'.toNat ≤ l.length) ∧ ∀ i, i < b'.toNat → entOk l i (l.getD i ([], false, [])) = true) ∧ m = (l.length - b').toNat) (fun x => (ChkL l ∧ x = (.exit 0, ⟨89, [], []⟩)) ∨ (¬ ChkL l ∧ x = (.ret, ⟨89, [(2, iD 80)], []⟩)))) (PX.ret, S.mk 89 [(2, P.d (D.int IntKind.i64 (80 : Int)))] []) else bif decide ((-9223372036854775808 : Int) ≤ k + (1 : Int) ∧ k + (1 : Int) ≤ (9223372036854775807 : Int)) then (roundPost (l.length - k).toNat (fun m s => ∃ b', s = rcH l b' ∧ (SmE l ∧ (0 ≤ b' ∧ b'.toNat ≤ l.length) ∧ ∀ i, i < b'.toNat → entOk l i (l.getD i ([], false, [])) = true) ∧ m = (l.length - b').toNat) (fun x => (ChkL l ∧ x = (.exit 0, ⟨89, [], []⟩)) ∨ (¬ ChkL l ∧ x = (.ret, ⟨89, [(2, iD 80)], []⟩)))) (PX.normal, S.mk 89 [(0, P.d (D.sl 3 (List.map enD l))), (3, P.d (D.int IntKind.i64 (k + (1 : Int))))] []) else False else False else False else False else False else False else bif decide ((-9223372036854775808 : Int) ≤ k + (1 : Int) ∧ k + (1 : Int) ≤ (9223372036854775807 : Int)) then (roundPost (l.length - k).toNat (fun m s => ∃ b', s = rcH l b' ∧ (SmE l ∧ (0 ≤ b' ∧ b'.toNat ≤ l.length) ∧ ∀ i, i < b'.toNat → entOk l i (l.getD i ([], false, [])) = true) ∧ m = (l.length - b').toNat) (fun x => (ChkL l ∧ x = (.exit 0, ⟨89, [], []⟩)) ∨ (¬ ChkL l ∧ x = (.ret, ⟨89, [(2, iD 80)], []⟩)))) (PX.normal, S.mk 89 [(0, P.d (D.sl 3 (List.map enD l))), (3, P.d (D.int IntKind.i64 (k + (1 : Int))))] []) else False else False else False else False) := fun h6 => by
      refine oblP ⟨hk0, by omega⟩ (oblP ⟨hk0, by omega⟩ (oblI (isDe e) ⟨_, rfl, rfl, by omega, l.take k.toNat, _, by rw [List.drop_zero, List.map_take], rfl, by rw [List.length_take]; omega, fun b hb => ?_⟩))
      have hdir : dirAt l k.toNat (upP e.1) = b := hb.symm
      have step : entOk l k.toNat e = true → ∃ m, m < (l.length - k).toNat ∧ ∃ b' : Int, rcH l (k + 1) = rcH l b' ∧ (SmE l ∧ (0 ≤ b' ∧ b'.toNat ≤ l.length) ∧ ∀ i, i < b'.toNat → entOk l i (l.getD i ([], false, [])) = true) ∧ m = (l.length - b').toNat := fun h7 =>
        ⟨_, (by omega), k + 1, rfl, ⟨hS, ⟨by omega, by omega⟩, by rw [show (k + 1).toNat = k.toNat + 1 by omega]; exact hall2 h7⟩, rfl⟩
      refine condI (fun h7 => .inr (bad ?_)) fun h7 => ?_
      · rw [hent, hdir]
        simp at h7
        simp [h7]
      · have hbt : b = true := by simpa using h7
        rw [hbt] at hdir
        refine condP (fun h8 => ?_) fun h8 => oblI (incI (by omega) (by omega)) (step ?_)
        · have hk1 : (k - 1).toNat < l.length := by omega
          have hlast : lastAt l k.toNat = (l.getD (k - 1).toNat ([], false, [])).1 := by
            unfold lastAt
            rw [if_neg (by omega), show k.toNat - 1 = (k - 1).toNat by omega]
          rw [en_nth hk1]
          have v3 : D.sVal (D.cAt (enD (l.getD (k - 1).toNat ([], false, []))) 0) = lastAt l k.toNat := hlast.symm
          rw [v3]
          rw [less_total] at hent
          refine oblP (by omega) (oblP (by omega) (oblI (isDe _) (oblP ⟨hk0, by omega⟩ (oblI (isDe _) (condI (fun h9 => .inr (bad ?_)) fun h9 => oblI (incI (by omega) (by omega)) (step ?_))))))
          · rw [hent]
            simp at h9
            simp [h9]
          · rw [hent, hdir, h6]
            simp at h9
            simp [h9]
        · have hlast : lastAt l k.toNat = [] := by
            unfold lastAt
            rw [if_pos (by omega)]
          rw [hent, hdir, h6, hlast, less_nil]
          simp [hne]
    refine condI (fun h4 => oblP ⟨hk0, by omega⟩ (oblI (isDe e) (condI (fun h5 => .inr (bad ?_)) fun h5 => rest ?_))) fun h4 => rest ?_
    · rw [hent, h4]
      simp at h5
      simp [h5]
    · simp at h5
      simp [h5]
    · simp [h4])
  (by
    rintro st post ⟨l, rfl, hS, h1, h2⟩
    refine ⟨l, 0, rfl, ⟨hS, ⟨by decide, by simp⟩, fun i hi => by simp at hi⟩, ?_⟩
    rintro x (⟨h3, rfl⟩ | ⟨h3, rfl⟩)
    · exact h2 h3
    · exact h1 h3)
theorem okCheckR : FD X 10 hCheck := FD.mk (H := []) (hk := [(2, loopHook (kpF 10 2) gRc)]) (by kernel_rfl) .nil (.cons loopRc .nil) (by
  intro ps R post hh
  obtain ⟨l, rfl, rfl, hS, hp⟩ := hh
  rw [← vcRc]
  exact ⟨l, rfl, hS, fun h => hp 80 ⟨fun h' => absurd h' h, fun _ => rfl⟩, fun h => hp 0 ⟨fun _ => rfl, fun h' => absurd h h'⟩⟩)
theorem loopRp : LD X 19 3 (loopHook (kpF 19 3) gRp) := LD.par (H := [(34, hBytes)]) (hk := []) (by kernel_rfl) (by kernel_rfl) (.cons okBytesR .nil) .nil
  (A := List En3 × List UInt8) (B := List UInt8 × Int) (fun a b => rpH a.1 b.1 b.2)
  (fun a b => (SmX a.1 ∧ a.2.length ≤ 100) ∧ (0 ≤ b.2 ∧ b.2.toNat ≤ a.1.length) ∧ b.1 = a.2 ++ (a.1.take b.2.toNat).flatMap encE)
  (fun a b => (a.1.length - b.2).toNat)
  (fun a x => x = (.exit 0, ⟨43, [(3, sD (a.2 ++ a.1.flatMap encE))], []⟩))
  (by
    rintro ⟨l, c0⟩ ⟨c, k⟩ ⟨⟨hS, hc0⟩, ⟨hk0, hkl⟩, hc⟩
    dsimp only at *
    rw [← vcRpN]
    simp only [List.length_map]
    refine condP (fun h => ?_) fun h => ?_
    · have hk : k.toNat < l.length := by omega
      rw [en_nth hk]
      have htf := take_flat hk
      have hmem : l.getD k.toNat ([], false, []) ∈ l := by simp [List.getD_eq_getElem?_getD, hk]
      obtain ⟨hs1, hs2⟩ := hS.2 _ hmem
      have hel := enc_len (l.take k.toNat) (fun e he => hS.2 e (List.mem_of_mem_take he))
      have hcl : c.length ≤ 50000000 := by
        rw [hc, List.length_append]
        have := hS.1
        rw [List.length_take, Nat.min_eq_left (by omega)] at hel
        omega
      have hS1 := hS.1
      generalize l.getD k.toNat ([], false, []) = e at htf hs1 hs2
      have v0 : D.sVal (D.cAt (enD e) 0) = e.1 := rfl
      have v1 : D.bVal (D.cAt (enD e) 1) = e.2.1 := rfl
      have v2 : D.sVal (D.cAt (enD e) 2) = e.2.2 := rfl
      rw [v0, v1, v2]
      have n1 := natW9 (n := e.1.length) (by omega)
      have n2 := natW9 (n := e.2.2.length) (by omega)
      have step : ∀ c', c' = c ++ encE e → ∃ m', m' < (l.length - k).toNat ∧ ∃ b' : List UInt8 × Int, rpH l c' (k + 1) = rpH l b'.1 b'.2 ∧
          ((SmX l ∧ c0.length ≤ 100) ∧ (0 ≤ b'.2 ∧ b'.2.toNat ≤ l.length) ∧ b'.1 = c0 ++ (l.take b'.2.toNat).flatMap encE) ∧ m' = (l.length - b'.2).toNat := fun c' hc' =>
        ⟨_, (by dsimp only; omega), (c', k + 1), rfl, ⟨⟨hS, hc0⟩, ⟨by dsimp only; omega, by dsimp only; omega⟩, by dsimp only; rw [show (k + 1).toNat = k.toNat + 1 by omega, htf, hc', hc, List.append_assoc]⟩, rfl⟩
      refine oblP ⟨hk0, by omega⟩ (oblI (isDe e) ⟨_, rfl, rfl, by omega, oblP (by simp; omega) (oblP ⟨hk0, by omega⟩ (oblI (isDe e) (condI (fun hd => oblP (by simp; omega) (oblI (incI (by omega) (by omega)) (step _ ?_))) fun hd => oblP (by simp; omega) (oblP ⟨hk0, by omega⟩ (oblI (isDe e) ⟨_, rfl, rfl, by omega, oblP (by simp; omega) (oblI (incI (by omega) (by omega)) (step _ ?_))⟩)))))⟩)
      · rw [encE, if_pos hd]
        simp
      · rw [encE, if_neg (by rw [hd]; simp)]
        simp
    · have : k.toNat = l.length := by omega
      rw [this, List.take_length] at hc
      subst hc
      rfl)
  (by
    rintro st post ⟨l, c, rfl, ⟨hS, hc⟩, hp⟩
    refine ⟨(l, c), (c, 0), rfl, ⟨⟨hS, hc⟩, ⟨Int.le_refl 0, by simp⟩, by simp⟩, ?_⟩
    rintro x rfl
    exact hp _ rfl)
theorem okSpellR : FD X 19 hSpell := FD.mk (H := [(33, hNat)]) (hk := [(3, loopHook (kpF 19 3) gRp)]) (by kernel_rfl) (.cons okNatR .nil) (.cons loopRp .nil) (by
  intro ps R post hh
  obtain ⟨l, rfl, rfl, hS, hp⟩ := hh
  have hS1 := hS.1
  rw [← vcRp]
  simp only [List.length_map]
  have h9 := natW9 (n := l.length) (by omega)
  refine ⟨_, rfl, rfl, ⟨by omega, by omega⟩, l, _, rfl, ⟨hS, ?_⟩, fun t ht => hp t ?_⟩
  · rw [show ((l.length : Int)).toNat = l.length from rfl]; omega
  · rw [ht]; rfl)
theorem okEncR : FD X 8 hEnc := FD.mk (H := [(10, hCheck), (19, hSpell)]) (hk := []) (by kernel_rfl) (.cons okCheckR (.cons okSpellR .nil)) .nil (by
  intro ps R post hh
  obtain ⟨l, rfl, rfl, hS, hp⟩ := hh
  rw [← vcRe]
  refine ⟨l, rfl, rfl, hS.e, fun e he => condN (fun h => ?_) fun h => ?_⟩
  · have hno : ¬ ChkL l := fun hc => h (he.1 hc)
    exact hp [] e ⟨fun hc => absurd hc hno, fun hc => ⟨he.2 hc, rfl⟩⟩
  · have hyes : ChkL l := Classical.byContradiction fun hc => by rw [he.2 hc] at h; cases h
    exact ⟨l, rfl, rfl, hS, fun s hs => hp s 0 ⟨fun _ => ⟨rfl, hs⟩, fun hc => absurd hyes hc⟩⟩)
theorem loopRde : LD X 12 6 (loopHook (kpF 12 6) gRde) := LD.par (H := [(30, hTakeB)]) (hk := []) (by kernel_rfl) (by kernel_rfl) (.cons okTakeBR .nil) .nil
  (A := Int × List UInt8) (B := (List UInt8 × List En3) × Int) (fun a b => rdeH a.1 b.1.1 b.1.2 b.2)
  (fun a b => (a.2.length ≤ 2000000 ∧ 0 ≤ a.1) ∧ (b.2 = b.1.2.length ∧ b.1.2.length ≤ a.1.toNat) ∧ b.1.1.length + b.1.2.length ≤ a.2.length ∧ decN a.1.toNat a.2 = (match decN (a.1.toNat - b.1.2.length) b.1.1 with | some (l, r) => some (b.1.2 ++ l, r) | none => none))
  (fun a b => a.1.toNat - b.1.2.length)
  (fun a x => (decN a.1.toNat a.2 = none ∧ ∃ (r : List UInt8) (o : List En3), x = (.ret, ⟨79, [(2, .sl 0 0 0), (3, iD 80), (5, sD r), (7, .sl 1 0 o.length)], [(0, ⟨0, none, .arr 34 false []⟩), (1, ⟨0, none, .arr 34 false (o.map enD)⟩)]⟩)) ∨ ∃ (o : List En3) (r : List UInt8), decN a.1.toNat a.2 = some (o, r) ∧ x = (.exit 0, ⟨79, [(5, sD r), (7, .sl 0 0 o.length)], [(0, ⟨0, none, .arr 34 false (o.map enD)⟩)]⟩))
  (by
    rintro ⟨n, s0⟩ ⟨⟨s, o⟩, i⟩ ⟨⟨hs0, hn0⟩, ⟨hi, hol⟩, hl, hd⟩
    dsimp only at *
    rw [← vcRdeN]
    refine condP (fun h => ?_) fun h => ?_
    · obtain ⟨m, hm⟩ : ∃ m, n.toNat - o.length = m + 1 := ⟨n.toNat - o.length - 1, by omega⟩
      rw [hm] at hd
      have none1 : takE s = none → decN n.toNat s0 = none := fun h1 => by rw [hd, takE_none m h1]
      have step : ∀ (e : En3) (r : List UInt8), takE s = some (e, r) → i = o.length → ∃ m', m' < n.toNat - o.length ∧ ∃ b' : (List UInt8 × List En3) × Int, rdeH n r (o ++ [e]) (i + 1) = rdeH n b'.1.1 b'.1.2 b'.2 ∧
          ((s0.length ≤ 2000000 ∧ 0 ≤ n) ∧ (b'.2 = b'.1.2.length ∧ b'.1.2.length ≤ n.toNat) ∧ b'.1.1.length + b'.1.2.length ≤ s0.length ∧ decN n.toNat s0 = (match decN (n.toNat - b'.1.2.length) b'.1.1 with | some (l, r) => some (b'.1.2 ++ l, r) | none => none)) ∧ m' = n.toNat - b'.1.2.length := fun e r he hi => by
        have ht := takE_len he
        refine ⟨_, ?_, ((r, o ++ [e]), i + 1), rfl, ⟨⟨hs0, hn0⟩, ⟨?_, ?_⟩, ?_, ?_⟩, rfl⟩
        · simp; omega
        · simp; omega
        · simp; omega
        · simp; omega
        · dsimp only
          rw [hd, show n.toNat - (o ++ [e]).length = m by simp; omega]
          simp only [decN, he]
          cases decN m r with
          | none => rfl
          | some x => simp
      refine ⟨s, rfl, rfl, by omega, fun e t r hx => ?_⟩
      have hlen := @takeBG_len s
      have htk : takE s = (if e ≠ 0 then none else match r with
        | [] => none
        | b :: r' => if b.toNat = 1 then some ((t, true, []), r') else if b.toNat = 0 then (if (takeBG r').1 = 0 then some ((t, false, (takeBG r').2.1), (takeBG r').2.2) else none) else none) := by
        unfold takE
        rw [hx]
        rfl
      rw [hx] at hlen
      simp only at hlen
      refine condN (fun h1 => .inl ⟨none1 (by rw [htk, if_pos h1]), _, o, rfl⟩) fun h1 => ?_
      rw [if_neg (by simpa using h1)] at htk
      have hlen := hlen h1
      cases r with
      | nil => exact condT rfl (.inl ⟨none1 htk, _, o, rfl⟩)
      | cons b r =>
        simp only [List.length_cons] at hlen
        have hb := b.toNat_lt
        have g0 : List.getD (b :: r) 0 (0 : UInt8) = b := rfl
        have tk : List.drop 1 (List.take (b :: r).length (b :: r)) = r := by rw [List.take_length]; rfl
        rw [g0, tk]
        simp only at htk
        refine condF (by simp) (oblP (by simp) (condP (fun h3 => .inl ⟨none1 (by rw [htk, if_neg (by omega), if_neg (by omega)]), _, o, rfl⟩) fun h3 => oblP (by simp) (oblP (by simp only [List.length_cons]; omega) (condI (fun h4 => ?_) fun h4 => ?_))))
        · have hb0 : b.toNat = 0 := by simp at h4; omega
          rw [hb0, if_neg (by omega), if_pos rfl] at htk
          rw [hb0]
          refine ⟨r, rfl, rfl, by omega, fun e2 t2 r2 hx2 => condN (fun h5 => .inl ⟨none1 (by rw [htk, hx2, if_neg h5]), _, o, rfl⟩) fun h5 => ?_⟩
          rw [hx2, if_pos h5] at htk
          refine oblI (roomI (by simp; omega) (by simp; omega) _ (by simp)) (oblI (incI (by omega) (by omega)) ?_)
          have := step _ _ htk hi
          rw [List.take_of_length_le (l := List.map enD o) (by simp)]
          simp only [rdeH, List.map_append, List.map_cons, List.map_nil, List.length_append, List.length_cons, List.length_nil] at this ⊢
          exact this
        · have hb1 : b.toNat = 1 := by simp at h4; omega
          rw [hb1, if_pos rfl] at htk
          rw [hb1]
          refine oblI (roomI (by simp; omega) (by simp; omega) _ (by simp)) (oblI (incI (by omega) (by omega)) ?_)
          have := step _ _ htk hi
          rw [List.take_of_length_le (l := List.map enD o) (by simp)]
          simp only [rdeH, List.map_append, List.map_cons, List.map_nil, List.length_append, List.length_cons, List.length_nil] at this ⊢
          exact this
    · refine .inr ⟨o, s, ?_, rfl⟩
      rw [hd, show n.toNat - o.length = 0 by omega]
      simp [decN])
  (by
    rintro st post ⟨n, s, rfl, ⟨hs, hn⟩, h1, h2⟩
    refine ⟨(n, s), ((s, []), 0), rfl, ⟨⟨hs, hn⟩, ⟨rfl, by simp⟩, by simp, ?_⟩, ?_⟩
    · simp only [List.length_nil, Nat.sub_zero, List.nil_append]
      cases decN n.toNat s with
      | none => rfl
      | some x => rfl
    · rintro x (⟨hd, r, o, rfl⟩ | ⟨o, r, hd, rfl⟩)
      · exact h1 hd r o
      · exact h2 o r hd)
theorem okDecR : FD X 12 hDec := FD.mk (H := [(29, hTake), (10, hCheck)]) (hk := [(6, loopHook (kpF 12 6) gRde)]) (by kernel_rfl) (.cons okTakeR (.cons okCheckR .nil)) (.cons loopRde .nil) (by
  intro ps R post hh
  obtain ⟨s, rfl, rfl, hs, h1, h2⟩ := hh
  rw [← vcRde]
  refine ⟨s, rfl, rfl, hs, fun e n r ht => condN (fun h0 => ?_) fun h0 => ?_⟩
  · exact h2 fun l hl => by
      have := hl.1
      rw [ht] at this
      exact h0 this
  have htl := takeG_len s 0 (by rw [ht]; exact h0)
  rw [ht] at htl
  dsimp only at htl
  refine ⟨n, r, rfl, ⟨by omega, by omega⟩, fun hd r' o => h2 fun l hl => ?_, fun o r' hd => ?_⟩
  · have := hl.2.1
    rw [ht] at this
    simp only [Int.toNat_natCast] at hd
    rw [hd] at this
    cases this
  · simp only [Int.toNat_natCast] at hd
    obtain ⟨d1, d2, d3⟩ := decN_len n r o r' hd
    have uniq : ∀ l, DecR s l → l = o ∧ r' = [] := fun l hl => by
      have := hl.2.1
      rw [ht] at this
      dsimp only at this
      rw [hd] at this
      cases this
      exact ⟨rfl, rfl⟩
    refine condI (fun h => h2 fun l hl => ?_) fun h => ?_
    · have := (uniq l hl).2
      rw [this] at h
      cases h
    · have hr : r' = [] := by simpa using h
      subst hr
      refine ⟨o, by rw [List.take_of_length_le (by simp)], rfl, ⟨by omega, fun x hx => by have := d3 x hx; omega⟩, fun e1 he1 => condN (fun h3 => h2 fun l hl => ?_) fun h3 => ?_⟩
      · obtain ⟨rfl, _⟩ := uniq l hl
        exact h3 (he1.1 hl.2.2)
      · have hc : ChkL o := Classical.byContradiction fun hc => by rw [he1.2 hc] at h3; cases h3
        exact h1 o ⟨by rw [ht]; exact h0, by rw [ht]; exact hd, hc⟩)
end
end Pi

/- Archive: the laws Encodes, Decodes: what their runs ask. -/
namespace Pi
open Go Go.Proofs
set_option maxRecDepth 100000
set_option maxHeartbeats 0
theorem vcLawE (l : List En3) (post : P × List (Nat × En) → Prop) : (∃ (l_1 : List En3), [P.d (D.sl 3 (List.map enD l))] = [P.d (D.sl 3 (List.map enD l_1))] ∧ EqR [] [] ∧ ∀ (b : Bool), (b = true ↔ FewL l_1) → bif !b then EqP [] [] ∧ EqR [] [] ∧ post (P.d (D.bool true), []) else ∃ (l_2 : List En3), [P.d (D.sl 3 (List.map enD l))] = [P.d (D.sl 3 (List.map enD l_2))] ∧ EqR [] [] ∧ SmX l_2 ∧ ∀ (s : List UInt8) (e : Int), (ChkL l_2 → e = (0 : Int) ∧ s = natW (List.length l_2) ++ List.flatMap encE l_2) ∧ (¬ChkL l_2 → e = (80 : Int) ∧ s = []) → ∃ (l_3 : List En3), [P.d (D.sl 3 (List.map enD l))] = [P.d (D.sl 3 (List.map enD l_3))] ∧ EqR [] [] ∧ SmX l_3 ∧ ∀ (s_1 : List UInt8) (e_1 : Int), (ChkL l_3 → e_1 = (0 : Int) ∧ s_1 = natW (List.length l_3) ++ List.flatMap encE l_3) ∧ (¬ChkL l_3 → e_1 = (80 : Int) ∧ s_1 = []) → EqP [] [] ∧ EqR [] [] ∧ ∃ (l_4 : List En3), [P.d (D.sl 3 (List.map enD l))] = [P.d (D.sl 3 (List.map enD l_4))] ∧ EqR [] [] ∧ SmE l_4 ∧ ∀ (e_2 : Int), (ChkL l_4 → e_2 = (0 : Int)) ∧ (¬ChkL l_4 → e_2 = (80 : Int)) → ∃ (l_5 : List En3), [P.d (D.sl 3 (List.map enD l))] = [P.d (D.sl 3 (List.map enD l_5))] ∧ EqR [] [] ∧ SmE l_5 ∧ ∀ (e_3 : Int), (ChkL l_5 → e_3 = (0 : Int)) ∧ (¬ChkL l_5 → e_3 = (80 : Int)) → bif e_2 == e_3 then bif s == s_1 then post (P.d (D.bool (e == e_1)), []) else post (P.d (D.bool false), []) else post (P.d (D.bool false), [])) = (bodyF [(6, hAwake17), (5, hFew), (7, hEnc), (8, hEnc), (9, hCheck), (10, hCheck)] [] 3 [esP l] []) post := by kernel_rfl
theorem vcLawD (s : List UInt8) (post : P × List (Nat × En) → Prop) : (bif decide ((↑(List.length s) : Int) > (5000 : Int)) then EqP [] [] ∧ EqR [] [] ∧ post (P.d (D.bool true), []) else ∃ (s_1 : List UInt8), [P.d (D.str s)] = [P.d (D.str s_1)] ∧ EqR [] [] ∧ List.length s_1 ≤ 2000000 ∧ (∀ (l : List En3), DecR s_1 l → ∃ (s_2 : List UInt8), [P.d (D.str s)] = [P.d (D.str s_2)] ∧ EqR [] [] ∧ List.length s_2 ≤ 2000000 ∧ (∀ (l_1 : List En3), DecR s_2 l_1 → EqP [] [] ∧ EqR [] [] ∧ ∃ (v : List En3), ∃ (w : List En3), [P.d (D.sl 3 (List.take (List.length l) (List.map enD l))), P.d (D.sl 3 (List.take (List.length l_1) (List.map enD l_1)))] = [P.d (D.sl 3 (List.map enD v)), P.d (D.sl 3 (List.map enD w))] ∧ EqR [] [] ∧ List.length v ≤ 3000000 ∧ ∀ (b : Bool), (b = true ↔ v = w) → bif b then post (P.d (D.bool true), []) else post (P.d (D.bool false), [])) ∧ ((∀ (l : List En3), ¬DecR s_2 l) → EqP [] [] ∧ EqR [] [] ∧ ∃ (v : List En3), ∃ (w : List En3), [P.d (D.sl 3 (List.take (List.length l) (List.map enD l))), P.d (D.sl 3 [])] = [P.d (D.sl 3 (List.map enD v)), P.d (D.sl 3 (List.map enD w))] ∧ EqR [] [] ∧ List.length v ≤ 3000000 ∧ ∀ (b : Bool), (b = true ↔ v = w) → bif b then post (P.d (D.bool false), []) else post (P.d (D.bool false), []))) ∧ ((∀ (l : List En3), ¬DecR s_1 l) → ∃ (s_2 : List UInt8), [P.d (D.str s)] = [P.d (D.str s_2)] ∧ EqR [] [] ∧ List.length s_2 ≤ 2000000 ∧ (∀ (l : List En3), DecR s_2 l → EqP [] [] ∧ EqR [] [] ∧ ∃ (v : List En3), ∃ (w : List En3), [P.d (D.sl 3 []), P.d (D.sl 3 (List.take (List.length l) (List.map enD l)))] = [P.d (D.sl 3 (List.map enD v)), P.d (D.sl 3 (List.map enD w))] ∧ EqR [] [] ∧ List.length v ≤ 3000000 ∧ ∀ (b : Bool), (b = true ↔ v = w) → bif b then post (P.d (D.bool false), []) else post (P.d (D.bool false), [])) ∧ ((∀ (l : List En3), ¬DecR s_2 l) → EqP [] [] ∧ EqR [] [] ∧ ∃ (v : List En3), ∃ (w : List En3), [P.d (D.sl 3 []), P.d (D.sl 3 [])] = [P.d (D.sl 3 (List.map enD v)), P.d (D.sl 3 (List.map enD w))] ∧ EqR [] [] ∧ List.length v ≤ 3000000 ∧ ∀ (b : Bool), (b = true ↔ v = w) → bif b then post (P.d (D.bool true), []) else post (P.d (D.bool false), [])))) = (bodyF [(6, hAwake17), (11, hDec), (12, hDec), (13, hSameE)] [] 4 [sD s] []) post := by kernel_rfl
end Pi

/- Archive: the laws Encodes, Decodes. -/
namespace Pi
open Go Go.Proofs
set_option maxRecDepth 100000
section
variable {X : XF}
def hLawE : KF1 := fun ps R post => ∃ l, ps = [esP l] ∧ R = [] ∧ post (bD' true, [])
def hLawD : KF1 := fun ps R post => ∃ s, ps = [sD s] ∧ R = [] ∧ post (bD' true, [])
theorem okLawE : FD X 3 hLawE := FD.mk (H := [(6, hAwake17), (5, hFew), (7, hEnc), (8, hEnc), (9, hCheck), (10, hCheck)]) (hk := []) (by kernel_rfl)
  (.cons okAwake17 (.cons okFew (.cons okEnc (.cons okEncR (.cons okCheck (.cons okCheckR .nil)))))) .nil (by
  intro ps R post hh
  obtain ⟨l, rfl, rfl, hp⟩ := hh
  rw [← vcLawE]
  refine ⟨l, rfl, rfl, fun b hb => condI (fun _ => ⟨rfl, rfl, hp⟩) fun h1 => ?_⟩
  have fl := hb.1 (by simpa using h1)
  have sl := few_small fl
  refine ⟨l, rfl, rfl, sl, fun s e he => ⟨l, rfl, rfl, sl, fun s1 e1 he1 => ⟨rfl, rfl, l, rfl, rfl, sl.e, fun e2 he2 => ⟨l, rfl, rfl, sl.e, fun e3 he3 => ?_⟩⟩⟩⟩
  by_cases hc : ChkL l
  · obtain ⟨rfl, rfl⟩ := he.1 hc
    obtain ⟨rfl, rfl⟩ := he1.1 hc
    rw [he2.1 hc, he3.1 hc]
    exact condT rfl (condT (by simp) hp)
  · obtain ⟨rfl, rfl⟩ := he.2 hc
    obtain ⟨rfl, rfl⟩ := he1.2 hc
    rw [he2.2 hc, he3.2 hc]
    exact condT rfl (condT rfl hp))
theorem okLawD : FD X 4 hLawD := FD.mk (H := [(6, hAwake17), (11, hDec), (12, hDec), (13, hSameE)]) (hk := []) (by kernel_rfl)
  (.cons okAwake17 (.cons okDec (.cons okDecR (.cons okSameE .nil)))) .nil (by
  intro ps R post hh
  obtain ⟨s, rfl, rfl, hp⟩ := hh
  rw [← vcLawD]
  refine condP (fun _ => ⟨rfl, rfl, hp⟩) fun hs => ⟨s, rfl, rfl, by omega, fun l hl => ⟨s, rfl, rfl, by omega, fun m hm => ⟨rfl, rfl, l, m, by rw [take_en, take_en], rfl, ?_, fun b hb => ?_⟩, fun hno => absurd hl (hno l)⟩, fun hno => ⟨s, rfl, rfl, by omega, fun l hl => absurd hl (hno l), fun _ => ⟨rfl, rfl, [], [], rfl, rfl, by simp, fun b hb => ?_⟩⟩⟩
  · have := (decR_small hl (by omega)).1
    omega
  · rw [hb.2 (decR_uniq hl hm)]
    exact hp
  · rw [hb.2 rfl]
    exact hp)
theorem okArchiveEncodesLaw (xs : List D) (h : FitAll PR 8 [22] xs) : ∃ lf k R, runF PR (kpT X) lf k 3 (xs.map P.d) [] = some (.d (.bool true), R) := by
  obtain ⟨x, r, rfl, hx, h⟩ := fitAll_cons h
  have e := fitAll_nil h
  subst e
  obtain ⟨l, rfl⟩ := fitEn hx
  obtain ⟨lf, k, hr⟩ := (okLawE (X := X)).run (y := (.d (.bool true), [])) ⟨l, rfl, rfl, rfl⟩
  exact ⟨lf, k, [], hr⟩
theorem okArchiveDecodesLaw (xs : List D) (h : FitAll PR 8 [9] xs) : ∃ lf k R, runF PR (kpT X) lf k 4 (xs.map P.d) [] = some (.d (.bool true), R) := by
  obtain ⟨x, r, rfl, hx, h⟩ := fitAll_cons h
  have e := fitAll_nil h
  subst e
  obtain ⟨s, rfl⟩ := fitS hx
  obtain ⟨lf, k, hr⟩ := (okLawD (X := X)).run (y := (.d (.bool true), [])) ⟨s, rfl, rfl, rfl⟩
  exact ⟨lf, k, [], hr⟩
end
end Pi

/- Stamp: the world that a row's condition gives. -/
namespace Pi
open Go Go.Proofs Go.RowKit Go.Proofs.YthaoefcijckofaaGreatDoor
set_option maxRecDepth 100000

abbrev laidL : List (String × DataW Unit) := [("math/bits.deBruijn32tab", Rows.laid_math_bits_deBruijn32tab), ("math/bits.deBruijn64tab", Rows.laid_math_bits_deBruijn64tab), ("internal/strconv.uint64pow10", Rows.laid_internal_strconv_uint64pow10), ("unicode/utf8.acceptRanges", Rows.laid_unicode_utf8_acceptRanges), ("strconv.ErrRange", Rows.laid_strconv_ErrRange), ("strconv.ErrSyntax", Rows.laid_strconv_ErrSyntax), ("unicode/utf8.first", Rows.laid_unicode_utf8_first)]

theorem gES : Tryz.prog.globalNamed "strconv.ErrSyntax" = some 3 := by kernel_rfl
theorem gER : Tryz.prog.globalNamed "strconv.ErrRange" = some 4 := by kernel_rfl
theorem gP : Tryz.prog.globalNamed "internal/strconv.uint64pow10" = some 5 := by kernel_rfl
theorem tES : (Tryz.prog.globals[3]?).map (·.type) = some 41 := by kernel_rfl
theorem tER : (Tryz.prog.globals[4]?).map (·.type) = some 41 := by kernel_rfl
theorem tP : (Tryz.prog.globals[5]?).map (·.type) = some 142 := by kernel_rfl
theorem starN : "*" ++ "errors.errorString" = "*errors.errorString" := by decide
theorem row98 (u : TypeId) (h : Tryz.prog.typeName? 3 u = some "*errors.errorString") : u = 132 :=
  typeName_ptr_named (nm := "errors.errorString") (by rw [starN]; kernel_rfl) (by kernel_rfl) (by decide) u (by rw [starN]; exact h)
theorem laidL_plain (w : World) (h : laidMetH Tryz.prog laidL w) : laidMet Tryz.prog laidL w := by
  unfold laidMetH at h
  have e : (laidL.filter fun x => x.2.handleName?.isSome) = [] := by kernel_rfl
  rw [e] at h
  exact h
theorem laidL_H (w : World) (h : laidMet Tryz.prog laidL w) : laidMetH Tryz.prog laidL w := by
  unfold laidMetH
  have e : (laidL.filter fun x => x.2.handleName?.isSome) = [] := by kernel_rfl
  rw [e]
  exact h
theorem laidP : (Rows.laid_internal_strconv_uint64pow10 : DataW Unit) = Lib.tabData .u64 Lib.pow10Tab := by kernel_rfl
theorem laidF : (Rows.laid_unicode_utf8_first : DataW Unit) = Lib.firstData := by kernel_rfl
theorem laidA : (Rows.laid_unicode_utf8_acceptRanges : DataW Unit) = Lib.acceptData := by kernel_rfl
theorem u8_of {W : World} (h : laidMet Tryz.prog laidL W) : Lib.Utf8Tabs 0 1 W :=
  utf8Tabs_of_reads (ρ := Tryz.lays146_ren) { Tryz.lays146 with } ⟨by kernel_rfl, by kernel_rfl, by kernel_rfl, by kernel_rfl, by kernel_rfl, by kernel_rfl, by kernel_rfl⟩
    (by rw [← laidF]; exact Lib.laidMet.reads h (.tail _ (.tail _ (.tail _ (.tail _ (.tail _ (.tail _ (.head _))))))))
    (by rw [← laidA]; exact Lib.laidMet.reads h (.tail _ (.tail _ (.tail _ (.head _)))))
theorem stW_of {W : World} (h0 : laidMetH Tryz.prog laidL W) (hs : W.ShapedOpen Tryz.prog) : StW W := by
  have h := laidL_plain W h0
  have h3 := h.tail.tail
  have h5 := h3.tail.tail
  have h6 := h5.tail
  obtain ⟨a1, s1, hv1, _, _, _⟩ := laid_sentinel h5 gER tER Tryz.underlying41 row98 Tryz.underlying132 Tryz.underlying134 rfl rfl Tryz.underlying9 (by kernel_rfl) (by kernel_rfl)
  obtain ⟨a0, s0, hv0, _, _, _⟩ := laid_sentinel h6 gES tES Tryz.underlying41 row98 Tryz.underlying132 Tryz.underlying134 rfl rfl Tryz.underlying9 (by kernel_rfl) (by kernel_rfl)
  have htab : Lib.TabIs Tryz.prog W "internal/strconv.uint64pow10" .u64 Lib.pow10Tab :=
    Lib.tabIs_of_head (k := .u64) (zs := Lib.pow10Tab) gP tP Tryz.underlying142 Tryz.underlying65 (by kernel_rfl) (by kernel_rfl) (by rw [← laidP]; exact h3)
  refine ⟨?_, ⟨_, by have := World.var?_cell gES hv0 0; simpa using this, .inr ⟨_, _, rfl⟩⟩, ⟨_, by have := World.var?_cell gER hv1 0; simpa using this, .inr ⟨_, _, rfl⟩⟩, fun w hw => ?_, u8_of h⟩
  · exact cell_of_shapedOpen_int (zero := #[.int .i64 0]) (t := 3) hs (Nat.le_of_ble_eq_true (by kernel_rfl)) (by kernel_rfl) rfl (by kernel_rfl) (by kernel_rfl) Tryz.underlying3
  · unfold Lib.TabIs World.var? at htab ⊢
    rw [gP] at htab ⊢
    simp only [Option.bind_some] at htab ⊢
    by_cases hb : 5 < W.heap.size
    · rw [hw 5 hb]
      exact htab
    · rw [Array.getElem?_eq_none (by omega)] at htab
      cases htab

/-- A world that meets the condition. -/
noncomputable def wL (os : Os) : World := World.laidAll Tryz.prog os laidL
theorem wL_met (os : Os) (args : Array Value) : laidMet Tryz.prog laidL ((wL os).forCall (fun _ _ => 0) ⟨#[], args, []⟩).memory :=
  laidMet_laidAll _ (by kernel_rfl) (by kernel_rfl)
end Pi

