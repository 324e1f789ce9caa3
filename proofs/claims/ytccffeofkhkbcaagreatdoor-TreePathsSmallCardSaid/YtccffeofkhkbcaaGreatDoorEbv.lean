/- The texts T19 T19H. -/
import Derived.Test.YtccffeofkhkbcaaGreatDoorEbu
/- Tree: small places: paths: what the runs ask. -/
namespace Pi
open Go Go.Proofs
set_option maxRecDepth 100000
set_option maxHeartbeats 0
abbrev arFP (o : List Pl) : En := ⟨0, none, .arr 47 true (o.map plD)⟩
abbrev arFI (v : List Id3) : En := ⟨0, none, .arr 41 true (v.map ixD)⟩
abbrev arFX (x : List It) : En := ⟨0, none, .arr 43 true (x.map itmD)⟩
abbrev pqA (o : List Pl) (v : List Id3) (x : List It) (m k n : Nat) (i : Int) : S := ⟨108, [(7, .d (.bool true)), (8, .sl 0 0 m), (9, .sl 1 0 k), (10, .sl 2 0 n), (11, iD i)], [(0, arFP o), (1, arFI v), (2, arFX x)]⟩
abbrev pqB (o : List Pl) (v : List Id3) (x : List It) (m k n : Nat) (i c j : Int) : S := ⟨108, [(7, .d (.bool true)), (8, .sl 0 0 m), (9, .sl 1 0 k), (10, .sl 2 0 n), (11, iD i), (12, iD c), (13, iD j)], [(0, arFP o), (1, arFI v), (2, arFX x)]⟩
abbrev pqC (v : List Id3) (x : List It) (k n : Nat) (i : Int) : S := ⟨108, [(7, .d (.bool true)), (9, .sl 0 0 k), (10, .sl 1 0 n), (14, iD i)], [(0, arFI v), (1, arFX x)]⟩
def vcPsB_0 (n : Nat) (j : Int) : Bool := decide ((0 : Int) ≤ j ∧ j < (↑n : Int))
def vcPsB_1 (x : List It) (j : Int) : Bool := decide (Int.toNat j < List.length (List.map itmD x))
def vcPsB_2 (x : List It) (j : Int) : D := D.nth (List.map itmD x) (Int.toNat j)
def vcPsB_3 (v : List Id3) (i : Int) : D := D.nth (List.map ixD v) (Int.toNat i)
def vcPsB_4  : Int := (-9223372036854775808 : Int)
def vcPsB_5 (c : Int) : Int := c + (1 : Int)
def vcPsB_6  : Nat × P := (7, P.d (D.bool true))
def vcPsB_7 (m : Nat) : Nat × P := (8, P.sl 0 0 m)
def vcPsB_8 (k : Nat) : Nat × P := (9, P.sl 1 0 k)
def vcPsB_9 (n : Nat) : Nat × P := (10, P.sl 2 0 n)
def vcPsB_10 (i : Int) : Nat × P := (11, P.d (D.int IntKind.i64 i))
def vcPsB_11 (c : Int) : Nat × P := (12, P.d (D.int IntKind.i64 (vcPsB_5 c)))
def vcPsB_12 (o : List Pl) (v : List Id3) (x : List It) : List (Nat × En) := [(0, En.mk 0 none (Obj.arr (47 : TypeId) true (List.map plD o))), (1, En.mk 0 none (Obj.arr (41 : TypeId) true (List.map ixD v))), (2, En.mk 0 none (Obj.arr (43 : TypeId) true (List.map itmD x)))]
def vcPsB_13 (j : Int) : Int := j + (1 : Int)
def vcPsB_14 (j : Int) : Bool := decide (vcPsB_4 ≤ vcPsB_13 j ∧ vcPsB_13 j ≤ (9223372036854775807 : Int))
def vcPsB_15 (j : Int) : List (Nat × P) := [(13, P.d (D.int IntKind.i64 (vcPsB_13 j)))]
def vcPsB_16 (c : Int) : Nat × P := (12, P.d (D.int IntKind.i64 c))
theorem vcPsB (o : List Pl) (v : List Id3) (x : List It) (m k n : Nat) (i c j : Int) (post : PX × S → Prop) : (bif decide (j < (↑n : Int)) then bif vcPsB_0 n j then bif vcPsB_1 x j then bif isD PR (43 : TypeId) (vcPsB_2 x j) then bif decide ((0 : Int) ≤ i ∧ i < (↑k : Int)) then bif decide (Int.toNat i < List.length (List.map ixD v)) then bif isD PR (41 : TypeId) (vcPsB_3 v i) then bif D.iVal (D.cAt (vcPsB_2 x j) 0) == D.iVal (D.cAt (vcPsB_3 v i) 0) && (D.iVal (D.cAt (vcPsB_2 x j) 1) == D.iVal (D.cAt (vcPsB_3 v i) 1) && true) && (D.iVal (D.cAt (vcPsB_2 x j) 2) == D.iVal (D.cAt (vcPsB_3 v i) 2) && true) then bif decide (vcPsB_4 ≤ vcPsB_5 c ∧ vcPsB_5 c ≤ (9223372036854775807 : Int)) then bif vcPsB_0 n j then bif vcPsB_1 x j then bif isD PR (43 : TypeId) (vcPsB_2 x j) then bif D.bVal (D.cAt (vcPsB_2 x j) 5) then post (PX.ret, S.mk 108 [(6, P.d (D.bool false)), vcPsB_6, vcPsB_7 m, vcPsB_8 k, vcPsB_9 n, vcPsB_10 i, vcPsB_11 c] (vcPsB_12 o v x)) else bif vcPsB_14 j then post (PX.normal, S.mk 108 (vcPsB_6 :: vcPsB_7 m :: vcPsB_8 k :: vcPsB_9 n :: vcPsB_10 i :: vcPsB_11 c :: vcPsB_15 j) (vcPsB_12 o v x)) else False else False else False else False else False else bif vcPsB_14 j then post (PX.normal, S.mk 108 (vcPsB_6 :: vcPsB_7 m :: vcPsB_8 k :: vcPsB_9 n :: vcPsB_10 i :: vcPsB_16 c :: vcPsB_15 j) (vcPsB_12 o v x)) else False else False else False else False else False else False else False else post (PX.exit 2, S.mk 108 [vcPsB_6, vcPsB_7 m, vcPsB_8 k, vcPsB_9 n, vcPsB_10 i, vcPsB_16 c] (vcPsB_12 o v x))) = (roundL [] [] 7 13 (pqB o v x m k n i c j)) post := by kernel_rfl
def vcPsC_0 (n : Nat) (i : Int) : Bool := decide ((0 : Int) ≤ i ∧ i < (↑n : Int))
def vcPsC_1 (x : List It) (i : Int) : Bool := decide (Int.toNat i < List.length (List.map itmD x))
def vcPsC_2 (x : List It) (i : Int) : D := D.nth (List.map itmD x) (Int.toNat i)
noncomputable def vcPsC_3 (x : List It) (i : Int) : Bool := isD PR (43 : TypeId) (vcPsC_2 x i)
def vcPsC_4  : List (Nat × P) := [(7, P.d (D.bool true))]
def vcPsC_5 (i : Int) : Int := i + (1 : Int)
theorem vcPsC (v : List Id3) (x : List It) (k n : Nat) (i : Int) (post : PX × S → Prop) : (bif decide (i < (↑n : Int)) then bif vcPsC_0 n i then bif vcPsC_1 x i then bif vcPsC_3 x i then bif vcPsC_0 n i then bif vcPsC_1 x i then bif vcPsC_3 x i then ∃ (l : List Id3), ∃ (x_1 : Id3), [P.d (D.sl 3 (List.take k (List.map ixD v))), P.d (D.agg [D.int IntKind.i64 (D.iVal (D.cAt (vcPsC_2 x i) 0)), D.int IntKind.i64 (D.iVal (D.cAt (vcPsC_2 x i) 1)), D.int IntKind.i64 (D.iVal (D.cAt (vcPsC_2 x i) 2))])] = [P.d (D.sl 3 (List.map ixD l)), P.d (D.agg [D.int IntKind.i64 (Prod.fst x_1), D.int IntKind.i64 (Prod.fst (Prod.snd x_1)), D.int IntKind.i64 (Prod.snd (Prod.snd x_1))])] ∧ EqR [] [] ∧ List.length l ≤ 1000000 ∧ bif D.bVal (D.cAt (vcPsC_2 x i) 5) == decide (x_1 ∈ l) then post (PX.ret, S.mk 108 ((6, P.d (D.bool false)) :: vcPsC_4) []) else bif vcPsC_0 n i then bif vcPsC_1 x i then bif vcPsC_3 x i then bif D.bVal (D.cAt (vcPsC_2 x i) 5) then bif vcPsC_0 n i then bif vcPsC_1 x i then bif vcPsC_3 x i then bif !D.bVal (D.cAt (vcPsC_2 x i) 4) then post (PX.ret, S.mk 108 ((6, P.d (D.bool false)) :: vcPsC_4) []) else bif decide ((-9223372036854775808 : Int) ≤ vcPsC_5 i ∧ vcPsC_5 i ≤ (9223372036854775807 : Int)) then post (PX.normal, S.mk 108 [(7, P.d (D.bool true)), (9, P.sl 0 0 k), (10, P.sl 1 0 n), (14, P.d (D.int IntKind.i64 (vcPsC_5 i)))] [(0, En.mk 0 none (Obj.arr (41 : TypeId) true (List.map ixD v))), (1, En.mk 0 none (Obj.arr (43 : TypeId) true (List.map itmD x)))]) else False else False else False else False else bif decide ((-9223372036854775808 : Int) ≤ vcPsC_5 i ∧ vcPsC_5 i ≤ (9223372036854775807 : Int)) then post (PX.normal, S.mk 108 [(7, P.d (D.bool true)), (9, P.sl 0 0 k), (10, P.sl 1 0 n), (14, P.d (D.int IntKind.i64 (vcPsC_5 i)))] [(0, En.mk 0 none (Obj.arr (41 : TypeId) true (List.map ixD v))), (1, En.mk 0 none (Obj.arr (43 : TypeId) true (List.map itmD x)))]) else False else False else False else False else False else False else False else False else False else False else post (PX.exit 4, S.mk 108 vcPsC_4 [])) = (roundL [(21, hHas)] [] 7 22 (pqC v x k n i)) post := by kernel_rfl
def PkB (v : List Id3) (x : List It) : Prop := ∀ y ∈ x, y.1 ∈ v → y.2.2.2 = false
def PkA (o : List Pl) (v : List Id3) (x : List It) : Prop := ∀ z ∈ v, x.countP (fun y => y.1 == z) = if rooted o z = true then 1 else 0
def PkC (v : List Id3) (x : List It) : Prop := ∀ y ∈ x, y.2.2.2 = !decide (y.1 ∈ v) ∧ (y.2.2.2 = true → y.2.2.1 = true)
def gPsB : S → K (PX × S) := fun s post => ∃ o v x m k n i, s = pqB o v x m k n i 0 0 ∧ (n = x.length ∧ k = v.length ∧ x.length ≤ 1000 ∧ 0 ≤ i ∧ i < v.length ∧ PkB v x) ∧ ∀ c : Int, c = (x.countP (fun y => y.1 == v.getD i.toNat (0, 0, 0)) : Nat) → post (.exit 2, ⟨108, [(7, .d (.bool true)), (8, .sl 0 0 m), (9, .sl 1 0 k), (10, .sl 2 0 n), (11, iD i), (12, iD c)], [(0, arFP o), (1, arFI v), (2, arFX x)]⟩)
theorem vcPsA (o : List Pl) (v : List Id3) (x : List It) (m k n : Nat) (i : Int) (post : PX × S → Prop) : (bif decide (i < (↑k : Int)) then ∃ (o_1 : List Pl), ∃ (v_1 : List Id3), ∃ (x_1 : List It), ∃ (m_1 : Nat), ∃ (k_1 : Nat), ∃ (n_1 : Nat), ∃ (i_1 : Int), S.mk 108 [(7, P.d (D.bool true)), (8, P.sl 0 0 m), (9, P.sl 1 0 k), (10, P.sl 2 0 n), (11, P.d (D.int IntKind.i64 i)), (12, P.d (D.int IntKind.i64 (0 : Int))), (13, P.d (D.int IntKind.i64 (0 : Int)))] [(0, En.mk 0 none (Obj.arr 47 true (List.map plD o))), (1, En.mk 0 none (Obj.arr 41 true (List.map ixD v))), (2, En.mk 0 none (Obj.arr 43 true (List.map itmD x)))] = S.mk 108 [(7, P.d (D.bool true)), (8, P.sl 0 0 m_1), (9, P.sl 1 0 k_1), (10, P.sl 2 0 n_1), (11, P.d (D.int IntKind.i64 i_1)), (12, P.d (D.int IntKind.i64 (0 : Int))), (13, P.d (D.int IntKind.i64 (0 : Int)))] [(0, En.mk 0 none (Obj.arr 47 true (List.map plD o_1))), (1, En.mk 0 none (Obj.arr 41 true (List.map ixD v_1))), (2, En.mk 0 none (Obj.arr 43 true (List.map itmD x_1)))] ∧ (n_1 = List.length x_1 ∧ k_1 = List.length v_1 ∧ List.length x_1 ≤ 1000 ∧ (0 : Int) ≤ i_1 ∧ i_1 < (↑(List.length v_1) : Int) ∧ PkB v_1 x_1) ∧ ∀ (c : Int), c = (↑(List.countP (fun (y : It) => Prod.fst y == List.getD v_1 (Int.toNat i_1) ((0 : Int), (0 : Int), (0 : Int))) x_1) : Int) → bif decide ((0 : Int) ≤ i_1 ∧ i_1 < (↑k_1 : Int)) then bif decide (Int.toNat i_1 < List.length (List.map ixD v_1)) then bif isD PR (41 : TypeId) (D.nth (List.map ixD v_1) (Int.toNat i_1)) then ∃ (l : List Pl), ∃ (x : Id3), [P.d (D.sl 8 (List.take m_1 (List.map plD o_1))), P.d (D.agg [D.int IntKind.i64 (D.iVal (D.cAt (D.nth (List.map ixD v_1) (Int.toNat i_1)) 0)), D.int IntKind.i64 (D.iVal (D.cAt (D.nth (List.map ixD v_1) (Int.toNat i_1)) 1)), D.int IntKind.i64 (D.iVal (D.cAt (D.nth (List.map ixD v_1) (Int.toNat i_1)) 2))])] = [P.d (D.sl 8 (List.map plD l)), P.d (D.agg [D.int IntKind.i64 (Prod.fst x), D.int IntKind.i64 (Prod.fst (Prod.snd x)), D.int IntKind.i64 (Prod.snd (Prod.snd x))])] ∧ EqR [] [] ∧ List.length l ≤ 1000000 ∧ ∀ (b : Bool), b = rooted l x → bif !(c == (1 : Int)) == b then post (PX.ret, S.mk 108 [(6, P.d (D.bool false)), (7, P.d (D.bool true)), (9, P.sl 0 0 k_1), (10, P.sl 1 0 n_1)] [(0, En.mk 0 none (Obj.arr 41 true (List.map ixD v_1))), (1, En.mk 0 none (Obj.arr 43 true (List.map itmD x_1)))]) else bif decide (c > (1 : Int)) then post (PX.ret, S.mk 108 [(6, P.d (D.bool false)), (7, P.d (D.bool true)), (9, P.sl 0 0 k_1), (10, P.sl 1 0 n_1)] [(0, En.mk 0 none (Obj.arr 41 true (List.map ixD v_1))), (1, En.mk 0 none (Obj.arr 43 true (List.map itmD x_1)))]) else bif decide ((-9223372036854775808 : Int) ≤ i_1 + (1 : Int) ∧ i_1 + (1 : Int) ≤ (9223372036854775807 : Int)) then post (PX.normal, S.mk 108 [(7, P.d (D.bool true)), (8, P.sl 0 0 m_1), (9, P.sl 1 0 k_1), (10, P.sl 2 0 n_1), (11, P.d (D.int IntKind.i64 (i_1 + (1 : Int))))] [(0, En.mk 0 none (Obj.arr 47 true (List.map plD o_1))), (1, En.mk 0 none (Obj.arr 41 true (List.map ixD v_1))), (2, En.mk 0 none (Obj.arr 43 true (List.map itmD x_1)))]) else False else False else False else False else post (PX.exit 0, S.mk 108 [(7, P.d (D.bool true)), (9, P.sl 0 0 k), (10, P.sl 1 0 n)] [(0, En.mk 0 none (Obj.arr 41 true (List.map ixD v))), (1, En.mk 0 none (Obj.arr 43 true (List.map itmD x)))])) = (roundL [(20, hRo)] [(13, loopHook (kpF 7 13) gPsB)] 7 9 (pqA o v x m k n i)) post := by kernel_rfl
def gPsA : S → K (PX × S) := fun s post => ∃ o v x m k n, s = pqA o v x m k n 0 ∧ (n = x.length ∧ k = v.length ∧ m = o.length ∧ x.length ≤ 1000 ∧ v.length ≤ 1000 ∧ o.length ≤ 1000 ∧ PkB v x ∧ PkA o v x) ∧ post (.exit 0, ⟨108, [(7, .d (.bool true)), (9, .sl 0 0 k), (10, .sl 1 0 n)], [(0, arFI v), (1, arFX x)]⟩)
def gPsC : S → K (PX × S) := fun s post => ∃ v x k n, s = pqC v x k n 0 ∧ (n = x.length ∧ k = v.length ∧ x.length ≤ 1000 ∧ v.length ≤ 1000 ∧ PkC v x) ∧ post (.exit 4, ⟨108, [(7, .d (.bool true))], []⟩)
theorem vcLawPs (l : List Stp13) (nm : List UInt8) (n : Int) (post : P × List (Nat × En) → Prop) : (EqP [] [] ∧ EqR [] [] ∧ ∃ (l_1 : List Stp13), ∃ (nm_1 : List UInt8), ∃ (n_1 : Int), [P.d (D.sl 3 (List.map spE13 l)), P.d (D.sl 1 (List.map bD nm)), P.d (D.int IntKind.u16 n)] = [P.d (D.sl 3 (List.map spE13 l_1)), P.d (D.sl 1 (List.map bD nm_1)), P.d (D.int IntKind.u16 n_1)] ∧ EqR [] [] ∧ ∀ (o : List Pl) (v : List Id3) (m k : Nat), SmR o v → m = List.length o → k = List.length v → ∃ (l : List Pl), ∃ (live : List Id3), [P.d (D.sl 8 (List.take m (List.map plD o))), P.d (D.sl 3 (List.take k (List.map ixD v)))] = [P.d (D.sl 8 (List.map plD l)), P.d (D.sl 3 (List.map ixD live))] ∧ EqR [] [] ∧ (List.length l ≤ 1000 ∧ List.length live ≤ 1000) ∧ ∃ (x : List It), [P.d (D.sl 6 (List.take (List.length (itemsX (tkL l) (lvL live))) (List.map itmD (itemsX (tkL l) (lvL live)))))] = [P.d (D.sl 6 (List.map itmD x))] ∧ EqR [] [] ∧ (List.length x ≤ 1000000 ∧ Good x) ∧ ∃ (o_1 : List Pl), ∃ (v_1 : List Id3), ∃ (x : List It), ∃ (m_1 : Nat), ∃ (k_1 : Nat), ∃ (n : Nat), S.mk 108 [(7, P.d (D.bool true)), (8, P.sl 0 0 m), (9, P.sl 1 0 k), (10, P.sl 2 0 (List.length (itemsX (tkL l) (lvL live)))), (11, P.d (D.int IntKind.i64 (0 : Int)))] [(0, En.mk 0 none (Obj.arr 47 true (List.map plD o))), (1, En.mk 0 none (Obj.arr 41 true (List.map ixD v))), (2, En.mk 0 none (Obj.arr 43 true (List.map itmD (itemsX (tkL l) (lvL live)))))] = S.mk 108 [(7, P.d (D.bool true)), (8, P.sl 0 0 m_1), (9, P.sl 1 0 k_1), (10, P.sl 2 0 n), (11, P.d (D.int IntKind.i64 (0 : Int)))] [(0, En.mk 0 none (Obj.arr 47 true (List.map plD o_1))), (1, En.mk 0 none (Obj.arr 41 true (List.map ixD v_1))), (2, En.mk 0 none (Obj.arr 43 true (List.map itmD x)))] ∧ (n = List.length x ∧ k_1 = List.length v_1 ∧ m_1 = List.length o_1 ∧ List.length x ≤ 1000 ∧ List.length v_1 ≤ 1000 ∧ List.length o_1 ≤ 1000 ∧ PkB v_1 x ∧ PkA o_1 v_1 x) ∧ ∃ (v : List Id3), ∃ (x_1 : List It), ∃ (k : Nat), ∃ (n_2 : Nat), S.mk 108 [(7, P.d (D.bool true)), (9, P.sl 0 0 k_1), (10, P.sl 1 0 n), (14, P.d (D.int IntKind.i64 (0 : Int)))] [(0, En.mk 0 none (Obj.arr 41 true (List.map ixD v_1))), (1, En.mk 0 none (Obj.arr 43 true (List.map itmD x)))] = S.mk 108 [(7, P.d (D.bool true)), (9, P.sl 0 0 k), (10, P.sl 1 0 n_2), (14, P.d (D.int IntKind.i64 (0 : Int)))] [(0, En.mk 0 none (Obj.arr 41 true (List.map ixD v))), (1, En.mk 0 none (Obj.arr 43 true (List.map itmD x_1)))] ∧ (n_2 = List.length x_1 ∧ k = List.length v ∧ List.length x_1 ≤ 1000 ∧ List.length v ≤ 1000 ∧ PkC v x_1) ∧ post (P.d (D.bool true), [])) = (bodyF [(10, hAwake15), (18, hSmall), (12, hItems), (19, hPaths)] [(9, loopHook (kpF 7 9) gPsA), (22, loopHook (kpF 7 22) gPsC)] 7 [stps13 l, idsB nm, .d (.int .u16 n)] []) post := by kernel_rfl
end Pi

/- Tree: small places: paths: the law. -/
namespace Pi
open Go Go.Proofs
set_option maxRecDepth 100000
theorem up_dir {T : List Pl} {x : Id3} {w : List Id3} (h : Up T x w) : ∀ u ∈ w, u ≠ x → ∃ q, atPl T u = some q ∧ q.2.2.2 = true := by
  induction h with
  | top => intro u hu hn; simp at hu; exact absurd hu hn
  | @step x p q w h h0 hq hd hw ih =>
    intro u hu hn
    rcases List.mem_cons.1 hu with rfl | hu
    · exact absurd rfl hn
    · by_cases e : u = p.2.1
      · exact ⟨q, by rw [e]; exact hq, hd⟩
      · exact ih u hu e
theorem pkB_ok {T : List Pl} {v : List Id3} : PkB v (itemsX T (lvL v)) := fun y hy hv => by
  obtain ⟨p, _, rfl⟩ := items_mem.1 hy
  have : p.1 ∈ v := hv
  simp [itemX, lvL_mem, this]
theorem pkC_ok {T : List Pl} {v : List Id3} (hT : Rt T) : PkC v (itemsX T (lvL v)) := fun y hy => by
  obtain ⟨p, hp, rfl⟩ := items_mem.1 hy
  obtain ⟨hpT, hm⟩ := seen_pl hp
  refine ⟨by simp [itemX, lvL_mem], fun hb => ?_⟩
  have hn : p.1 ∉ v := by simpa [itemX, lvL_mem] using hb
  obtain ⟨x, hx, w, hw, hz⟩ := marked_iff.1 hm
  obtain ⟨q, h1, h2⟩ := up_dir hw p.1 hz fun e => hn (by rw [e]; exact lvL_mem.1 hx)
  rw [atPl_of hT.1 hpT] at h1
  cases h1
  exact h2
theorem pkA_ok {T : List Pl} {v : List Id3} (hT : Rt T) : PkA T v (itemsX T (lvL v)) := fun z hz => by
  rw [(itemsX_perm (T := T) (live := lvL v)).countP_eq, List.countP_map]
  have e : (fun y : It => y.1 == z) ∘ itemX T (lvL v) = (fun i : Id3 => i == z) ∘ fun p : Pl => p.1 := rfl
  rw [e, ← List.countP_map]
  have hm : marked T (lvL v) z = rooted T z := by
    rw [Bool.eq_iff_iff, rooted_iff]
    exact ⟨fun h => let ⟨w, hw, _⟩ := marked_up h; ⟨w, hw⟩, fun ⟨w, hw⟩ => marked_iff.2 ⟨z, lvL_mem.2 hz, w, hw, by obtain ⟨r, rfl⟩ := hw.hd; simp⟩⟩
  have hs := seenI_mem (T := T) (live := lvL v) (z := z)
  rw [hm] at hs
  have hn := seenI_nodup hT.1 (lvL v)
  show (seenI T (lvL v)).count z = _
  split
  · rename_i h
    have := List.count_pos_iff.2 (hs.2 h)
    have := List.nodup_iff_count.1 hn z
    omega
  · rename_i h
    exact List.count_eq_zero.2 fun hc => h (hs.1 hc)
theorem eqIy (a b : Id3) : (a.1 == b.1 && (a.2.1 == b.2.1 && true) && (a.2.2 == b.2.2 && true)) = (a == b) := by
  rw [Bool.eq_iff_iff]
  simp only [Bool.and_true, Bool.and_eq_true, beq_iff_eq]
  exact ⟨fun ⟨⟨h1, h2⟩, h3⟩ => Prod.ext h1 (Prod.ext h2 h3), fun h => by rw [h]; exact ⟨⟨rfl, rfl⟩, rfl⟩⟩
section
variable {X : XF}
theorem loopPsB : LD X 7 13 (loopHook (kpF 7 13) gPsB) :=
  LD.par (H := []) (hk := []) (by kernel_rfl) (by kernel_rfl) .nil .nil
    (A := List Pl × List Id3 × List It × Nat × Int) (B := Int) (fun a j => pqB a.1 a.2.1 a.2.2.1 a.2.2.2.1 a.2.1.length a.2.2.1.length a.2.2.2.2 ((a.2.2.1.take j.toNat).countP (fun y => y.1 == a.2.1.getD a.2.2.2.2.toNat (0, 0, 0)) : Nat) j)
    (fun a j => a.2.2.1.length ≤ 1000 ∧ 0 ≤ a.2.2.2.2 ∧ a.2.2.2.2 < a.2.1.length ∧ PkB a.2.1 a.2.2.1 ∧ 0 ≤ j ∧ j ≤ a.2.2.1.length) (fun a j => (a.2.2.1.length - j).toNat)
    (fun a x => ∃ c : Int, c = (a.2.2.1.countP (fun y => y.1 == a.2.1.getD a.2.2.2.2.toNat (0, 0, 0)) : Nat) ∧ x = (.exit 2, ⟨108, [(7, .d (.bool true)), (8, .sl 0 0 a.2.2.2.1), (9, .sl 1 0 a.2.1.length), (10, .sl 2 0 a.2.2.1.length), (11, iD a.2.2.2.2), (12, iD c)], [(0, arFP a.1), (1, arFI a.2.1), (2, arFX a.2.2.1)]⟩))
    (by
      rintro ⟨o, v, x, m, i⟩ j ⟨hm, hi, hi2, hB, h0, hj⟩
      dsimp only at *
      (rw [← vcPsB]; delta vcPsB_0 vcPsB_1 vcPsB_2 vcPsB_3 vcPsB_4 vcPsB_5 vcPsB_6 vcPsB_7 vcPsB_8 vcPsB_9 vcPsB_10 vcPsB_11 vcPsB_12 vcPsB_13 vcPsB_14 vcPsB_15 vcPsB_16)
      simp only [cF]
      simp only [cB]
      simp only [cP]
      simp only [cI]
      refine ⟨fun h1 => ?_, fun h1 => ?_⟩
      · have hjn : j.toNat < x.length := by omega
        have hin : i.toNat < v.length := by omega
        rw [it_nth hjn it0, ix_nth hin]
        have hxm : x.getD j.toNat it0 ∈ x := List.mem_of_getElem? (getD_some hjn it0)
        have ht : x.take (j + 1).toNat = x.take j.toNat ++ [x.getD j.toNat it0] := by
          rw [show (j + 1).toNat = j.toNat + 1 by omega, List.take_add_one, getD_some hjn it0]
          rfl
        have hc : (x.take j.toNat).countP (fun y => y.1 == v.getD i.toNat (0, 0, 0)) ≤ 1000 := Nat.le_trans List.countP_le_length (by rw [List.length_take]; omega)
        have hvm : v.getD i.toNat (0, 0, 0) ∈ v := List.mem_of_getElem? (getD_some hin (0, 0, 0))
        have eq := eqIy (x.getD j.toNat it0).1 (v.getD i.toNat (0, 0, 0))
        have hb := hB _ hxm
        have nx : ∀ c : Int, c = ((x.take (j + 1).toNat).countP (fun y => y.1 == v.getD i.toNat (0, 0, 0)) : Nat) → roundPost (x.length - j).toNat (fun w s => ∃ b', s = pqB o v x m v.length x.length i ((x.take b'.toNat).countP (fun y => y.1 == v.getD i.toNat (0, 0, 0)) : Nat) b' ∧ (x.length ≤ 1000 ∧ 0 ≤ i ∧ i < v.length ∧ PkB v x ∧ 0 ≤ b' ∧ b' ≤ x.length) ∧ w = (x.length - b').toNat) (fun y => ∃ c : Int, c = (x.countP (fun y => y.1 == v.getD i.toNat (0, 0, 0)) : Nat) ∧ y = (.exit 2, ⟨108, [(7, .d (.bool true)), (8, .sl 0 0 m), (9, .sl 1 0 v.length), (10, .sl 2 0 x.length), (11, iD i), (12, iD c)], [(0, arFP o), (1, arFI v), (2, arFX x)]⟩)) (.normal, pqB o v x m v.length x.length i c (j + 1)) :=
          fun c hc => ⟨(x.length - (j + 1)).toNat, by omega, j + 1, by rw [hc], ⟨hm, hi, hi2, hB, by omega, by omega⟩, rfl⟩
        rw [ht, List.countP_append, List.countP_singleton] at nx
        generalize (x.take j.toNat).countP (fun y => y.1 == v.getD i.toNat (0, 0, 0)) = c at *
        generalize x.getD j.toNat it0 = y at *
        generalize v.getD i.toNat (0, 0, 0) = z at *
        have e1 : D.iVal (D.cAt (itmD y) 0) = y.1.1 := rfl
        have e2 : D.iVal (D.cAt (itmD y) 1) = y.1.2.1 := rfl
        have e3 : D.iVal (D.cAt (itmD y) 2) = y.1.2.2 := rfl
        have e4 : D.iVal (D.cAt (ixD z) 0) = z.1 := rfl
        have e5 : D.iVal (D.cAt (ixD z) 1) = z.2.1 := rfl
        have e6 : D.iVal (D.cAt (ixD z) 2) = z.2.2 := rfl
        have e7 : D.bVal (D.cAt (itmD y) 5) = y.2.2.2 := rfl
        rw [e1, e2, e3, e4, e5, e6, eq, e7]
        have l1 : j.toNat < (x.map itmD).length := by rw [List.length_map]; exact hjn
        have l2 : i.toNat < (v.map ixD).length := by rw [List.length_map]; exact hin
        refine ⟨⟨h0, h1⟩, l1, isIt _, ⟨hi, hi2⟩, l2, isIx _, fun h => ?_, fun h => ?_⟩
        · have hv : y.2.2.2 = false := hb (by rw [show y.1 = z by simpa using h]; exact hvm)
          rw [h] at nx
          refine ⟨⟨by omega, by omega⟩, ⟨h0, h1⟩, l1, isIt _, fun h' => ?_, fun _ => ⟨⟨by omega, by omega⟩, nx _ (by simp)⟩⟩
          rw [hv] at h'
          cases h'
        · rw [h] at nx
          exact ⟨⟨by omega, by omega⟩, nx _ (by simp)⟩
      · have e : x.take j.toNat = x := List.take_of_length_le (by omega)
        rw [e]
        exact ⟨_, rfl, rfl⟩)
    (by
      rintro s post ⟨o, v, x, m, k, n, i, rfl, ⟨rfl, rfl, hm, h1, h2, hB⟩, hp⟩
      refine ⟨(o, v, x, m, i), 0, rfl, ⟨hm, h1, h2, hB, by omega, by dsimp only; omega⟩, ?_⟩
      rintro y ⟨c, hc, rfl⟩
      exact hp c hc)
theorem loopPsA : LD X 7 9 (loopHook (kpF 7 9) gPsA) :=
  LD.par (H := [(20, hRo)]) (hk := [(13, loopHook (kpF 7 13) gPsB)]) (by kernel_rfl) (by kernel_rfl) (.cons okRo .nil) (.cons loopPsB .nil)
    (A := List Pl × List Id3 × List It) (B := Int) (fun a i => pqA a.1 a.2.1 a.2.2 a.1.length a.2.1.length a.2.2.length i)
    (fun a i => (a.2.2.length ≤ 1000 ∧ a.2.1.length ≤ 1000 ∧ a.1.length ≤ 1000 ∧ PkB a.2.1 a.2.2 ∧ PkA a.1 a.2.1 a.2.2) ∧ 0 ≤ i) (fun a i => (a.2.1.length - i).toNat)
    (fun a y => y = (.exit 0, ⟨108, [(7, .d (.bool true)), (9, .sl 0 0 a.2.1.length), (10, .sl 1 0 a.2.2.length)], [(0, arFI a.2.1), (1, arFX a.2.2)]⟩))
    (by
      rintro ⟨o, v, x⟩ i ⟨⟨h1, h2, h3, hB, hA⟩, h0⟩
      dsimp only at *
      rw [← vcPsA]
      simp only [cF]
      simp only [cB]
      simp only [cP]
      simp only [cI]
      refine ⟨fun hi => ⟨o, v, x, _, _, _, i, rfl, ⟨rfl, rfl, h1, h0, hi, hB⟩, fun c hc => ?_⟩, fun _ => rfl⟩
      have hin : i.toNat < v.length := by omega
      have tk : List.take o.length (o.map plD) = o.map plD := List.take_of_length_le (by simp)
      rw [ix_nth hin, tk]
      have hvm : v.getD i.toNat (0, 0, 0) ∈ v := List.mem_of_getElem? (getD_some hin (0, 0, 0))
      have hz := hA _ hvm
      generalize v.getD i.toNat (0, 0, 0) = z at *
      refine ⟨⟨h0, hi⟩, by rw [List.length_map]; exact hin, isIx _, o, z, rfl, rfl, by omega, fun b hb => ?_⟩
      rw [hz] at hc
      have hcb : (c == 1) = b := by
        rw [hc, hb]
        cases rooted o z <;> rfl
      refine ⟨fun h => ?_, fun _ => ⟨fun h => ?_, fun _ => ⟨⟨by omega, by omega⟩, (v.length - (i + 1)).toNat, by omega, i + 1, rfl, ⟨⟨h1, h2, h3, hB, hA⟩, by omega⟩, rfl⟩⟩⟩
      · rw [hcb] at h
        cases b <;> cases h
      · split at hc <;> omega)
    (by
      rintro s post ⟨o, v, x, m, k, n, rfl, ⟨rfl, rfl, rfl, h⟩, hp⟩
      exact ⟨(o, v, x), 0, rfl, ⟨h, by omega⟩, fun y hy => by rw [hy]; exact hp⟩)
theorem loopPsC : LD X 7 22 (loopHook (kpF 7 22) gPsC) :=
  LD.par (H := [(21, hHas)]) (hk := []) (by kernel_rfl) (by kernel_rfl) (.cons okHas .nil) .nil
    (A := List Id3 × List It) (B := Int) (fun a i => pqC a.1 a.2 a.1.length a.2.length i)
    (fun a i => (a.2.length ≤ 1000 ∧ a.1.length ≤ 1000 ∧ PkC a.1 a.2) ∧ 0 ≤ i) (fun a i => (a.2.length - i).toNat)
    (fun _ y => y = (.exit 4, ⟨108, [(7, .d (.bool true))], []⟩))
    (by
      rintro ⟨v, x⟩ i ⟨⟨h1, h2, hC⟩, h0⟩
      dsimp only at *
      (rw [← vcPsC]; delta vcPsC_0 vcPsC_1 vcPsC_2 vcPsC_3 vcPsC_4 vcPsC_5)
      simp only [cF]
      simp only [cB]
      simp only [cP]
      simp only [cI]
      refine ⟨fun hi => ?_, fun _ => rfl⟩
      have hin : i.toNat < x.length := by omega
      have tk : List.take v.length (v.map ixD) = v.map ixD := List.take_of_length_le (by simp)
      rw [it_nth hin it0, tk]
      obtain ⟨c1, c2⟩ := hC _ (List.mem_of_getElem? (getD_some hin it0))
      generalize x.getD i.toNat it0 = y at *
      have l1 : i.toNat < (x.map itmD).length := by rw [List.length_map]; exact hin
      have e5 : D.bVal (D.cAt (itmD y) 5) = y.2.2.2 := rfl
      have e4 : D.bVal (D.cAt (itmD y) 4) = y.2.2.1 := rfl
      rw [e5, e4]
      have nx : roundPost (x.length - i).toNat (fun w s => ∃ b', s = pqC v x v.length x.length b' ∧ ((x.length ≤ 1000 ∧ v.length ≤ 1000 ∧ PkC v x) ∧ 0 ≤ b') ∧ w = (x.length - b').toNat) (fun y => y = (.exit 4, ⟨108, [(7, .d (.bool true))], []⟩)) (.normal, pqC v x v.length x.length (i + 1)) :=
        ⟨(x.length - (i + 1)).toNat, by omega, i + 1, rfl, ⟨⟨h1, h2, hC⟩, by omega⟩, rfl⟩
      have r : -9223372036854775808 ≤ i + 1 ∧ i + 1 ≤ 9223372036854775807 := ⟨by omega, by omega⟩
      refine ⟨⟨h0, hi⟩, l1, isIt _, ⟨h0, hi⟩, l1, isIt _, v, y.1, rfl, rfl, by omega, fun h => ?_, fun _ => ⟨⟨h0, hi⟩, l1, isIt _, fun hb => ⟨⟨h0, hi⟩, l1, isIt _, fun h => ?_, fun _ => ⟨r, nx⟩⟩, fun _ => ⟨r, nx⟩⟩⟩
      · rw [c1] at h
        cases hd : decide (y.1 ∈ v) <;> rw [hd] at h <;> exact absurd h (by decide)
      · rw [c2 hb] at h
        cases h)
    (by
      rintro s post ⟨v, x, k, n, rfl, ⟨rfl, rfl, h⟩, hp⟩
      exact ⟨(v, x), 0, rfl, ⟨h, by omega⟩, fun y hy => by rw [hy]; exact hp⟩)
end
section
variable {X : XF} (hX : XT X)
include hX
def hLawPs : KF1 := fun ps R post => ∃ l nm n, ps = [stps13 l, idsB nm, .d (.int .u16 n)] ∧ R = [] ∧ post (.d (.bool true), [])
theorem okLawPs : FD X 7 hLawPs := FD.mk (H := [(10, hAwake15), (18, hSmall), (12, hItems), (19, hPaths)]) (hk := [(9, loopHook (kpF 7 9) gPsA), (22, loopHook (kpF 7 22) gPsC)]) (by kernel_rfl) (.cons (okAwake15 hX) (.cons (okSmall loopSm13) (.cons (okItems hX) (.cons okPaths .nil)))) (.cons loopPsA (.cons loopPsC .nil)) (by
  intro ps R post hh
  obtain ⟨l, nm, n, rfl, rfl, hp⟩ := hh
  rw [← vcLawPs]
  refine ⟨rfl, rfl, l, nm, n, rfl, rfl, fun o v m k hs hm hk => ?_⟩
  subst hm
  subst hk
  have h1 := hs.1
  have h2 := hs.2.1
  have t1 : List.take o.length (o.map plD) = o.map plD := List.take_of_length_le (by simp)
  have t2 : List.take v.length (v.map ixD) = v.map ixD := List.take_of_length_le (by simp)
  rw [t1, t2]
  have hl := items_len (T := tkL o) (V := lvL v)
  have hr := smR_rt hs
  have ht := smR_tk hs
  refine ⟨o, v, rfl, rfl, ⟨by omega, by omega⟩, itemsX (tkL o) (lvL v), by rw [it_take], rfl, ⟨?_, items_good (tkL_rt o) ?_⟩, ?_⟩
  · have := tkL_len o
    omega
  · have := tkL_len o
    omega
  · rw [ht] at hl ⊢
    exact ⟨o, v, _, _, _, _, rfl, ⟨rfl, rfl, rfl, by omega, by omega, by omega, pkB_ok, pkA_ok hr⟩, v, _, _, _, rfl, ⟨rfl, rfl, by omega, by omega, pkC_ok hr⟩, hp⟩)
end
theorem okPathsSLawX (xs : List D) (h : FitAll PR 8 [32, 33, 34] xs) : ∃ lf k R, runF PR (kpT xTree) lf k 7 (xs.map P.d) [] = some (.d (.bool true), R) :=
  run_small (okLawPs xTree_t) (fun l nm n => ⟨l, nm, n, rfl, rfl, rfl⟩) xs h
end Pi

