/- DiskKeeps. -/
import Derived.Test.YtidkdllppldopaaKeepsVc
namespace Pi
open Go Go.Proofs
set_option maxRecDepth 100000

theorem isD29 (a b : Int) (s : List UInt8) : isD PR 29 (.agg [.int .i64 a, .int .i64 b, .str s]) = true := by kernel_rfl

theorem roundKeeps (es : List D) (hes : ∀ x ∈ es, El x) {i : Int} {safe c : List UInt8} {n sf : Nat} (h : KInv i safe c n sf) {I : Nat → S → Prop} {O : PX × S → Prop}
    (hI : ∀ safe' c' n' sf', i < 200 → KInv (i + 1) safe' c' n' sf' → ∃ m, m < (200 - i).toNat ∧ I m (kHead es safe' (i + 1) c' n' (Int.ofNat sf')))
    (hR : O (.ret, kRet safe c n (Int.ofNat sf))) (hX : O (.exit 0, kOut safe c n (Int.ofNat sf))) :
    roundL HDisk [] 3 9 (kHead es safe i c n (Int.ofNat sf)) (roundPost (200 - i).toNat I O) := by
  obtain ⟨i0, i1, n1, n2, s1, hsf⟩ := id h
  rw [← vcKeepsR]
  refine condI (fun hlen => ?_) (fun _ => hX)
  refine condI (fun h200 => ?_) (fun _ => hX)
  have hlen : i < (es.length : Int) := by simpa using hlen
  have h200 : i < 200 := by simpa using h200
  refine oblI (by simp [i0, hlen]) ?_
  have hlt : i.toNat < es.length := by omega
  obtain ⟨a, b, s, hx⟩ := hes (D.nth es i.toNat) (by simp [D.nth, hlt])
  refine oblI (by rw [hx]; exact isD29 a b s) ?_
  have e0 : D.iVal (D.cAt (D.nth es i.toNat) 0) = a := by rw [hx]; rfl
  have e1 : D.iVal (D.cAt (D.nth es i.toNat) 1) = b := by rw [hx]; rfl
  have e2 : D.sVal (D.cAt (D.nth es i.toNat) 2) = s := by rw [hx]; rfl
  rw [e0, e1, e2]
  refine condI (fun hlong => hR) (fun hlong => ?_)
  have hlong : s.length ≤ 100 := by simp at hlong; omega
  have hlc : ∀ k, k ≤ n → (c.take k).length = k := fun k hk => by rw [List.length_take]; omega
  have hw : i + 1 ≤ 9223372036854775807 := by omega
  generalize IntKind.wrap IntKind.i64 (↑(BitVec.toNat (BitVec.ofInt 64 a &&& BitVec.ofInt 64 7)) : Int) = w
  have crash : ∀ k : Nat, k ≤ n → KInv (i + 1) (c.take k) c k k := fun k hk => ⟨by omega, by omega, by omega, by omega, Nat.le_refl _, rfl⟩
  have pre : ∀ j k : Nat, j ≤ k → c.take j <+: c.take k := fun j k hjk => by
    have : c.take j = (c.take k).take j := by rw [List.take_take, Nat.min_eq_left hjk]
    rw [this]
    exact List.take_prefix _ _
  have lft : left n sf b ≤ n := by simp only [left]; omega
  have tk : (c.take n ++ s).take (n + s.length) = c.take n ++ s := by
    rw [List.take_of_length_le]
    simp
    omega
  have hwr : KInv (i + 1) safe (c.take n ++ s) (n + s.length) sf := ⟨by omega, by omega, by simp; omega, by omega, by omega, by
    rw [hsf, List.take_append_of_le_length (by rw [List.length_take]; omega), List.take_take, Nat.min_eq_left s1]⟩
  have pw : safe <+: c.take n ++ s := by rw [hsf]; exact (pre sf n s1).trans (List.prefix_append _ _)
  repeat' (first
    | refine oblI (by simp; omega) ?_
    | refine ⟨_, _, _, _, rfl, rfl, ?_⟩
    | refine ⟨_, _, _, _, _, rfl, rfl, by omega, by omega, ?_⟩
    | refine ⟨(by omega : (30000 : Int) ≤ 100000000), ?_, ?_⟩
    | refine ⟨_, _, rfl, rfl, ?_⟩
    | refine condI (fun _ => ?_) (fun _ => ?_)
    | intro _)
  all_goals first
    | exact hI _ _ _ _ h200 (crash n (Nat.le_refl _))
    | exact hI _ _ _ _ h200 (crash (left n sf b) lft)
    | exact hI _ _ _ _ h200 hwr
    | (exfalso; revert ‹(!decide _) = true›; simp [pre _ _ lft, tk, pw]; done)
    | (exfalso; revert ‹(!_ == _) = true›; simp [tk]; done)
    | (exfalso; revert ‹decide (_ > _) = true›; simp; omega)
    | (exfalso; simp only [beq_iff_eq, beq_eq_false_iff_ne, ne_eq] at *; contradiction)
    | (exfalso; omega)
end Pi
