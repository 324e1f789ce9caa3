/- DiskPlays: a round. -/
import Derived.Test.YtidkdllppldopaaPlaysVc
import Derived.Test.YtidkdllppldopaaKeepsLaw
namespace Pi
open Go Go.Proofs
set_option maxRecDepth 100000

structure PInv (c : List UInt8) (n : Nat) (sf : Nat) (room : Int) (sa lo : List UInt8) : Prop where
  n1 : n ≤ c.length
  eq : c.take n = sa ++ lo
  sf : sf = sa.length
  r0 : (n : Int) ≤ room
  r1 : room ≤ 16777216

variable {c : List UInt8} {n sf : Nat} {room : Int} {sa lo : List UInt8}
theorem PInv.len (h : PInv c n sf room sa lo) : n = sa.length + lo.length := by
  have := congrArg List.length h.eq
  rw [List.length_take, List.length_append] at this
  have := h.n1
  omega
theorem PInv.sync (h : PInv c n sf room sa lo) : PInv c n n room (sa ++ lo) [] :=
  ⟨h.n1, by rw [h.eq, List.append_nil], by rw [List.length_append, h.len], h.r0, h.r1⟩
theorem PInv.take (h : PInv c n sf room sa lo) {m : Nat} (hm : m ≤ n) : PInv c m m room ((sa ++ lo).take m) [] :=
  ⟨by have := h.n1; omega, by rw [← h.eq, List.take_take, Nat.min_eq_left hm, List.append_nil], by rw [← h.eq, List.length_take, List.length_take]; have := h.n1; omega, by have := h.r0; omega, h.r1⟩
theorem PInv.crash (h : PInv c n sf room sa lo) (k : Int) : PInv c (left n sf k) (left n sf k) room (sa ++ lo.take (max 0 (min k lo.length)).toNat) [] := by
  have hl := h.len
  have hs := h.sf
  have e : left n sf k = sa.length + (max 0 (min k lo.length)).toNat := by simp only [left]; omega
  have e2 : sa ++ lo.take (max 0 (min k lo.length)).toNat = (sa ++ lo).take (left n sf k) := by rw [e, List.take_length_add_append]
  rw [e2]
  exact h.take (by omega)
theorem PInv.write (h : PInv c n sf room sa lo) (s : List UInt8) (hs : (s.length : Int) ≤ room - n) : PInv (c.take n ++ s) (n + s.length) sf room sa (lo ++ s) :=
  ⟨by have := h.n1; rw [List.length_append, List.length_take]; omega, by rw [List.take_of_length_le (by rw [List.length_append, List.length_take]; omega), h.eq, List.append_assoc], h.sf, by omega, h.r1⟩

abbrev pOut (b : Option Bool) (c : List UInt8) (n : Nat) (sf room : Int) (sa lo : List UInt8) : S :=
  ⟨129, (match b with | some b => [(4, .d (.bool b))] | none => []) ++ [(5, .d (.bool true)), (6, .ref 0 0 0), (8, .ref 2 0 0)], pObjs c n sf room sa lo⟩

theorem roundPlays (es : List D) (hes : ∀ x ∈ es, El x) {i : Int} (i0 : 0 ≤ i) (h : PInv c n sf room sa lo) {I : Nat → S → Prop} {O : PX × S → Prop}
    (hI : ∀ {c' n' sf' sa' lo'}, i < 200 → PInv c' n' sf' room sa' lo' → ∃ m, m < (200 - i).toNat ∧ I m (pHead es (i + 1) c' n' (Int.ofNat sf') room sa' lo'))
    (hR : O (.ret, pOut (some true) c n (Int.ofNat sf) room sa lo)) (hX : O (.exit 0, pOut none c n (Int.ofNat sf) room sa lo)) :
    roundL HDisk [] 4 9 (pHead es i c n (Int.ofNat sf) room sa lo) (roundPost (200 - i).toNat I O) := by
  have hl := h.len
  have hs := h.sf
  obtain ⟨n1, heq, _, r0, r1⟩ := id h
  rw [← vcPlaysR]
  refine condI (fun hlen => ?_) (fun _ => hX)
  refine condI (fun h200 => ?_) (fun _ => hX)
  have hlen : i < (es.length : Int) := by simpa using hlen
  have h200 : i < 200 := by simpa using h200
  refine oblI (by simp [i0, hlen]) ?_
  have hlt : i.toNat < es.length := by omega
  obtain ⟨a, b, s, hx⟩ := hes (D.nth es i.toNat) (by simp [D.nth, hlt])
  refine oblI (by rw [hx]; exact isD29 a b s) ?_
  have e0 : D.iVal (D.cAt (D.nth es i.toNat) 0) = a := by rw [hx]; rfl
  have e1 : D.iVal (D.cAt (D.nth es i.toNat) 1) = b := by rw [hx]; rfl
  have e2 : D.sVal (D.cAt (D.nth es i.toNat) 2) = s := by rw [hx]; rfl
  rw [e0, e1, e2]
  refine condI (fun hlong => hR) (fun hlong => ?_)
  have hlong : s.length ≤ 100 := by simp at hlong; omega
  have hw : i + 1 ≤ 9223372036854775807 := by omega
  generalize IntKind.wrap IntKind.i64 (↑(BitVec.toNat (BitVec.ofInt 64 a &&& BitVec.ofInt 64 7)) : Int) = w
  rw [List.drop_zero, List.drop_zero]
  have hla : (sa ++ lo).length = n := by rw [List.length_append]; omega
  have htr : ∀ m : Nat, b = m → m ≤ n → ∃ m', m' < (200 - i).toNat ∧ I m' (pHead es (i + 1) c m (Int.ofNat m) room ((sa ++ lo).take b.toNat) []) := fun m hb hm => by
    have e : b.toNat = m := by omega
    rw [e]
    exact hI h200 (h.take hm)
  repeat' (first
    | refine oblI (by simp; omega) ?_
    | refine ⟨_, _, _, _, rfl, rfl, ?_⟩
    | refine ⟨_, _, _, _, _, rfl, rfl, by omega, by omega, ?_⟩
    | refine ⟨(by omega : (n : Int) ≤ room), (by omega : room ≤ 100000000), ?_⟩
    | refine ⟨_, _, _, _, _, rfl, rfl, ?_⟩
    | refine ⟨(by omega : n ≤ c.length), ?_⟩
    | refine ⟨(by omega : room ≤ 100000000), ?_⟩
    | refine And.intro rfl ?_
    | refine condI (fun _ => ?_) (fun _ => ?_)
    | refine And.intro (fun _ => ?_) ?_
    | intro _)
  all_goals first
    | exact hI h200 h
    | exact hI h200 h.sync
    | exact hI h200 (h.crash b)
    | exact hI h200 (h.write s (by omega))
    | exact htr _ ‹_› ‹_›
    | (exfalso; simp only [decide_eq_true_eq, decide_eq_false_iff_not, beq_iff_eq, beq_eq_false_iff_ne, bne_iff_ne, ne_eq, Bool.not_eq_true', Bool.not_eq_false'] at *; first | omega | contradiction)
end Pi
