/- The disk's functions: what they do. -/
import Derived.Test.YtidkdllppldopaaDiskVc
namespace Pi
open Go Go.Proofs
set_option maxRecDepth 100000

def hRead : KF1 := fun ps R post => ∃ c n sf room, ps = [.ref 0 0 0] ∧ R = dk (some 0) (some 1) c n sf room ∧ post (.d (.str (c.take n)), dk (some 0) (some 1) c n sf room)
def hSync : KF1 := fun ps R post => ∃ c n sf room, ps = [.ref 0 0 0] ∧ R = dk (some 0) (some 1) c n sf room ∧ post (.tup [], dk (some 0) (some 1) c n n room)
/-- How many bytes a crash leaves. -/
def left (n sf : Nat) (k : Int) : Nat := sf + (min k (n - sf)).toNat
def hCrash : KF1 := fun ps R post => ∃ c n sf room k, ps = [.ref 0 0 0, .d (.int .i64 k)] ∧ R = dk (some 0) (some 1) c n (Int.ofNat sf) room ∧ sf ≤ n ∧ n ≤ 100000000 ∧ post (.tup [], dk (some 0) (some 1) c (left n sf k) (Int.ofNat (left n sf k)) room)
def hWrite : KF1 := fun ps R post => ∃ c n sf room s, ps = [.ref 0 0 0, .d (.str s)] ∧ R = dk (some 0) (some 1) c n sf room ∧ n ≤ c.length ∧ (n : Int) ≤ room ∧ room ≤ 100000000 ∧
  (room - n < s.length → post (.d (.int .i64 211), dk (some 0) (some 1) c n sf room)) ∧ (s.length ≤ room - n → post (.d (.int .i64 0), dk (some 0) none (c.take n ++ s) (n + s.length) sf room))
def hTrim : KF1 := fun ps R post => ∃ c n sf room k, ps = [.ref 0 0 0, .d (.int .i64 k)] ∧ R = dk (some 0) (some 1) c n sf room ∧
  (k < 0 ∨ (n : Int) < k → post (.d (.int .i64 1), dk (some 0) (some 1) c n sf room)) ∧ (∀ m : Nat, k = m → m ≤ n → post (.d (.int .i64 0), dk (some 0) (some 1) c m m room))
def hFree : KF1 := fun ps R post => ∃ c n sf room, ps = [.ref 0 0 0] ∧ R = dk (some 0) (some 1) c n sf room ∧ (n : Int) ≤ room ∧ room ≤ 100000000 ∧ post (.d (.int .i64 (room - n)), dk (some 0) (some 1) c n sf room)
def hBegins : KF1 := fun ps R post => ∃ s t, ps = [.d (.str s), .d (.str t)] ∧ R = [] ∧ post (.d (.bool (decide (t <+: s))), [])
def hAwake : KF1 := fun ps R post => ps = [] ∧ R = [] ∧ post (.d (.bool true), [])

theorem okRead : FD 12 hRead := FD.mk (H := []) (by kernel_rfl) .nil .nil (by
  intro ps R post hh
  obtain ⟨c, n, sf, room, rfl, rfl, hp⟩ := hh
  rw [← vcRead c n sf room post]
  simpa using hp)
theorem okSync : FD 13 hSync := FD.mk (H := []) (by kernel_rfl) .nil .nil (by
  intro ps R post hh
  obtain ⟨c, n, sf, room, rfl, rfl, hp⟩ := hh
  rw [← vcSync c n sf room post]; exact hp)
theorem okCrash : FD 14 hCrash := FD.mk (H := []) (by kernel_rfl) .nil .nil (by
  intro ps R post hh
  obtain ⟨c, n, sf, room, k, rfl, rfl, h1, h2, hp⟩ := hh
  rw [← vcCrash c n (Int.ofNat sf) room k post]
  have e : (Int.ofNat sf + max 0 (min k ((n : Int) - Int.ofNat sf))) = Int.ofNat (left n sf k) := by simp only [left, Int.ofNat_eq_natCast]; omega
  have e2 : left n sf k ≤ n := by simp only [left]; omega
  rw [e]
  refine oblI (by simp; omega) (oblI (by simp; omega) (oblI (by simp; omega) ?_))
  simpa using hp)
theorem okWrite : FD 16 hWrite := FD.mk (H := []) (by kernel_rfl) .nil .nil (by
  intro ps R post hh
  obtain ⟨c, n, sf, room, s, rfl, rfl, h⟩ := hh
  have h1 := h.1
  have h2 := h.2.1
  have h3 := h.2.2.1
  have hp := h.2.2.2.1
  have hq := h.2.2.2.2
  clear h
  rw [← vcWrite c n sf room s post]
  refine oblI (by simp; omega) ?_
  by_cases hc : room - (n : Int) < s.length
  · exact condT (by simpa using hc) (hp hc)
  · refine condF (by simpa using hc) (oblI ?_ ?_)
    · rw [Bool.and_eq_true]
      exact ⟨by simpa using h1, roomOk_small (by simp; omega) (by simp; omega)⟩
    · have := hq (by omega)
      simpa [dk, List.map_take] using this)
theorem okTrim : FD 20 hTrim := FD.mk (H := []) (by kernel_rfl) .nil .nil (by
  intro ps R post hh
  obtain ⟨c, n, sf, room, k, rfl, rfl, hp, hq⟩ := hh
  rw [← vcTrim c n sf room k post]
  refine condI (fun h => ?_) fun h => condI (fun h' => ?_) fun h' => ?_
  · exact hp (.inl (by simpa using h))
  · exact hp (.inr (by simpa using h'))
  · have h : 0 ≤ k := by simpa using h
    have h' : k ≤ n := by simpa using h'
    refine oblI (by simp [h, h']) ?_
    have := hq k.toNat (by omega) (by omega)
    exact this)
theorem okFree : FD 23 hFree := FD.mk (H := []) (by kernel_rfl) .nil .nil (by
  intro ps R post hh
  obtain ⟨c, n, sf, room, rfl, rfl, h1, h2, hp⟩ := hh
  rw [← vcFree c n sf room post]
  exact oblI (by simp; omega) hp)
theorem okBegins : FD 15 hBegins := FD.mk (H := []) (by kernel_rfl) .nil .nil (by
  intro ps R post hh
  obtain ⟨s, t, rfl, rfl, hp⟩ := hh
  rw [← vcBegins s t post]
  refine condI (fun h => ?_) (fun h => ?_)
  · have h : t.length ≤ s.length := by simpa using h
    refine oblI (by simp [h]) ?_
    have : (List.drop 0 (List.take t.length s) == t) = decide (t <+: s) := by
      rw [List.drop_zero, Bool.eq_iff_iff]
      simp only [beq_iff_eq, decide_eq_true_eq, List.prefix_iff_eq_take]
      exact ⟨fun h => h.symm, fun h => h.symm⟩
    rw [this]
    exact hp
  · have h : ¬ t.length ≤ s.length := by simpa using h
    have : decide (t <+: s) = false := by
      rw [decide_eq_false_iff_not]
      intro hh
      exact h hh.length_le
    rw [this] at hp
    exact hp)
theorem okAwake : FD 10 hAwake := FD.mk (H := []) (by kernel_rfl) .nil .nil (by
  intro ps R post hh
  obtain ⟨rfl, rfl, hp⟩ := hh
  rw [← vcAwake post]; exact hp)

/-- What the disk's functions do. -/
abbrev HDisk : List (FuncId × KF1) := [(12, hRead), (13, hSync), (14, hCrash), (16, hWrite), (20, hTrim), (23, hFree), (15, hBegins), (10, hAwake)]
theorem okDisk : HD HDisk := .cons okRead (.cons okSync (.cons okCrash (.cons okWrite (.cons okTrim (.cons okFree (.cons okBegins (.cons okAwake .nil)))))))
end Pi
