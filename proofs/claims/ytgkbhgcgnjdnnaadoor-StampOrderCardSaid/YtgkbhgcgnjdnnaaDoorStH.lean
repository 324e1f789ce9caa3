/- Stamp: its small functions. -/
import Derived.Test.YtgkbhgcgnjdnnaaDoorStVc
namespace Pi
open Go Go.Proofs
set_option maxRecDepth 100000
theorem leafI {post : P × List (Nat × En) → Prop} {k : IntKind} {a b : Int} {R : List (Nat × En)} (hp : post (P.d (D.int k a), R)) (h : a = b) : post (P.d (D.int k b), R) := h ▸ hp
theorem leafB {post : P × List (Nat × En) → Prop} {a b : Bool} {R : List (Nat × En)} (hp : post (P.d (D.bool a), R)) (h : a = b) : post (P.d (D.bool b), R) := h ▸ hp
theorem bne_self_int (x : Int) : (x != x) = false := by simp

theorem okCompare : FD 49 hCompare := FD.mk (H := []) (by kernel_rfl) .nil .nil (by
  intro ps R post hh
  obtain ⟨x, y, rfl, rfl, hp⟩ := hh
  rw [← vcCompare]
  refine condF (bne_self_int x) (condF (bne_self_int y) ?_)
  refine condI (fun h => ?_) fun h => condI (fun h' => ?_) fun h' => ?_
  · exact leafI hp (by have h : x < y := by simpa using h
                       simp [cmpI, h])
  · exact leafI hp (by have h : ¬ x < y := by simpa using h
                       have h' : x > y := by simpa using h'
                       simp [cmpI, h, h'])
  · exact leafI hp (by have h : ¬ x < y := by simpa using h
                       have h' : ¬ x > y := by simpa using h'
                       simp [cmpI, h, h']))
theorem okOr : FD 48 hOr := FD.mk (H := []) (by kernel_rfl) .nil .nil (by
  intro ps R post hh
  obtain ⟨x, y, rfl, rfl, hp⟩ := hh
  rw [← vcOr]
  refine condI (fun h => ?_) fun h => condI (fun h' => ?_) fun h' => ?_
  · exact leafI hp (by have h : x ≠ 0 := by simpa [D.nth, D.iVal] using h
                       simp [orI, h, D.nth, D.iVal])
  · exact leafI hp (by have h : x = 0 := by simpa [D.nth, D.iVal] using h
                       simp [orI, h, D.nth, D.iVal])
  · exact leafI hp (by have h : x = 0 := by simpa [D.nth, D.iVal] using h
                       have h' : y = 0 := by simpa [D.nth, D.iVal] using h'
                       simp [orI, h, h']))
theorem okBefore : FD 50 hBefore := FD.mk (H := []) (by kernel_rfl) .nil .nil (by
  intro ps R post hh
  obtain ⟨t, r, t', r', rfl, rfl, hp⟩ := hh
  rw [← vcBefore]
  refine condI (fun h => ?_) fun h => condI (fun h' => ?_) fun h' => ?_
  · exact leafB hp (by have h : t < t' := by simpa using h
                       simp [befS, h])
  · exact leafB hp (by have h' : t = t' := by simpa using h'
                       simp [befS, h'])
  · exact leafB hp (by have h : ¬ t < t' := by simpa using h
                       have h' : ¬ t = t' := by simpa using h'
                       simp [befS, h']; omega))
theorem okRight : FD 35 hRight := FD.mk (H := []) (by kernel_rfl) .nil .nil (by
  intro ps R post hh
  obtain ⟨t, r, rfl, rfl, hp⟩ := hh
  rw [← vcRight]
  repeat' (first | refine condI (fun _ => ?_) (fun _ => ?_))
  all_goals exact leafB hp (by simp only [decide_eq_true_eq, decide_eq_false_iff_not, decide_eq_decide, rightS] at *; omega))
theorem okRightR : FD 36 hRight := FD.mk (H := []) (by kernel_rfl) .nil .nil (by
  intro ps R post hh
  obtain ⟨t, r, rfl, rfl, hp⟩ := hh
  rw [← vcRightR]
  repeat' (first | refine condI (fun _ => ?_) (fun _ => ?_))
  all_goals exact leafB hp (by simp only [decide_eq_true_eq, decide_eq_false_iff_not, decide_eq_decide, rightS] at *; omega))
theorem okRightId : FD 15 hRightId := FD.mk (H := []) (by kernel_rfl) .nil .nil (by
  intro ps R post hh
  obtain ⟨t, r, i, rfl, rfl, hp⟩ := hh
  rw [← vcRightId]
  repeat' (first | refine condI (fun _ => ?_) (fun _ => ?_))
  all_goals exact leafB hp (by simp only [decide_eq_true_eq, decide_eq_false_iff_not, decide_eq_decide, rightId] at *; omega))
theorem okRightIdR : FD 37 hRightId := FD.mk (H := []) (by kernel_rfl) .nil .nil (by
  intro ps R post hh
  obtain ⟨t, r, i, rfl, rfl, hp⟩ := hh
  rw [← vcRightIdR]
  repeat' (first | refine condI (fun _ => ?_) (fun _ => ?_))
  all_goals exact leafB hp (by simp only [decide_eq_true_eq, decide_eq_false_iff_not, decide_eq_decide, rightId] at *; omega))
theorem okCmp : FD 31 hCmp := FD.mk (H := [(49, hCompare), (48, hOr)]) (by kernel_rfl) (.cons okCompare (.cons okOr .nil)) .nil (by
  intro ps R post hh
  obtain ⟨t, r, t', r', rfl, rfl, hp⟩ := hh
  rw [← vcCmp]
  exact ⟨_, _, rfl, rfl, _, _, rfl, rfl, _, _, rfl, rfl, hp⟩)
theorem okCmpR : FD 32 hCmp := FD.mk (H := [(50, hBefore)]) (by kernel_rfl) (.cons okBefore .nil) .nil (by
  intro ps R post hh
  obtain ⟨t, r, t', r', rfl, rfl, hp⟩ := hh
  rw [← vcCmpR]
  refine ⟨_, _, _, _, rfl, rfl, condI (fun h => ?_) fun h => ⟨_, _, _, _, rfl, rfl, condI (fun h' => ?_) fun h' => ?_⟩⟩
  all_goals exact leafI hp (by simp only [befS, decide_eq_true_eq, decide_eq_false_iff_not] at *; simp only [cmpS, orI, cmpI]; (repeat' split) <;> omega))
theorem okCmpId : FD 33 hCmpId := FD.mk (H := [(49, hCompare), (48, hOr), (31, hCmp)]) (by kernel_rfl) (.cons okCompare (.cons okOr (.cons okCmp .nil))) .nil (by
  intro ps R post hh
  obtain ⟨t, r, i, t', r', i', rfl, rfl, hp⟩ := hh
  rw [← vcCmpId]
  exact ⟨_, _, _, _, rfl, rfl, _, _, rfl, rfl, _, _, rfl, rfl, hp⟩)
theorem okCmpIdR : FD 34 hCmpId := FD.mk (H := [(32, hCmp)]) (by kernel_rfl) (.cons okCmpR .nil) .nil (by
  intro ps R post hh
  obtain ⟨t, r, i, t', r', i', rfl, rfl, hp⟩ := hh
  rw [← vcCmpIdR]
  refine ⟨_, _, _, _, rfl, rfl, condI (fun h => ?_) fun h => condI (fun h' => ?_) fun h' => condI (fun h'' => ?_) fun h'' => ?_⟩
  all_goals exact leafI hp (by simp only [bne_iff_ne, bne_eq_false_iff_eq, ne_eq, decide_eq_true_eq, decide_eq_false_iff_not] at *; simp only [cmpId, orI, cmpI]; (repeat' split) <;> omega))
end Pi
