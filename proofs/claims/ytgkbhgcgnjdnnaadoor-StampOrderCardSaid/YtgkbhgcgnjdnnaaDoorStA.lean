/- Stamp: awake. -/
import Derived.Test.YtgkbhgcgnjdnnaaDoorStVc3
namespace Pi
open Go Go.Proofs
set_option maxRecDepth 100000

theorem FD.weaken {f : Nat} {h1 h2 : KF1} (h : FD f h1) (hw : ∀ ps R post, h2 ps R post → h1 ps R post) : FD f h2 := fun ps R post hp => h ps R post (hw ps R post hp)

theorem sp1 : Lib.split [51, 46, 49, 46, 48] [46] = [[51], [49], [48]] := by kernel_rfl
theorem sp2 : Lib.split [48, 51, 46, 49, 46, 48] [46] = [[48, 51], [49], [48]] := by kernel_rfl
theorem ct1 : Lib.count [51, 46, 49, 46, 48] [46] = 2 := by kernel_rfl
theorem ct2 : Lib.count [48, 51, 46, 49, 46, 48] [46] = 2 := by kernel_rfl
theorem at1 : atoiV [51] = 3 := by kernel_rfl
theorem at2 : atoiV [49] = 1 := by kernel_rfl
theorem at3 : atoiV [48] = 0 := by kernel_rfl
theorem at4 : atoiV [48, 51] = 3 := by kernel_rfl
theorem tx1 : textS 3 1 0 = [51, 46, 49, 46, 48] := by
  have d3 : Lib.decDigits 3 = [51] := by rw [Lib.decDigits]; rfl
  have d1 : Lib.decDigits 1 = [49] := by rw [Lib.decDigits]; rfl
  have d0 : Lib.decDigits 0 = [48] := by rw [Lib.decDigits]; rfl
  simp [textS, Lib.itoa, d3, d1, d0]
theorem rt1 : rightId 3 1 0 = true := by kernel_rfl

theorem okTextA : FD 13 hTextA := okText.weaken (by
  intro ps R post hh
  obtain ⟨rfl, rfl, hp⟩ := hh
  refine ⟨3, 1, 0, rfl, rfl, ?_⟩
  rw [textId, if_pos rt1, tx1]
  exact hp)
theorem okParseA : FD 10 hParseA := okParse.weaken (by
  intro ps R post hh
  rcases hh with ⟨rfl, rfl, hp⟩ | ⟨rfl, rfl, hp⟩
  · have hp3 : parse3 [51, 46, 49, 46, 48] = some (3, 1, 0) := by
      simp only [parse3, sp1, at1, at2, at3, tx1, rt1, and_self, if_true]
    refine ⟨_, rfl, rfl, ⟨by simp, by rw [sp1, ct1]; rfl, by rw [ct1]; decide, by rw [sp1]; simp⟩, fun h => (by rw [hp3] at h; cases h), fun t r i h => ?_⟩
    rw [hp3] at h
    cases h
    exact hp
  · have hp3 : parse3 [48, 51, 46, 49, 46, 48] = none := by
      simp only [parse3, sp2, at4, at2, at3, tx1]
      simp
    refine ⟨_, rfl, rfl, ⟨by simp, by rw [sp2, ct2]; rfl, by rw [ct2]; decide, by rw [sp2]; simp⟩, fun _ => hp, fun t r i h => (by rw [hp3] at h; cases h)⟩)
def hAwake : KF1 := fun ps R post => ps = [] ∧ R = [] ∧ post (.d (.bool true), [])
theorem okAwake : FD 12 hAwake := FD.mk (H := [(10, hParseA), (13, hTextA)]) (by kernel_rfl) (.cons okParseA (.cons okTextA .nil)) .nil (by
  intro ps R post hh
  obtain ⟨rfl, rfl, hp⟩ := hh
  rw [← vcAwake]
  exact .inl ⟨rfl, rfl, .inr ⟨rfl, rfl, rfl, rfl, hp⟩⟩)
end Pi
