/- StampOrder: the law. -/
import Derived.Test.YtgkbhgcgnjdnnaaDoorStOrdV
namespace Pi
open Go Go.Proofs
set_option maxRecDepth 100000

theorem cmpI_cases (x y : Int) : (x < y ∧ cmpI x y = -1) ∨ (x > y ∧ cmpI x y = 1) ∨ (x = y ∧ cmpI x y = 0) := by
  unfold cmpI
  split
  · exact .inl ⟨by assumption, rfl⟩
  · split
    · exact .inr (.inl ⟨by assumption, rfl⟩)
    · exact .inr (.inr ⟨by omega, rfl⟩)
theorem cmpId_cases (t r i t' r' i' : Int) :
    ((t < t' ∨ t = t' ∧ (r < r' ∨ r = r' ∧ i < i')) ∧ cmpId t r i t' r' i' = -1) ∨ ((t > t' ∨ t = t' ∧ (r > r' ∨ r = r' ∧ i > i')) ∧ cmpId t r i t' r' i' = 1) ∨ ((t = t' ∧ r = r' ∧ i = i') ∧ cmpId t r i t' r' i' = 0) := by
  unfold cmpId cmpS orI
  rcases cmpI_cases t t' with ⟨h1, e1⟩ | ⟨h1, e1⟩ | ⟨h1, e1⟩ <;> rcases cmpI_cases r r' with ⟨h2, e2⟩ | ⟨h2, e2⟩ | ⟨h2, e2⟩ <;> rcases cmpI_cases i i' with ⟨h3, e3⟩ | ⟨h3, e3⟩ | ⟨h3, e3⟩ <;> rw [e1, e2, e3] <;> simp <;> omega

def hOrdLaw : KF1 := fun ps R post => ∃ t r i t' r' i' t2 r2 i2, ps = [.d (idD t r i), .d (idD t' r' i'), .d (idD t2 r2 i2)] ∧ R = [] ∧ post (.d (.bool true), [])
theorem okOrd : FD 9 hOrdLaw := FD.mk (H := [(12, hAwake), (33, hCmpId)]) (by kernel_rfl) (.cons okAwake (.cons okCmpId .nil)) .nil (by
  intro ps R post hh
  obtain ⟨t, r, i, t', r', i', t2, r2, i2, rfl, rfl, hp⟩ := hh
  rw [← vcOrd]
  have h1 := cmpId_cases t r i t' r' i'
  have h2 := cmpId_cases t' r' i' t2 r2 i2
  have h3 := cmpId_cases t r i t2 r2 i2
  have h4 := cmpId_cases t' r' i' t r i
  refine ⟨rfl, rfl, _, _, _, _, _, _, rfl, rfl, _, _, _, _, _, _, rfl, rfl, _, _, _, _, _, _, rfl, rfl, _, _, _, _, _, _, rfl, rfl, ?_⟩
  generalize cmpId t r i t' r' i' = x at *
  generalize cmpId t' r' i' t2 r2 i2 = y at *
  generalize cmpId t r i t2 r2 i2 = z at *
  generalize cmpId t' r' i' t r i = u at *
  refine oblI (by simp; omega) (condF (by simp; omega) (condF ?_ (condF (by simp; omega) (condF (by simp; omega) (condI (fun _ => hp) fun hx => condI (fun _ => hp) fun hy => ?_)))))
  · by_cases hx : x = 0
    · have : t = t' ∧ r = r' ∧ i = i' := by omega
      obtain ⟨rfl, rfl, rfl⟩ := this
      simp [hx]
    · have : ¬ (t = t' ∧ r = r' ∧ i = i') := by omega
      have hb : (t == t' && (r == r' && true) && (i == i' && true)) = false := by
        cases hb : (t == t' && (r == r' && true) && (i == i' && true)) with
        | false => rfl
        | true =>
          simp at hb
          exact absurd (by omega) this
      rw [hb]
      simp [hx]
  · simp only [decide_eq_false_iff_not] at hx hy
    exact leafB hp (by simp; omega))
theorem okOrdLaw (xs : List D) (h : FitAll PR 8 [25, 25, 25] xs) : ∃ lf k R, runF PR kpT lf k 9 (xs.map P.d) [] = some (.d (.bool true), R) := by
  obtain ⟨x, r, rfl, hx, h⟩ := fitAll_cons h
  obtain ⟨y, r, rfl, hy, h⟩ := fitAll_cons h
  obtain ⟨z, r, rfl, hz, h⟩ := fitAll_cons h
  have e := fitAll_nil h
  subst e
  obtain ⟨t, r, i, rfl, _⟩ := fitE_id hx
  obtain ⟨t', r', i', rfl, _⟩ := fitE_id hy
  obtain ⟨t2, r2, i2, rfl, _⟩ := fitE_id hz
  obtain ⟨lf, k, hr⟩ := okOrd.run (y := (.d (.bool true), [])) ⟨t, r, i, t', r', i', t2, r2, i2, rfl, rfl, rfl⟩
  exact ⟨lf, k, [], hr⟩
end Pi
