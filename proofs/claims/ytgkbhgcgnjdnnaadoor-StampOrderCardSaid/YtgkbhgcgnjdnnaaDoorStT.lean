/- Stamp: texts. -/
import Derived.Test.YtgkbhgcgnjdnnaaDoorStVc2
namespace Pi
open Go Go.Proofs
set_option maxRecDepth 100000

theorem okSplit : FD 38 hSplit := FD.ofX Tryd.func38 (by kernel_rfl) (by
  intro ps R post hh
  obtain ⟨s, sep, rfl, rfl, hc, hp⟩ := hh
  refine ⟨(.sl 0 0 (Lib.split s sep).length, [(0, ⟨0, none, .arr 9 false ((Lib.split s sep).map D.str)⟩)]), ?_, hp _ rfl⟩
  show xSplit s sep = _
  unfold xSplit
  rw [if_pos hc])
theorem okAtoi : FD 39 hAtoi := FD.ofX Tryd.func39 (by kernel_rfl) (by
  intro ps R post hh
  obtain ⟨s, rfl, rfl, hc, hp⟩ := hh
  refine ⟨_, ?_, hp⟩
  show xAtoi s = _
  unfold xAtoi
  rw [if_pos hc])
theorem okItoa : FD 41 hItoa := FD.ofX Tryd.func41 (by kernel_rfl) (by
  intro ps R post hh
  obtain ⟨n, rfl, rfl, hc, hp⟩ := hh
  refine ⟨_, ?_, hp⟩
  show xItoa n = _
  unfold xItoa
  rw [if_pos hc])

theorem decDigits_len : ∀ u : Nat, (Lib.decDigits u).length ≤ u + 1 := by
  intro u
  induction u using Nat.strongRecOn with
  | _ u ih =>
    rw [Lib.decDigits]
    split
    · simp
    · have := ih (u / 10) (by omega)
      simp only [List.length_append, List.length_cons, List.length_nil]
      omega
theorem itoa_len {n : Int} (h0 : 0 ≤ n) (h1 : n ≤ 1099511627776) : (Lib.itoa n).length ≤ 1099511627777 := by
  unfold Lib.itoa
  rw [if_neg (by omega)]
  have := decDigits_len n.toNat
  omega

theorem okText : FD 13 hText := FD.mk (H := [(15, hRightId), (41, hItoa)]) (by kernel_rfl) (.cons okRightId (.cons okItoa .nil)) .nil (by
  intro ps R post hh
  obtain ⟨t, r, i, rfl, rfl, hp⟩ := hh
  rw [← vcText]
  refine ⟨_, _, _, rfl, rfl, condI (fun h => ?_) fun h => ?_⟩
  · have h : rightId t r i = false := by simpa using h
    rw [textId, if_neg (by simp [h])] at hp
    exact hp
  · have h : rightId t r i = true := by simpa using h
    rw [textId, if_pos h] at hp
    simp only [rightId, decide_eq_true_eq] at h
    have l1 := itoa_len (n := t) (by omega) (by omega)
    have l2 := itoa_len (n := r) (by omega) (by omega)
    have l3 := itoa_len (n := i) (by omega) (by omega)
    refine ⟨_, rfl, rfl, ⟨by omega, by omega⟩, oblI (by simp; omega) ⟨_, rfl, rfl, ⟨by omega, by omega⟩, oblI (by simp; omega) (oblI (by simp; omega) ⟨_, rfl, rfl, ⟨by omega, by omega⟩, oblI (by simp; omega) hp⟩)⟩⟩)

/-- The id of a text. -/
def parse3 (s : List UInt8) : Option (Int × Int × Int) := match Lib.split s [46] with
  | [a, b, c] => if rightId (atoiV a) (atoiV b) (atoiV c) = true ∧ textS (atoiV a) (atoiV b) (atoiV c) = s then some (atoiV a, atoiV b, atoiV c) else none
  | _ => none
structure SplitOk (s : List UInt8) : Prop where
  len : s.length < 4294967281
  cnt : (Lib.split s [46]).length = Lib.count s [46] + 1
  lim : Lib.count s [46] ≤ 4294967281
  each : ∀ x ∈ Lib.split s [46], x.length ≤ 281474976710656
def hParse : KF1 := fun ps R post => ∃ s, ps = [.d (.str s)] ∧ R = [] ∧ SplitOk s ∧ (parse3 s = none → post (.tup [.d (idD 0 0 0), .d (.bool false)], [])) ∧ (∀ t r i, parse3 s = some (t, r, i) → post (.tup [.d (idD t r i), .d (.bool true)], []))

theorem isD9 (x : List UInt8) : isD PR 9 (.str x) = true := by kernel_rfl
theorem okParse : FD 10 hParse := FD.mk (H := [(15, hRightId), (38, hSplit), (39, hAtoi), (13, hText)]) (by kernel_rfl) (.cons okRightId (.cons okSplit (.cons okAtoi (.cons okText .nil)))) .nil (by
  intro ps R post hh
  obtain ⟨s, rfl, rfl, hs, hno, hyes⟩ := hh
  rw [← vcParse]
  refine ⟨s, [46], rfl, rfl, ⟨hs.len, by simp, hs.cnt, hs.lim⟩, ?_⟩
  intro l hl
  by_cases h3 : l.length = 3
  · obtain ⟨a, b, c, rfl⟩ : ∃ a b c, l = [a, b, c] := by
      match l, h3 with
      | [a, b, c], _ => exact ⟨a, b, c, rfl⟩
    have ha : a.length ≤ 281474976710656 := hs.each a (by rw [hl]; simp)
    have hb : b.length ≤ 281474976710656 := hs.each b (by rw [hl]; simp)
    have hc : c.length ≤ 281474976710656 := hs.each c (by rw [hl]; simp)
    refine condF (by simp) (condT (by simp) (oblI (by simp) (oblI (by simp) (oblI (isD9 a) ⟨a, rfl, rfl, ha, ?_⟩))))
    refine condT (by simp) (oblI (by simp) (oblI (by simp) (oblI (isD9 b) ⟨b, rfl, rfl, hb, ?_⟩)))
    refine condT (by simp) (oblI (by simp) (oblI (by simp) (oblI (isD9 c) ⟨c, rfl, rfl, hc, ?_⟩)))
    refine condF (by simp) ⟨_, _, _, rfl, rfl, condI (fun h => ?_) fun h => ⟨_, _, _, rfl, rfl, condI (fun h' => ?_) fun h' => ?_⟩⟩
    · have h : rightId (atoiV a) (atoiV b) (atoiV c) = false := by simpa using h
      exact hno (by simp [parse3, hl, h])
    · have h : rightId (atoiV a) (atoiV b) (atoiV c) = true := by simpa using h
      have h' : ¬ textS (atoiV a) (atoiV b) (atoiV c) = s := by simpa [textId, h] using h'
      exact hno (by simp [parse3, hl, h'])
    · have h : rightId (atoiV a) (atoiV b) (atoiV c) = true := by simpa using h
      have h' : textS (atoiV a) (atoiV b) (atoiV c) = s := by simpa [textId, h] using h'
      exact hyes _ _ _ (by simp [parse3, hl, h, h'])
  · refine condT (by simp; omega) (hno ?_)
    unfold parse3
    rw [hl]
    split
    · simp at h3
    · rfl)
end Pi
