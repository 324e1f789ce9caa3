/- The text PiX. -/
import Derived.Test.YtccffeofkhkbcaaGreatDoorPiLaw
/- Told functions: from contracts of the library. -/
namespace Pi
open Go Go.RowKit

section
variable {Q : Program} {w0 w : World} {F : Nat → Prop} {G : Nat → Value} {f : FuncId} {vs : List Value}

theorem HRel.later {T : Tg} (h : HRel Q T F G w []) {w' : World} (h0 : T.w0.drawn = 0) (hb : Below w.heap.size w w') : HRel Q T F G w' [] :=
  ⟨rfl, Nat.zero_le _, fun t p hp => by simp [lk] at hp, fun n e he => by simp [lk] at he, fun n m e e' b he => by simp [lk] at he, fun n e b he => by simp [lk] at he,
    fun b hf => Nat.lt_of_lt_of_le (h.bnd b hf) hb.size, fun n e i he => by simp [lk] at he, fun b hz => ⟨(h.z b hz).1, (hb.block b (h.bnd b (h.z b hz).1)).trans (h.z b hz).2⟩, by rw [h0]; exact Nat.zero_le _⟩

theorem own_nil (G : Nat → Value) (b : Nat) : ¬ Own G [] b := fun ⟨n, e, he, _⟩ => by simp [lk] at he

/-- A result of plain data. -/
theorem out_plain {T : Tg} (h0 : T.w0.drawn = 0) (hH : HRel Q T F G w []) (hc : (callFunc f ⟨vs⟩).run Q w = .ok (.enter f ⟨vs⟩) w) {p : P}
    (h : Calls Q f ⟨vs⟩ w fun e w' => ∃ v, e = .returned v ∧ Below w.heap.size w w' ∧ ∀ F G, PRep F w' G [] v p) :
    CallOut Q f ⟨vs⟩ w (fun v w' => ∃ F' G', HRel Q T F' G' w' [] ∧ PRep F' w' G' [] v p ∧ Ext (Own G []) (Own G' []) F F' w w') := by
  refine .inl ⟨hc, h.mono fun e w' ⟨v, he, hb, hp⟩ => ⟨v, he, F, G, hH.later h0 hb, hp F G, ⟨fun _ h => h, fun _ h => .inl h, fun b h => absurd h (own_nil G b), fun b hlt _ => hb.block b hlt, hb.size, hb.os, hb.tape, hb.output⟩⟩⟩

/-- A result that is a new row. -/
theorem out_row {T : Tg} (h0 : T.w0.drawn = 0) (hH : HRel Q T F G w []) (hc : (callFunc f ⟨vs⟩).run Q w = .ok (.enter f ⟨vs⟩) w) {ty : TypeId} {k : Nat} {es : List D} (hk : sz Q ty = some (k + 1))
    (h : Calls Q f ⟨vs⟩ w fun e w' => Below w.heap.size w w' ∧ ∃ b cap cs, e = .returned (.slice (some ⟨b, 0, none⟩) es.length cap) ∧ w.heap.size ≤ b ∧ w'.heap[b]? = some (.cells cs ty (0, 0)) ∧ es.length ≤ cap ∧ cap ≤ maxLen ∧ cs.size = cap * (k + 1) ∧ ∀ F, ERep F w' cs (k + 1) es) :
    CallOut Q f ⟨vs⟩ w (fun v w' => ∃ F' G', HRel Q T F' G' w' [(0, ⟨0, none, .arr ty false es⟩)] ∧ PRep F' w' G' [(0, ⟨0, none, .arr ty false es⟩)] v (.sl 0 0 es.length) ∧ Ext (Own G []) (Own G' [(0, ⟨0, none, .arr ty false es⟩)]) F F' w w') := by
  refine .inl ⟨hc, h.mono fun e w' ⟨hb, b, cap, cs, he, hge, hh, hle, hcm, hsz, hE⟩ => ⟨_, he, F, fun _ => .slice (some ⟨b, 0, none⟩) es.length cap, ?_, ?_, ?_⟩⟩
  · have hl := hH.later h0 hb
    have key : ∀ n e, lk ([(0, ⟨0, none, .arr ty false es⟩)] : List (Nat × En)) n = some e → n = 0 ∧ e = ⟨0, none, .arr ty false es⟩ := fun n e he => by
      simp only [lk] at he
      split at he
      · rename_i hn
        exact ⟨(Nat.eq_of_beq_eq_true hn).symm, by simpa using he.symm⟩
      · cases he
    have hblt : b < w'.heap.size := (Array.getElem?_eq_some_iff.1 hh).1
    refine ⟨rfl, Nat.zero_le _, fun t p hp => by simp [lk] at hp, fun n e he => ?_, fun n m e e' b he he' _ _ => ?_, fun n e b' he hb' hf => ?_, hl.bnd, fun n e i he hi => ?_, hl.z, hl.dr⟩
    · obtain ⟨rfl, rfl⟩ := key n e he
      exact .inr ⟨b, cap, cs, k + 1, rfl, hh, hk, by omega, hle, hcm, hsz, by simp, hE F⟩
    · rw [(key n e he).1, (key m e' he').1]
    · obtain ⟨rfl, rfl⟩ := key n e he
      simp [ownB, blockOf] at hb'
      subst hb'
      have := hH.bnd b hf
      omega
    · obtain ⟨rfl, rfl⟩ := key n e he
      cases hi
  · exact .sl 0 0 es.length _ rfl ⟨_, rfl, Nat.le_refl _, fun _ _ => ⟨_, _, _, rfl, rfl, Nat.le_refl _⟩⟩
  · refine ⟨fun _ h => h, fun _ h => .inl h, fun b' ⟨n, e, he, hb'⟩ => ?_, fun b hlt _ => hb.block b hlt, hb.size, hb.os, hb.tape, hb.output⟩
    simp only [lk] at he
    split at he
    · simp at he
      subst he
      simp [ownB, blockOf] at hb'
      right
      omega
    · cases he
end
end Pi

