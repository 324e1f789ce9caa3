/- The text PiEfOk. -/
import Derived.Test.YtccffeofkhkbcaaGreatDoorPiUpd
import Derived.Deep.AppendSrc
/- Operations that make or turn something: what the interpreter says of them holds. -/
namespace Pi
open Go

theorem Names.trans {G1 G2 G3 : Nat → Value} {R1 R2 R3 : List (Nat × En)} (h : Names G1 G2 R1 R2) (k : Names G2 G3 R2 R3) : Names G1 G3 R1 R3 := by
  constructor
  · intro n e he
    obtain ⟨e', he', hv, hl⟩ := h.on n e he
    obtain ⟨e'', he'', hv', hl'⟩ := k.on n e' he'
    exact ⟨e'', he'', by omega, fun h1 h2 => hl (by omega) (hl' (by omega) h2)⟩
  · intro n e e'' he he'' hv hl
    obtain ⟨e', he', hv', hl'⟩ := h.on n e he
    obtain ⟨e3, he3, hv3, hl3⟩ := k.on n e' he'
    rw [he''] at he3
    cases he3
    rw [k.same n e' e'' he' he'' (by omega) hl, h.same n e e' he he' (by omega) (hl3 (by omega) hl)]

section
variable {Q : Program} {T : Tg} {F : Nat → Prop} {G : Nat → Value} {w : World} {a : Act} {s : S}

theorem own1_ok (h : SRel Q T F G w a s) {n : Nat} {p q : P} {t : Option TypeId} {s' : S} (hs : own1 s n p t = some (s', q)) {v : Value} (hv : PRep F w G s.rg v p) :
    ∃ G', SRel Q T F G' w a s' ∧ Ext (Own G s.rg) (Own G' s'.rg) F F w w ∧ Names G G' s.rg s'.rg ∧ PRep F w G' s'.rg v q := by
  unfold own1 at hs
  split at hs
  · rename_i e
    split at hs
    · rename_i s1 ver hn
      simp at hs
      obtain ⟨rfl, rfl⟩ := hs
      obtain ⟨h1, h2, h3, h4⟩ := new_ok h hn (g1 := .slice none 0 0) (w' := w) (fun _ _ => rfl) (Nat.le_refl _) rfl rfl rfl (fun b hb => by simp [ownB, blockOf] at hb) (.inl ⟨upd_same _ _ _, rfl⟩)
      refine ⟨_, h1, h2, h3, ?_⟩
      cases hv with
      | d hv => cases hv; exact .sl n ver 0 _ rfl ⟨_, h4, Nat.le_refl _, fun _ _ => ⟨none, 0, 0, upd_same _ _ _, rfl, Nat.le_refl _⟩⟩
    · cases hs
  · simp at hs
    obtain ⟨rfl, rfl⟩ := hs
    exact ⟨G, h, Ext.refl _ _ _, Names.refl _ _, hv⟩

theorem ownCells_ok : ∀ (ps : List P) (ts : List (Option TypeId)) (n : Nat) (s : S) (G : Nat → Value) (s' : S) (qs : List P) (vs : List Value), SRel Q T F G w a s → ownCells s n ps ts = some (s', qs) → vs.length = ps.length →
    (∀ (i : Nat) (v : Value) (c : P), vs[i]? = some v → ps[i]? = some c → PRep F w G s.rg v c) →
    ∃ G', SRel Q T F G' w a s' ∧ Ext (Own G s.rg) (Own G' s'.rg) F F w w ∧ Names G G' s.rg s'.rg ∧ vs.length = qs.length ∧ ∀ (i : Nat) (v : Value) (c : P), vs[i]? = some v → qs[i]? = some c → PRep F w G' s'.rg v c
  | [], ts, n, s, G, s', qs, vs, h, hs, hl, hv => by
    simp [ownCells] at hs
    obtain ⟨rfl, rfl⟩ := hs
    exact ⟨G, h, Ext.refl _ _ _, Names.refl _ _, hl, fun i v c _ hc => by simp at hc⟩
  | p :: ps, ts, n, s, G, s', qs, vs, h, hs, hl, hv => by
    cases vs with
    | nil => simp at hl
    | cons v vs =>
      simp only [ownCells] at hs
      split at hs
      · cases hs
      · rename_i s1 q h1
        split at hs
        · rename_i s2 qs2 h2
          simp at hs
          obtain ⟨rfl, rfl⟩ := hs
          obtain ⟨G1, a1, a2, a3, a4⟩ := own1_ok h h1 (hv 0 v p (by simp) (by simp))
          obtain ⟨G2, b1, b2, b3, b4, b5⟩ := ownCells_ok ps ts.tail (n + 1) s1 G1 s2 qs2 vs a1 h2 (by simpa using hl)
            (fun i u c hu hc => (hv (i + 1) u c (by simpa using hu) (by simpa using hc)).mono (fun _ h => h) (fun _ _ => rfl) a3)
          refine ⟨G2, b1, a2.trans b2, a3.trans b3, by simpa using b4, fun i u c hu hc => ?_⟩
          cases i with
          | zero => simp at hu hc; subst hu; subst hc; exact a4.mono (fun _ h => h) (fun _ _ => rfl) b3
          | succ i => exact b5 i u c (by simpa using hu) (by simpa using hc)
        · cases hs

/-- A new variable. -/
theorem newBox_ok (h : SRel Q T F G w a s) {dst : Option Nat} {t : TypeId} {ps : List P} {s' : S} (hs : newBox Q s dst t ps = some s') {cs : Array Value} (hl : cs.toList.length = ps.length) (hone : ∀ u ∈ cs.toList, u.oneCell' = true)
    (hv : ∀ (i : Nat) (v : Value) (c : P), cs.toList[i]? = some v → ps[i]? = some c → PRep F w G s.rg v c) :
    ∃ G', SRel Q T F G' (w.alloc (.cells cs t)) (a.put dst (.pointer (some ⟨w.heap.size, 0, none⟩))) s' ∧ Ext (Own G s.rg) (Own G' s'.rg) F F w (w.alloc (.cells cs t)) := by
  unfold newBox at hs
  split at hs
  · cases hs
  · rename_i s1 qs h1
    split at hs
    · rename_i s2 v h2
      obtain ⟨G1, a1, a2, a3, a4, a5⟩ := ownCells_ok ps _ _ s G s1 qs cs.toList h h1 hl hv
      have hkeep : ∀ b, b < w.heap.size → (w.alloc (.cells cs t)).heap[b]? = w.heap[b]? := fun b hb => heap_alloc_old w _ b hb
      obtain ⟨b1, b2, b3, b4⟩ := new_ok a1 h2 (g1 := .pointer (some ⟨w.heap.size, 0, none⟩)) (w' := w.alloc (.cells cs t)) hkeep (by simp) rfl rfl rfl (fun b hb => by simp [ownB, blockOf] at hb; omega)
        ⟨w.heap.size, cs, upd_same _ _ _, heap_alloc_new w _, by simpa using a4, hone, fun i p hp => by
          have hi : i < qs.length := (List.getElem?_eq_some_iff.1 hp).1
          have hics : i < cs.toList.length := by omega
          have := a5 i _ p (List.getElem?_eq_getElem hics) hp
          have e : cs.getD i undef = cs.toList[i] := by simp [Array.getD, show i < cs.size by simpa using hics]
          rw [e]
          obtain ⟨hs2, hsp⟩ := S.new_spec h2
          exact this.mono (fun _ h => h) (fun b hb => hkeep b (a1.bnd b hb)) (by
            have := names_upd (G := G1) (g1 := .pointer (some ⟨w.heap.size, 0, none⟩)) (R := s1.rg) (n := site dst) (e1 := ⟨v, none, .box t qs⟩) (fun e he => .inl (hsp e he))
            exact this)⟩
      obtain ⟨c1, c2⟩ := put_ok b1 hs (v := .pointer (some ⟨w.heap.size, 0, none⟩)) (TRep.of (.ref (site dst) v 0 _ ⟨_, b4, Nat.le_refl _, fun _ _ => ⟨w.heap.size, upd_same _ _ _, rfl⟩⟩ rfl))
      refine ⟨_, c1, ?_⟩
      rw [c2]
      exact a2.trans b2
    · cases hs
end
end Pi

