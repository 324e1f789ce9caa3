/- The text PiIter. -/
import Derived.Test.YtccffeofkhkbcaaGreatDoorPiMapW
/- Maps that are gone through. -/
namespace Pi
open Go

section
variable {Q : Program} {T : Tg} {F : Nat → Prop} {G : Nat → Value} {w : World} {a : Act} {s : S}

/-- An own object is frozen. -/
theorem SRel.freezeG (h : SRel Q T F G w a s) {n : Nat} {e : En} {o1 : Obj} (he : lk s.rg n = some e) (hl0 : e.obj.live = true) (ho1 : ∀ b, ownB (G n) o1 ≠ some b)
    (hblt : ∀ b, blockOf (G n) = some b → b < w.heap.size) (hown : ∀ b, blockOf (G n) = some b → F b ∨ ownB (G n) e.obj = some b)
    (hO : ORep Q (fun b => F b ∨ blockOf (G n) = some b) w G (ins n ⟨e.ver, e.tag, o1⟩ s.rg) n o1) :
    ∃ F', SRel Q T F' G w a (s.setObj n o1) ∧ Ext (Own G s.rg) (Own G (s.setObj n o1).rg) F F' w w ∧ Names G G s.rg (s.setObj n o1).rg ∧ (∀ b, blockOf (G n) = some b → F' b) ∧ (∀ b, F b → F' b) := by
  rw [S.setObj_spec he]
  have hn : Names G G s.rg (ins n ⟨e.ver, e.tag, o1⟩ s.rg) := by
    have := names_upd (G := G) (g1 := G n) (R := s.rg) (n := n) (e1 := ⟨e.ver, e.tag, o1⟩) (fun e' he' => by rw [he] at he'; cases he'; exact .inr ⟨rfl, fun _ => ⟨hl0, rfl⟩⟩)
    rwa [upd_self] at this
  have hlk : ∀ m e1, lk (ins n ⟨e.ver, e.tag, o1⟩ s.rg) m = some e1 → (m = n ∧ e1 = ⟨e.ver, e.tag, o1⟩) ∨ (n ≠ m ∧ lk s.rg m = some e1) := fun m e1 h1 => by
    by_cases hm : n = m
    · subst hm; rw [lk_ins_same] at h1; cases h1; exact .inl ⟨rfl, rfl⟩
    · rw [lk_ins_ne _ _ hm] at h1; exact .inr ⟨hm, h1⟩
  refine ⟨fun b => F b ∨ blockOf (G n) = some b, ⟨h.nod, h.size, fun t p hp => (h.tm t p hp).mono (fun _ h => .inl h) (fun _ _ => rfl) hn, ?_, ?_, ?_, ?_, ?_, fun b hb => ⟨.inl (h.z b hb).1, (h.z b hb).2⟩, h.dr⟩, ?_, hn, fun b hb => .inr hb, fun b hb => .inl hb⟩
  · intro m e1 h1
    rcases hlk m e1 h1 with ⟨rfl, rfl⟩ | ⟨hm, h1⟩
    · exact hO
    · exact (h.rg m e1 h1).mono (fun _ h => .inl h) (fun _ _ => rfl) hn rfl (fun _ _ => rfl)
  · intro m1 m2 e1 e2 b h1 h2 hb1 hb2
    rcases hlk m1 e1 h1 with ⟨rfl, rfl⟩ | ⟨hm1, h1'⟩
    · exact absurd hb1 (ho1 b)
    · rcases hlk m2 e2 h2 with ⟨rfl, rfl⟩ | ⟨hm2, h2'⟩
      · exact absurd hb2 (ho1 b)
      · exact h.own _ _ _ _ b h1' h2' hb1 hb2
  · intro m e1 b h1 hb hfb
    rcases hlk m e1 h1 with ⟨rfl, rfl⟩ | ⟨hm, h1⟩
    · exact absurd hb (ho1 b)
    · rcases hfb with hfb | hfb
      · exact h.fre m e1 b h1 hb hfb
      · rcases hown b hfb with h2 | h2
        · exact h.fre m e1 b h1 hb h2
        · exact hm (h.own _ _ _ _ b he h1 h2 hb)
  · intro b hb
    rcases hb with hb | hb
    · exact h.bnd b hb
    · exact hblt b hb
  · intro m e1 i h1 hi hl
    rcases hlk m e1 h1 with ⟨rfl, rfl⟩ | ⟨hm, h1⟩
    · exact h.tag _ e i he hi hl0
    · exact h.tag m e1 i h1 hi hl
  · refine ⟨fun _ h => .inl h, ?_, ?_, fun _ _ _ => rfl, Nat.le_refl _, rfl, rfl, rfl⟩
    · intro b hb
      rcases hb with hb | hb
      · exact .inl hb
      · rcases hown b hb with h2 | h2
        · exact .inl h2
        · exact .inr (.inl ⟨n, e, he, h2⟩)
    · rintro b ⟨m, e1, h1, hb⟩
      rcases hlk m e1 h1 with ⟨rfl, rfl⟩ | ⟨hm, h1⟩
      · exact absurd hb (ho1 b)
      · exact .inl ⟨m, e1, h1, hb⟩

theorem rangeP_ok (h : SRel Q T F G w a s) {dst : Option Nat} {t : TypeId} {p : P} {s' : S} {v : Value} (hs : rangeP Q s dst t p = some s') (hv : PRep F w G s.rg v p) :
    ∃ r w' F' G', (Instr.range t v).run Q w = .ok r w' ∧ SRel Q T F' G' w' (a.put dst r) s' ∧ Ext (Own G s.rg) (Own G' s'.rg) F F' w w' := by
  unfold rangeP at hs
  split at hs
  · rename_i kt vt n ver hmt
    have hun := mapTy_spec hmt
    split at hs
    · rename_i kt' get c fz ho
      split at hs
      · rename_i hkt
        have hkt := Nat.eq_of_beq_eq_true hkt
        subst hkt
        split at hs
        · rename_i s1 ver1 hn
          obtain ⟨e, he, hev, heo, hvG, b, es, clock, hG, hb, hM⟩ := mp_at h hv ho
          rw [hG] at hvG
          subst hvG
          have hO0 := h.rg n e he
          rw [heo] at hO0
          have hbb : ∀ b', blockOf (G n) = some b' → b' = b := fun b' hb' => by rw [hG] at hb'; simp [blockOf] at hb'; exact hb'.symm
          have hblt : b < w.heap.size := (Array.getElem?_eq_some_iff.1 hb).1
          obtain ⟨F', f1, f2, f3, f4, f5⟩ := h.freezeG (o1 := .map kt get c true) he (by rw [heo]; rfl) (fun b' hb' => by simp [ownB] at hb') (fun b' hb' => by rw [hbb b' hb']; exact hblt) (fun b' hb' => by
            have := hbb b' hb'
            subst this
            rw [heo]
            cases fz with
            | false => right; simp [ownB, hb']
            | true =>
              left
              obtain ⟨b2, es2, clock2, hg2, _, _, hf2⟩ := hO0
              rw [hG] at hg2
              simp at hg2
              subst hg2
              exact hf2 rfl)
            ⟨b, es, clock, hG, hb, hM.mono (fun _ h => .inl h) (fun _ _ => rfl), fun _ => .inr (by rw [hG]; rfl)⟩
          have hFb : F' b := f4 b (by rw [hG]; rfl)
          have hkeep : ∀ b', b' < w.heap.size → (w.alloc (.mapIter (some b) clock #[] clock)).heap[b']? = w.heap[b']? := fun b' hb' => heap_alloc_old w _ b' hb'
          obtain ⟨b1, b2, b3, b4⟩ := new_ok f1 hn (g1 := .pointer (some ⟨w.heap.size, 0, none⟩)) (w' := w.alloc (.mapIter (some b) clock #[] clock)) hkeep (by simp) rfl rfl rfl (fun b' hb' => by simp [ownB, blockOf] at hb'; omega)
            ⟨w.heap.size, some b, clock, #[], clock, upd_same _ _ _, heap_alloc_new w _, .inr ⟨b, es, rfl, hFb, (hkeep b hblt).trans hb, rfl, hM.iter.mono f5 (fun b' hb' => hkeep b' (h.bnd b' hb')), fun k v hc => by cases hc⟩⟩
          obtain ⟨c1, c2⟩ := put_ok b1 hs (v := .pointer (some ⟨w.heap.size, 0, none⟩)) (TRep.of (.ref (site dst) ver1 0 _ ⟨_, b4, Nat.le_refl _, fun _ _ => ⟨w.heap.size, upd_same _ _ _, rfl⟩⟩ rfl))
          refine ⟨.pointer (some ⟨w.heap.size, 0, none⟩), _, F', _, ?_, c1, ?_⟩
          · simp [Instr.range, run_underlying hun, MapKept.run_getObj_map hb]
          · rw [c2]; exact f2.trans b2
        · cases hs
      · cases hs
    · cases hs
  · rename_i kt vt hmt
    have hun := mapTy_spec hmt
    split at hs
    · rename_i s1 ver1 hn
      have hv' : v = .map none := hv.toV (p := .d .nilm) rfl
      subst hv'
      have hkeep : ∀ b', b' < w.heap.size → (w.alloc (.mapIter none 0 #[] 0)).heap[b']? = w.heap[b']? := fun b' hb' => heap_alloc_old w _ b' hb'
      obtain ⟨b1, b2, b3, b4⟩ := new_ok h hn (g1 := .pointer (some ⟨w.heap.size, 0, none⟩)) (w' := w.alloc (.mapIter none 0 #[] 0)) hkeep (by simp) rfl rfl rfl (fun b' hb' => by simp [ownB, blockOf] at hb'; omega)
        ⟨w.heap.size, none, 0, #[], 0, upd_same _ _ _, heap_alloc_new w _, .inl ⟨rfl, fun _ => rfl, rfl⟩⟩
      obtain ⟨c1, c2⟩ := put_ok b1 hs (v := .pointer (some ⟨w.heap.size, 0, none⟩)) (TRep.of (.ref (site dst) ver1 0 _ ⟨_, b4, Nat.le_refl _, fun _ _ => ⟨w.heap.size, upd_same _ _ _, rfl⟩⟩ rfl))
      refine ⟨.pointer (some ⟨w.heap.size, 0, none⟩), _, F, _, ?_, c1, ?_⟩
      · simp [Instr.range, run_underlying hun]
      · rw [c2]; exact b2
    · cases hs
  · cases hs

theorem delD_ne {k k' : D} (get : D → Option D) (h : k ≠ k') : delD k get k' = get k' := by
  unfold delD
  cases hb : D.eqB k k' with
  | false => rfl
  | true => exact absurd ((D.eqB_iff k k').1 hb) h
theorem delD_same (k : D) (get : D → Option D) : delD k get k = none := by
  unfold delD; rw [(D.eqB_iff k k).2 rfl]; rfl

/-- One entry less. -/
theorem IRep.next {kt : TypeId} {left : D → Option D} {es : List MapEntry} {clock : Nat} {seen : Array Nat} (h : IRep Q F w kt left es clock seen) {e : MapEntry} (he : e ∈ es) (hs : seen.contains e.born = false) :
    ∃ k v, left k = some v ∧ k.toV = some e.key ∧ DRep F w e.val v ∧ IRep Q F w kt (delD k left) es clock (seen.push e.born) := by
  obtain ⟨ks, h1, h3, h4, h5, h6, h7⟩ := h
  obtain ⟨i, hi⟩ := List.getElem?_of_mem he
  have hil : i < ks.length := by have := (List.getElem?_eq_some_iff.1 hi).1; omega
  obtain ⟨⟨k, v⟩, hp⟩ : ∃ p, ks[i]? = some p := ⟨ks[i], List.getElem?_eq_getElem hil⟩
  obtain ⟨a1, a2, a3⟩ := h3 i _ e hp hi
  refine ⟨k, v, (h7 k v).2 ⟨i, e, hp, hi, hs⟩, a2, a3, ks, h1, h3, h4, h5, h6, fun k' v' => ?_⟩
  have born : ∀ j e', es[j]? = some e' → e'.born = e.born → j = i := fun j e' hj hb => by
    have hn := List.pairwise_iff_getElem.1 h6
    obtain ⟨l1, e1⟩ := List.getElem?_eq_some_iff.1 hi
    obtain ⟨l2, e2⟩ := List.getElem?_eq_some_iff.1 hj
    refine Classical.byContradiction fun hne => ?_
    rcases Nat.lt_or_gt_of_ne hne with hlt | hlt
    · exact hn j i (by simpa using l2) (by simpa using l1) hlt (by simp [e1, e2, hb])
    · exact hn i j (by simpa using l1) (by simpa using l2) hlt (by simp [e1, e2, hb])
  by_cases hk : k = k'
  · subst hk
    rw [delD_same]
    constructor
    · intro h; cases h
    · rintro ⟨j, e', hj, hje, hc⟩
      have := nodup_key h4 hp hj rfl
      subst this
      rw [hi] at hje
      cases hje
      simp at hc
  · rw [delD_ne _ hk, h7]
    constructor
    · rintro ⟨j, e', hj, hje, hc⟩
      refine ⟨j, e', hj, hje, ?_⟩
      have hne : e'.born ≠ e.born := fun hb => by
        have := born j e' hje hb
        subst this
        rw [hp] at hj
        cases hj
        exact hk rfl
      simp at hc ⊢
      exact ⟨hc, hne⟩
    · rintro ⟨j, e', hj, hje, hc⟩
      refine ⟨j, e', hj, hje, ?_⟩
      simp at hc ⊢
      exact hc.1

theorem IRep.over {kt : TypeId} {left : D → Option D} {es : List MapEntry} {clock : Nat} {seen : Array Nat} (h : IRep Q F w kt left es clock seen) (hs : ∀ e ∈ es, seen.contains e.born = true) : ∀ k, left k = none := by
  obtain ⟨ks, h1, h3, h4, h5, h6, h7⟩ := h
  intro k
  cases hk : left k with
  | none => rfl
  | some v =>
    obtain ⟨i, e, _, hi, hc⟩ := (h7 k v).1 hk
    rw [hs e (List.mem_of_getElem? hi)] at hc
    cases hc
end
end Pi

