/- The text PiEfOk2. -/
import Derived.Test.YtccffeofkhkbcaaGreatDoorPiEfOk
namespace Pi
open Go

section
variable {Q : Program} {T : Tg} {F : Nat → Prop} {G : Nat → Value} {w : World} {a : Act} {s : S}

theorem S.setObj_spec {n : Nat} {e : En} {o : Obj} (he : lk s.rg n = some e) : s.setObj n o = { s with rg := ins n ⟨e.ver, e.tag, o⟩ s.rg } := by
  simp [S.setObj, he]

/-- An own row is frozen. -/
theorem SRel.freeze (h : SRel Q T F G w a s) {n : Nat} {e : En} {ty : TypeId} {fz : Bool} {es : List D} (he : lk s.rg n = some e) (heo : e.obj = .arr ty fz es) :
    ∃ F', SRel Q T F' G w a (s.setObj n (.arr ty true es)) ∧ Ext (Own G s.rg) (Own G (s.setObj n (.arr ty true es)).rg) F F' w w ∧ Names G G s.rg (s.setObj n (.arr ty true es)).rg ∧ (∀ b, blockOf (G n) = some b → F' b) ∧ (∀ b, F b → F' b) := by
  rw [S.setObj_spec he]
  have hn : Names G G s.rg (ins n ⟨e.ver, e.tag, .arr ty true es⟩ s.rg) := by
    have := names_upd (G := G) (g1 := G n) (R := s.rg) (n := n) (e1 := ⟨e.ver, e.tag, .arr ty true es⟩) (fun e' he' => by rw [he] at he'; cases he'; exact .inr ⟨rfl, fun _ => ⟨by rw [heo]; rfl, rfl⟩⟩)
    rwa [upd_self] at this
  have hlk : ∀ m e1, lk (ins n ⟨e.ver, e.tag, Obj.arr ty true es⟩ s.rg) m = some e1 → (m = n ∧ e1 = ⟨e.ver, e.tag, .arr ty true es⟩) ∨ (n ≠ m ∧ lk s.rg m = some e1) := fun m e1 h1 => by
    by_cases hm : n = m
    · subst hm; rw [lk_ins_same] at h1; cases h1; exact .inl ⟨rfl, rfl⟩
    · rw [lk_ins_ne _ _ hm] at h1; exact .inr ⟨hm, h1⟩
  have hO := h.rg n e he
  rw [heo] at hO
  have hblt : ∀ b, blockOf (G n) = some b → b < w.heap.size := fun b hb => by
    rcases hO with ⟨hg, _⟩ | ⟨b', cap, cs, k, hg, hh, _⟩
    · simp [hg, blockOf] at hb
    · simp [hg, blockOf] at hb; subst hb; exact (Array.getElem?_eq_some_iff.1 hh).1
  have hown : ∀ b, blockOf (G n) = some b → F b ∨ ownB (G n) e.obj = some b := fun b hb => by
    rw [heo]
    cases fz with
    | false => right; simp [ownB, hb]
    | true =>
      left
      rcases hO with ⟨hg, _⟩ | ⟨b', cap, cs, k, hg, hh, _, _, _, _, _, hf, _⟩
      · simp [hg, blockOf] at hb
      · simp [hg, blockOf] at hb; subst hb; exact hf rfl
  refine ⟨fun b => F b ∨ blockOf (G n) = some b, ⟨h.nod, h.size, fun t p hp => (h.tm t p hp).mono (fun _ h => .inl h) (fun _ _ => rfl) hn, ?_, ?_, ?_, ?_, ?_, fun b hb => ⟨.inl (h.z b hb).1, (h.z b hb).2⟩, h.dr⟩, ?_, hn, fun b hb => .inr hb, fun b hb => .inl hb⟩
  · intro m e1 h1
    rcases hlk m e1 h1 with ⟨rfl, rfl⟩ | ⟨hm, h1⟩
    · rcases hO with ⟨hg, h0⟩ | ⟨b', cap, cs, k, hg, hh, h1, h2, h3, h4, h5, h6, h7⟩
      · exact .inl ⟨hg, h0⟩
      · exact .inr ⟨b', cap, cs, k, hg, hh, h1, h2, h3, h4, h5, fun _ => .inr (by simp [hg, blockOf]), h7.mono (fun _ h => .inl h) (fun _ _ => rfl)⟩
    · exact (h.rg m e1 h1).mono (fun _ h => .inl h) (fun _ _ => rfl) hn rfl (fun _ _ => rfl)
  · intro m1 m2 e1 e2 b h1 h2 hb1 hb2
    rcases hlk m1 e1 h1 with ⟨rfl, rfl⟩ | ⟨hm1, h1'⟩
    · simp [ownB] at hb1
    · rcases hlk m2 e2 h2 with ⟨rfl, rfl⟩ | ⟨hm2, h2'⟩
      · simp [ownB] at hb2
      · exact h.own _ _ _ _ b h1' h2' hb1 hb2
  · intro m e1 b h1 hb hfb
    rcases hlk m e1 h1 with ⟨rfl, rfl⟩ | ⟨hm, h1⟩
    · simp [ownB] at hb
    · rcases hfb with hfb | hfb
      · exact h.fre m e1 b h1 hb hfb
      · rcases hown b hfb with h2 | h2
        · exact h.fre m e1 b h1 hb h2
        · exact hm (h.own _ _ _ _ b he h1 h2 hb)
  · intro b hb
    rcases hb with hb | hb
    · exact h.bnd b hb
    · exact hblt b hb
  · intro m e1 i h1 hi hl
    rcases hlk m e1 h1 with ⟨rfl, rfl⟩ | ⟨hm, h1⟩
    · exact h.tag _ e i he hi (by rw [heo]; rfl)
    · exact h.tag m e1 i h1 hi hl
  · refine ⟨fun _ h => .inl h, ?_, ?_, fun _ _ _ => rfl, Nat.le_refl _, rfl, rfl, rfl⟩
    · intro b hb
      rcases hb with hb | hb
      · exact .inl hb
      · rcases hown b hb with h2 | h2
        · exact .inl h2
        · exact .inr (.inl ⟨n, e, he, h2⟩)
    · rintro b ⟨m, e1, h1, hb⟩
      rcases hlk m e1 h1 with ⟨rfl, rfl⟩ | ⟨hm, h1⟩
      · simp [ownB] at hb
      · exact .inl ⟨m, e1, h1, hb⟩

/-- A frozen row, read as data. -/

theorem frz1_ok (h : SRel Q T F G w a s) {p : P} {s' : S} {x : D} (hs : frz1 Q s p = some (s', x)) {v : Value} (hv : PRep F w G s.rg v p) :
    ∃ F', SRel Q T F' G w a s' ∧ Ext (Own G s.rg) (Own G s'.rg) F F' w w ∧ Names G G s.rg s'.rg ∧ (∀ b, F b → F' b) ∧ DRep F' w v x := by
  unfold frz1 at hs
  split at hs
  · simp at hs
    obtain ⟨rfl, rfl⟩ := hs
    cases hv with | d hv => exact ⟨F, h, Ext.refl _ _ _, Names.refl _ _, fun _ h => h, hv⟩
  · rename_i n ver len
    split at hs
    · rename_i ty fz es ho
      obtain ⟨e, he, hev, heo⟩ := S.obj_spec ho
      split at hs
      · rename_i k hk
        simp at hs
        obtain ⟨rfl, rfl⟩ := hs
        cases hv with
        | sl _ _ _ _ h1 hr =>
          obtain ⟨F', f1, f2, f3, f4, f5⟩ := h.freeze he heo
          refine ⟨F', f1, f2, f3, f5, ?_⟩
          have hO := h.rg n e he
          rw [heo] at hO
          exact drep_of_arr (s := s) hO hk (hr.at he hev (by rw [heo]; rfl)) f4 f5
      · cases hs
    · cases hs
  · cases hs

theorem DRep.up {F F' : Nat → Prop} {v : Value} {x : D} (h : DRep F w v x) (hF : ∀ b, F b → F' b) : DRep F' w v x := h.mono hF (fun _ _ => rfl)

theorem frzs_ok : ∀ (ps : List P) (s : S) (F : Nat → Prop) (s' : S) (xs : List D) (vs : List Value), SRel Q T F G w a s → frzs Q s ps = some (s', xs) → vs.length = ps.length →
    (∀ (i : Nat) (v : Value) (c : P), vs[i]? = some v → ps[i]? = some c → PRep F w G s.rg v c) →
    ∃ F', SRel Q T F' G w a s' ∧ Ext (Own G s.rg) (Own G s'.rg) F F' w w ∧ Names G G s.rg s'.rg ∧ (∀ b, F b → F' b) ∧ vs.length = xs.length ∧ ∀ (i : Nat) (v : Value) (c : D), vs[i]? = some v → xs[i]? = some c → DRep F' w v c
  | [], s, F, s', xs, vs, h, hs, hl, hv => by
    simp [frzs] at hs
    obtain ⟨rfl, rfl⟩ := hs
    exact ⟨F, h, Ext.refl _ _ _, Names.refl _ _, fun _ h => h, hl, fun i v c _ hc => by simp at hc⟩
  | p :: ps, s, F, s', xs, vs, h, hs, hl, hv => by
    cases vs with
    | nil => simp at hl
    | cons v vs =>
      simp only [frzs] at hs
      split at hs
      · cases hs
      · rename_i s1 x h1
        split at hs
        · rename_i s2 xs2 h2
          simp at hs
          obtain ⟨rfl, rfl⟩ := hs
          obtain ⟨F1, a1, a2, a3, a4, a5⟩ := frz1_ok h h1 (hv 0 v p (by simp) (by simp))
          obtain ⟨F2, b1, b2, b3, b4, b5, b6⟩ := frzs_ok ps s1 F1 s2 xs2 vs a1 h2 (by simpa using hl)
            (fun i u c hu hc => (hv (i + 1) u c (by simpa using hu) (by simpa using hc)).mono a4 (fun _ _ => rfl) a3)
          refine ⟨F2, b1, a2.trans b2, a3.trans b3, fun b hb => b4 b (a4 b hb), by simpa using b5, fun i u c hu hc => ?_⟩
          cases i with
          | zero => simp at hu hc; subst hu; subst hc; exact a5.up b4
          | succ i => exact b6 i u c (by simpa using hu) (by simpa using hc)
        · cases hs

theorem frz_ok (h : SRel Q T F G w a s) {p : P} {s' : S} {x : D} (hs : frz Q s p = some (s', x)) {v : Value} (hv : PRep F w G s.rg v p) :
    ∃ F', SRel Q T F' G w a s' ∧ Ext (Own G s.rg) (Own G s'.rg) F F' w w ∧ Names G G s.rg s'.rg ∧ (∀ b, F b → F' b) ∧ DRep F' w v x := by
  unfold frz at hs
  split at hs
  · rename_i ps
    split at hs
    · rename_i s1 xs h1
      simp at hs
      obtain ⟨rfl, rfl⟩ := hs
      cases hv with
      | agg vs _ hl hone hc =>
        obtain ⟨F', f1, f2, f3, f4, f5, f6⟩ := frzs_ok ps s F s1 xs vs h h1 hl hc
        exact ⟨F', f1, f2, f3, f4, .agg vs xs f5 (fun c hcc => by
          obtain ⟨i, hi⟩ := List.getElem?_of_mem hcc
          have hlt : i < vs.length := by have := (List.getElem?_eq_some_iff.1 hi).1; omega
          exact (f6 i _ c (List.getElem?_eq_getElem hlt) hi).isCell (hone _ (List.getElem_mem hlt))) f6⟩
    · cases hs
  · exact frz1_ok h hs hv

theorem nzC_ok {t : Option TypeId} {v : Value} {x : D} (h : DRep F w v x) : DRep F w v (nzC Q t x) := by
  cases t with
  | none => exact h
  | some e =>
    unfold nzC
    simp only
    split
    · split
      · cases h; exact .slE none _ 0
      · exact h
    · exact h
theorem nzC_cell {t : Option TypeId} {x : D} (h : x.isCell = true) : (nzC Q t x).isCell = true := by
  cases t with
  | none => exact h
  | some e =>
    unfold nzC
    simp only
    split
    · split <;> rfl
    · exact h
theorem nzCs_len : ∀ (ts : List (Option TypeId)) (cs : List D), (nzCs Q ts cs).length = cs.length
  | [], cs => by cases cs <;> rfl
  | _ :: _, [] => rfl
  | t :: ts, c :: cs => by simp [nzCs, nzCs_len ts cs]
theorem nzCs_get : ∀ (ts : List (Option TypeId)) (cs : List D) (i : Nat) (c : D), (nzCs Q ts cs)[i]? = some c → ∃ (t : Option TypeId) (c0 : D), cs[i]? = some c0 ∧ c = nzC Q t c0
  | [], cs, i, c, h => ⟨none, c, by cases cs <;> exact h, rfl⟩
  | _ :: _, [], i, c, h => by simp [nzCs] at h
  | t :: ts, c0 :: cs, 0, c, h => by
    simp [nzCs] at h
    exact ⟨t, c0, rfl, h.symm⟩
  | t :: ts, c0 :: cs, i + 1, c, h => by
    simp only [nzCs, List.getElem?_cons_succ] at h
    exact nzCs_get ts cs i c h
theorem nzD_ok {t : TypeId} {v : Value} {x : D} (h : DRep F w v x) : DRep F w v (nzD Q t x) := by
  unfold nzD
  split
  · rename_i cs
    cases h with
    | agg vs _ hl hcell hc =>
      refine .agg vs _ (by rw [nzCs_len]; exact hl) (fun c hcc => ?_) (fun i u c hu hcc => ?_)
      · obtain ⟨i, hi⟩ := List.getElem?_of_mem hcc
        obtain ⟨t', c0, h1, rfl⟩ := nzCs_get _ _ _ _ hi
        exact nzC_cell (hcell c0 (List.mem_of_getElem? h1))
      · obtain ⟨t', c0, h1, rfl⟩ := nzCs_get _ _ _ _ hcc
        exact nzC_ok (hc i u c0 hu h1)
  · exact nzC_ok h
  · exact h
theorem frzT_spec {t : TypeId} {p : P} {s' : S} {x : D} (hs : frzT Q s t p = some (s', x)) : ∃ y, frz Q s p = some (s', y) ∧ (x = y ∨ x = nzD Q t y) := by
  unfold frzT at hs
  split at hs
  · exact ⟨x, hs, .inl rfl⟩
  · split at hs
    · rename_i s1 y h1
      rw [D.force_eq] at hs
      simp at hs
      obtain ⟨rfl, rfl⟩ := hs
      exact ⟨y, h1, .inr rfl⟩
    · cases hs
theorem frzT_ok (h : SRel Q T F G w a s) {t : TypeId} {p : P} {s' : S} {x : D} (hs : frzT Q s t p = some (s', x)) {v : Value} (hv : PRep F w G s.rg v p) :
    ∃ F', SRel Q T F' G w a s' ∧ Ext (Own G s.rg) (Own G s'.rg) F F' w w ∧ Names G G s.rg s'.rg ∧ (∀ b, F b → F' b) ∧ DRep F' w v x := by
  obtain ⟨y, h1, h2⟩ := frzT_spec hs
  obtain ⟨F', f1, f2, f3, f4, f5⟩ := frz_ok h h1 hv
  refine ⟨F', f1, f2, f3, f4, ?_⟩
  rcases h2 with rfl | rfl
  · exact f5
  · exact nzD_ok f5

end
end Pi

