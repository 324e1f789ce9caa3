/- The text PiUpd. -/
import Derived.Test.YtccffeofkhkbcaaGreatDoorPiKOk3
/- Changing one object, or the world beside it. -/
namespace Pi
open Go

def upd (G : Nat → Value) (n : Nat) (g : Value) : Nat → Value := fun m => if m = n then g else G m
theorem upd_same (G : Nat → Value) (n : Nat) (g : Value) : upd G n g n = g := by simp [upd]
theorem upd_ne {G : Nat → Value} {n m : Nat} (g : Value) (h : m ≠ n) : upd G n g m = G m := by simp [upd, h]
theorem upd_self (G : Nat → Value) (n : Nat) : upd G n (G n) = G := by funext m; simp [upd]; intro h; rw [h]

theorem ERep.mono {F F' : Nat → Prop} {w w' : World} {cs : Array Value} {k : Nat} {es : List D} (hF : ∀ b, F b → F' b) (hw : ∀ b, F b → w'.heap[b]? = w.heap[b]?) (h : ERep F w cs k es) : ERep F' w' cs k es :=
  fun i x hx => let ⟨h1, h2, h3⟩ := h i x hx; ⟨h1, h2, fun j c hc => (h3 j c hc).mono hF hw⟩

theorem ORep.mono {Q : Program} {F F' : Nat → Prop} {w w' : World} {G G' : Nat → Value} {R R' : List (Nat × En)} {n : Nat} {o : Obj} (h : ORep Q F w G R n o) (hF : ∀ b, F b → F' b) (hw : ∀ b, F b → w'.heap[b]? = w.heap[b]?) (hn : Names G G' R R')
    (hG : G' n = G n) (hb : ∀ b, ownB (G n) o = some b → w'.heap[b]? = w.heap[b]?) : ORep Q F' w' G' R' n o := by
  cases o with
  | gone => trivial
  | box T ps =>
    obtain ⟨b, cs, hg, hh, h1, h2, h3⟩ := h
    exact ⟨b, cs, hG.trans hg, (hb b (by simp [ownB, hg, blockOf])).trans hh, h1, h2, fun i p hp => (h3 i p hp).mono hF hw hn⟩
  | arr ty fz es =>
    rcases h with ⟨hg, he⟩ | ⟨b, cap, cs, k, hg, hh, h1, h2, h3, h4, h5, h6, h7⟩
    · exact .inl ⟨hG.trans hg, he⟩
    · refine .inr ⟨b, cap, cs, k, hG.trans hg, ?_, h1, h2, h3, h4, h5, fun hf => hF _ (h6 hf), h7.mono hF hw⟩
      cases fz with
      | true => exact (hw b (h6 rfl)).trans hh
      | false => exact (hb b (by simp [ownB, hg, blockOf])).trans hh
  | map kt get c fz =>
    obtain ⟨b, es, clock, hg, hh, h1, h2⟩ := h
    refine ⟨b, es, clock, hG.trans hg, ?_, h1.mono hF hw, fun hf => hF _ (h2 hf)⟩
    cases fz with
    | true => exact (hw b (h2 rfl)).trans hh
    | false => exact (hb b (by simp [ownB, hg, blockOf])).trans hh
  | stamp => trivial
  | mapE kt get c p kd =>
    obtain ⟨b, es, clock, hg, hh, h1, i, e, h2, h3, h4⟩ := h
    exact ⟨b, es, clock, hG.trans hg, (hb b (by simp [ownB, hg, blockOf])).trans hh, h1.mono hF hw, i, e, h2, h3.mono hF hw hn, h4⟩
  | iter kt vt left cur =>
    obtain ⟨b, mo, since, seen, last, hg, hh, h1⟩ := h
    refine ⟨b, mo, since, seen, last, hG.trans hg, (hb b (by simp [ownB, hg, blockOf])).trans hh, ?_⟩
    rcases h1 with ⟨h1, h2⟩ | ⟨m, es, h1, h2, h3, h4, h5, h6⟩
    · exact .inl ⟨h1, h2⟩
    · exact .inr ⟨m, es, h1, hF m h2, (hw m h2).trans h3, h4, h5.mono hF hw, fun k v hc => let ⟨e, a, b, c, d⟩ := h6 k v hc; ⟨e, a, b, c, d.mono hF hw⟩⟩

section
variable {Q : Program} {T : Tg} {F : Nat → Prop} {G : Nat → Value} {w : World} {a : Act} {s : S}

/-- What an object may become at its name. -/
def NewAt (G : Nat → Value) (R : List (Nat × En)) (n : Nat) (e1 : En) (g1 : Value) : Prop :=
  ∀ e, lk R n = some e → e.ver < e1.ver ∨ (e.ver = e1.ver ∧ (e1.obj.live = true → e.obj.live = true ∧ g1 = G n))

theorem names_upd {R : List (Nat × En)} {n : Nat} {e1 : En} {g1 : Value} (h : NewAt G R n e1 g1) : Names G (upd G n g1) R (ins n e1 R) := by
  constructor
  · intro m e he
    by_cases hm : n = m
    · subst hm
      refine ⟨e1, lk_ins_same _ _ _, ?_, ?_⟩
      · rcases h e he with h | h <;> omega
      · intro hv hl
        rcases h e he with h | ⟨_, h⟩
        · omega
        · exact (h hl).1
    · exact ⟨e, by rw [lk_ins_ne _ _ hm]; exact he, Nat.le_refl _, fun _ h => h⟩
  · intro m e e' he he' hv hl
    by_cases hm : n = m
    · subst hm
      rw [lk_ins_same] at he'
      cases he'
      rw [upd_same]
      rcases h e he with h | ⟨_, h⟩
      · omega
      · exact (h hl).2
    · exact upd_ne _ (Ne.symm hm)

theorem SRel.upd (h : SRel Q T F G w a s) {n : Nat} {e1 : En} {g1 : Value} {w' : World} (hnew : NewAt G s.rg n e1 g1)
    (hkeep : ∀ b, b < w.heap.size → ¬ (∃ e, lk s.rg n = some e ∧ ownB (G n) e.obj = some b) → w'.heap[b]? = w.heap[b]?)
    (hsize : w.heap.size ≤ w'.heap.size) (hos : w'.os = w.os) (htape : w'.tape = w.tape) (hout : w'.output = w.output)
    (hblk : ∀ b, ownB g1 e1.obj = some b → w.heap.size ≤ b ∨ ∃ e, lk s.rg n = some e ∧ ownB (G n) e.obj = some b)
    (ho : ORep Q F w' (Pi.upd G n g1) (ins n e1 s.rg) n e1.obj)
    (htag : ∀ i, e1.tag = some i → e1.obj.live = true → g1 = T i) (hdr : w.drawn ≤ w'.drawn := by exact Nat.le_refl _) :
    SRel Q T F (Pi.upd G n g1) w' a { s with rg := ins n e1 s.rg } ∧ Ext (Own G s.rg) (Own (Pi.upd G n g1) (ins n e1 s.rg)) F F w w' := by
  have hn := names_upd hnew
  have hF : ∀ b, F b → w'.heap[b]? = w.heap[b]? := fun b hb => hkeep b (h.bnd b hb) (fun ⟨e, he, hb'⟩ => h.fre n e b he hb' hb)
  have hother : ∀ m e b, n ≠ m → lk s.rg m = some e → ownB (G m) e.obj = some b → w'.heap[b]? = w.heap[b]? := fun m e b hm he hb =>
    hkeep b ((h.rg m e he).lt hb) (fun ⟨e', he', hb'⟩ => hm (h.own n m e' e b he' he hb' hb))
  have hlk : ∀ m e, lk (ins n e1 s.rg) m = some e → (m = n ∧ e = e1) ∨ (n ≠ m ∧ lk s.rg m = some e) := fun m e he => by
    by_cases hm : n = m
    · subst hm; rw [lk_ins_same] at he; cases he; exact .inl ⟨rfl, rfl⟩
    · rw [lk_ins_ne _ _ hm] at he; exact .inr ⟨hm, he⟩
  refine ⟨⟨h.nod, h.size, fun t p hp => (h.tm t p hp).mono (fun _ h => h) hF hn, ?_, ?_, ?_, ?_, ?_, fun b hb => ⟨(h.z b hb).1, (hF b (h.z b hb).1).trans (h.z b hb).2⟩, Nat.le_trans h.dr hdr⟩, ?_⟩
  · intro m e he
    rcases hlk m e he with ⟨rfl, rfl⟩ | ⟨hm, he⟩
    · exact ho
    · exact (h.rg m e he).mono (fun _ h => h) hF hn (upd_ne _ (Ne.symm hm)) (fun b hb => hother m e b hm he hb)
  · intro m1 m2 e e' b he he' hb hb'
    rcases hlk m1 e he with ⟨rfl, rfl⟩ | ⟨hm1, he1⟩ <;> rcases hlk m2 e' he' with ⟨rfl, rfl⟩ | ⟨hm2, he2⟩
    · rfl
    · rw [upd_same] at hb
      rw [upd_ne _ (Ne.symm hm2)] at hb'
      rcases hblk b hb with h1 | ⟨e0, he0, hb0⟩
      · have := (h.rg m2 e' he2).lt hb'; omega
      · exact h.own _ _ _ _ b he0 he2 hb0 hb'
    · rw [upd_same] at hb'
      rw [upd_ne _ (Ne.symm hm1)] at hb
      rcases hblk b hb' with h1 | ⟨e0, he0, hb0⟩
      · have := (h.rg m1 e he1).lt hb; omega
      · exact h.own _ _ _ _ b he1 he0 hb hb0
    · rw [upd_ne _ (Ne.symm hm1)] at hb
      rw [upd_ne _ (Ne.symm hm2)] at hb'
      exact h.own _ _ _ _ b he1 he2 hb hb'
  · intro m e b he hb hfb
    rcases hlk m e he with ⟨rfl, rfl⟩ | ⟨hm, he⟩
    · rw [upd_same] at hb
      rcases hblk b hb with h1 | ⟨e0, he0, hb0⟩
      · have := h.bnd b hfb; omega
      · exact h.fre _ _ b he0 hb0 hfb
    · rw [upd_ne _ (Ne.symm hm)] at hb
      exact h.fre m e b he hb hfb
  · intro b hb
    have := h.bnd b hb
    omega
  · intro m e i he hi hl
    rcases hlk m e he with ⟨rfl, rfl⟩ | ⟨hm, he⟩
    · rw [upd_same]; exact htag i hi hl
    · rw [upd_ne _ (Ne.symm hm)]; exact h.tag m e i he hi hl
  · refine ⟨fun _ h => h, fun _ h => .inl h, ?_, ?_, hsize, hos, htape, hout⟩
    · rintro b ⟨m, e, he, hb⟩
      rcases hlk m e he with ⟨rfl, rfl⟩ | ⟨hm, he⟩
      · rw [upd_same] at hb
        rcases hblk b hb with h1 | ⟨e0, he0, hb0⟩
        · exact .inr h1
        · exact .inl ⟨_, e0, he0, hb0⟩
      · rw [upd_ne _ (Ne.symm hm)] at hb
        exact .inl ⟨m, e, he, hb⟩
    · intro b hb hno
      exact hkeep b hb (fun ⟨e, he, hb'⟩ => hno ⟨n, e, he, hb'⟩)

/-- A temporary is written. -/
theorem put_ok (h : SRel Q T F G w a s) {dst : Option Nat} {p : P} {s' : S} (hs : s.put dst p = some s') {v : Value} (hp : TRep F w G s.rg a.tmps v p) :
    SRel Q T F G w (a.put dst v) s' ∧ s'.rg = s.rg := by
  cases dst with
  | none => simp [S.put] at hs; subst hs; exact ⟨h, rfl⟩
  | some d =>
    simp only [S.put] at hs
    split at hs
    · rename_i hd
      simp at hs
      subst hs
      have hd : d < s.n := by simp [Nat.blt] at hd; omega
      have hds : d < a.tmps.size := Nat.lt_of_lt_of_le hd h.size
      refine ⟨⟨h.nod, by simp [Act.put]; exact h.size, fun t q hq => ?_, h.rg, h.own, h.fre, h.bnd, h.tag, h.z, h.dr⟩, rfl⟩
      simp only [Act.put]
      simp only at hq
      by_cases ht : d = t
      · subst ht
        rw [lk_ins_same] at hq
        cases hq
        have e : (a.tmps.setIfInBounds d v).getD d undef = v := by simp [Array.getD, hds]
        rw [e]
        exact hp
      · rw [lk_ins_ne _ _ ht] at hq
        have e : (a.tmps.setIfInBounds d v).getD t undef = a.tmps.getD t undef := by
          simp only [Array.getD_eq_getD_getElem?]
          rw [Array.getElem?_setIfInBounds_ne ht]
        rw [e]
        exact h.tm t q hq
    · cases hs

theorem S.new_spec {n v : Nat} {o : Obj} {s' : S} (h : s.new n o = some (s', v)) : s' = { s with rg := ins n ⟨v, none, o⟩ s.rg } ∧ ∀ e, lk s.rg n = some e → e.ver < v := by
  unfold S.new at h
  split at h
  · rename_i hn
    simp at h
    obtain ⟨rfl, rfl⟩ := h
    exact ⟨rfl, fun e he => by rw [hn] at he; cases he⟩
  · rename_i e he
    split at h
    · rename_i hg
      simp at h
      obtain ⟨rfl, rfl⟩ := h
      exact ⟨rfl, fun e' he' => by rw [he] at he'; cases he'; omega⟩
    · split at h
      · simp at h
        obtain ⟨rfl, rfl⟩ := h
        exact ⟨rfl, fun e' he' => by rw [he] at he'; cases he'; omega⟩
      · cases h

/-- A new object, in a world in which nothing of what was there has turned. -/
theorem new_ok (h : SRel Q T F G w a s) {n v : Nat} {o : Obj} {s' : S} (hs : s.new n o = some (s', v)) {g1 : Value} {w' : World}
    (hkeep : ∀ b, b < w.heap.size → w'.heap[b]? = w.heap[b]?)
    (hsize : w.heap.size ≤ w'.heap.size) (hos : w'.os = w.os) (htape : w'.tape = w.tape) (hout : w'.output = w.output)
    (hblk : ∀ b, ownB g1 o = some b → w.heap.size ≤ b)
    (ho : ORep Q F w' (Pi.upd G n g1) (ins n ⟨v, none, o⟩ s.rg) n o) (hdr : w.drawn ≤ w'.drawn := by exact Nat.le_refl _) :
    SRel Q T F (Pi.upd G n g1) w' a s' ∧ Ext (Own G s.rg) (Own (Pi.upd G n g1) s'.rg) F F w w' ∧ Names G (Pi.upd G n g1) s.rg s'.rg ∧ lk s'.rg n = some ⟨v, none, o⟩ := by
  obtain ⟨rfl, hspec⟩ := S.new_spec hs
  have hnew : NewAt G s.rg n ⟨v, none, o⟩ g1 := fun e he => .inl (hspec e he)
  obtain ⟨h1, h2⟩ := h.upd (e1 := ⟨v, none, o⟩) hnew (fun b hb _ => hkeep b hb) hsize hos htape hout (fun b hb => .inl (hblk b hb)) ho (fun i hi => by cases hi) hdr
  exact ⟨h1, h2, names_upd hnew, lk_ins_same _ _ _⟩
end
end Pi

