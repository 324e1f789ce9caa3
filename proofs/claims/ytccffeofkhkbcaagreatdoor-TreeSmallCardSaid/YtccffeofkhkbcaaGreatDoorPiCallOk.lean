/- The text PiCallOk. -/
import Derived.Test.YtccffeofkhkbcaaGreatDoorPiRen
/- Calls. -/
namespace Pi
open Go

/-- What a call comes to. -/
def CallOut (Q : Program) (f : FuncId) (args : Array Value) (w : World) (R : Value → World → Prop) : Prop :=
  ((callFunc f args).run Q w = .ok (.enter f args) w ∧ Calls Q f args w (fun e w' => ∃ v, e = .returned v ∧ R v w')) ∨ ∃ v w', (callFunc f args).run Q w = .ok (.value v) w' ∧ R v w'

/-- What is owed by a way to answer calls. -/
def CFOK (Q : Program) (w0 : World) (cf : CF) : Prop :=
  ∀ fid ps R p R1, cf fid ps R = some (p, R1) → ∀ (F : Nat → Prop) (G : Nat → Value) (w : World) (vs : List Value), HRel Q ⟨G, w0⟩ F G w R → vs.length = ps.length →
    (∀ (i : Nat) (v : Value) (c : P), vs[i]? = some v → ps[i]? = some c → PRep F w G R v c) →
    CallOut Q fid ⟨vs⟩ w (fun v w' => ∃ F' G', HRel Q ⟨G, w0⟩ F' G' w' R1 ∧ PRep F' w' G' R1 v p ∧ Ext (Own G R) (Own G' R1) F F' w w')

def backObj (R1 : List (Nat × En)) (σ : Nat → Nat → Option (Nat × Nat)) (i : Nat) : Obj :=
  match tagEn R1 i with | some (_, e1) => renObj σ e1.obj | none => .gone

theorem putBack_lk (R1 : List (Nat × En)) (σ : Nat → Nat → Option (Nat × Nat)) : ∀ (ns : List Nat) (i0 : Nat) (R R2 : List (Nat × En)), putBack R1 σ i0 ns R = some R2 → ns.Nodup →
    ∀ m, (∀ i, posOf ns m i0 = some i → ∃ e, lk R m = some e ∧ lk R2 m = some ⟨e.ver, e.tag, backObj R1 σ i⟩) ∧ (posOf ns m i0 = none → lk R2 m = lk R m)
  | [], i0, R, R2, h, _, m => by
    simp [putBack] at h
    subst h
    exact ⟨fun i hi => by simp [posOf] at hi, fun _ => rfl⟩
  | n :: ns, i0, R, R2, h, hnd, m => by
    simp only [putBack] at h
    split at h
    · cases h
    · rename_i e he
      obtain ⟨hn, hnd⟩ := List.nodup_cons.1 hnd
      obtain ⟨h1, h2⟩ := putBack_lk R1 σ ns (i0 + 1) _ R2 h hnd m
      simp only [posOf]
      by_cases hm : n = m
      · subst hm
        have hp : posOf ns n (i0 + 1) = none := by
          cases hp : posOf ns n (i0 + 1) with
          | none => rfl
          | some j => exact absurd (List.mem_of_getElem? (posOf_spec ns n _ j hp).2) hn
        refine ⟨fun i hi => ?_, fun hi => by simp at hi⟩
        simp at hi
        subst hi
        refine ⟨e, he, ?_⟩
        rw [h2 hp, lk_ins_same]
        rfl
      · have hb : Nat.beq n m = false := by
          cases hb : Nat.beq n m with
          | false => rfl
          | true => exact absurd (Nat.eq_of_beq_eq_true hb) hm
        simp only [hb, Bool.false_eq_true, if_false]
        rw [lk_ins_ne _ _ hm] at h1 h2
        exact ⟨h1, h2⟩

def newVer (R : List (Nat × En)) (m : Nat) : Nat := match lk R m with | none => 0 | some e0 => e0.ver + 1

theorem putNew_lk (R1 : List (Nat × En)) (σ : Nat → Nat → Option (Nat × Nat)) : ∀ (ms : List Nat) (m0 : Nat) (R R3 : List (Nat × En)), putNew R1 σ m0 ms R = some R3 →
    ∀ m, (∀ n, (m0 ≤ m ∧ ms[m - m0]? = some n) → ∃ e1, lk R1 n = some e1 ∧ lk R3 m = some ⟨newVer R m, none, renObj σ e1.obj⟩ ∧ ∀ e0, lk R m = some e0 → e0.obj = .gone) ∧
      ((m < m0 ∨ m0 + ms.length ≤ m) → lk R3 m = lk R m)
  | [], m0, R, R3, h, m => by
    simp [putNew] at h
    subst h
    exact ⟨fun n hn => by simp at hn, fun _ => rfl⟩
  | n :: ms, m0, R, R3, h, m => by
    simp only [putNew] at h
    split at h
    · cases h
    · rename_i e1 he1
      have key : ∃ ver, putNew R1 σ (m0 + 1) ms (ins m0 ⟨ver, none, renObj σ e1.obj⟩ R) = some R3 ∧ ver = newVer R m0 ∧ ∀ e0, lk R m0 = some e0 → e0.obj = .gone := by
        split at h
        · rename_i hl
          exact ⟨0, h, by simp [newVer, hl], fun e0 he0 => by rw [hl] at he0; cases he0⟩
        · rename_i e0 hl
          split at h
          · rename_i hg
            exact ⟨e0.ver + 1, h, by simp [newVer, hl], fun e0' he0 => by rw [hl] at he0; cases he0; exact hg⟩
          · cases h
      obtain ⟨ver, h, hver, hgone⟩ := key
      obtain ⟨h1, h2⟩ := putNew_lk R1 σ ms (m0 + 1) _ R3 h m
      constructor
      · intro k ⟨hle, hk⟩
        by_cases hm : m0 = m
        · subst hm
          simp at hk
          subst hk
          refine ⟨e1, he1, ?_, hgone⟩
          rw [h2 (.inl (by omega)), lk_ins_same, hver]
        · have e : m - m0 = (m - (m0 + 1)) + 1 := by omega
          rw [e] at hk
          obtain ⟨e2, g1, g2, g3⟩ := h1 k ⟨by omega, by simpa using hk⟩
          rw [newVer, lk_ins_ne _ _ hm] at g2
          rw [lk_ins_ne _ _ hm] at g3
          exact ⟨e2, g1, g2, g3⟩
      · intro hm
        rw [h2 (by rcases hm with hm | hm; exact .inl (by omega); exact .inr (by simp at hm; omega)), lk_ins_ne]
        intro e
        subst e
        rcases hm with hm | hm
        · omega
        · simp at hm; omega

theorem tagEn_spec {R1 : List (Nat × En)} {i m : Nat} {e : En} (h : tagEn R1 i = some (m, e)) : lk R1 m = some e ∧ e.tag = some i := by
  unfold tagEn at h
  split at h
  · split at h
    · rename_i e' he
      split at h
      · rename_i j hj
        split at h
        · rename_i hij
          have hij : i = j := by simpa using hij
          simp at h
          obtain ⟨rfl, rfl⟩ := h
          exact ⟨he, by rw [hj, hij]⟩
        · cases h
      · cases h
    · cases h
  · cases h

section
variable {Q : Program} {T : Tg} {F : Nat → Prop} {G : Nat → Value} {w : World} {a : Act} {s : S}

theorem frzAgg_ok {t : TypeId} {p q : P} {s' : S} {v : Value} (h : SRel Q T F G w a s) (h1 : frzAgg Q s t p = some (s', q)) (hvp : PRep F w G s.rg v p) :
    ∃ F', SRel Q T F' G w a s' ∧ Ext (Own G s.rg) (Own G s'.rg) F F' w w ∧ Names G G s.rg s'.rg ∧ (∀ b, F b → F' b) ∧ PRep F' w G s'.rg v q := by
  unfold frzAgg at h1
  split at h1
  · split at h1
    · split at h1
      · rename_i s3 x hx
        simp at h1
        obtain ⟨rfl, rfl⟩ := h1
        obtain ⟨F', f1, f2, f3, f4, f5⟩ := frzT_ok h hx hvp
        exact ⟨F', f1, f2, f3, f4, .d f5⟩
      · cases h1
    · simp at h1
      obtain ⟨rfl, rfl⟩ := h1
      exact ⟨F, h, Ext.refl _ _ _, Names.refl _ _, fun _ h => h, hvp⟩
  · split at h1
    · rw [D.force_eq] at h1
      simp at h1
      obtain ⟨rfl, rfl⟩ := h1
      cases hvp with
      | d hd => exact ⟨F, h, Ext.refl _ _ _, Names.refl _ _, fun _ h => h, .d (nzD_ok hd)⟩
    · simp at h1
      obtain ⟨rfl, rfl⟩ := h1
      exact ⟨F, h, Ext.refl _ _ _, Names.refl _ _, fun _ h => h, hvp⟩
  · simp at h1
    obtain ⟨rfl, rfl⟩ := h1
    exact ⟨F, h, Ext.refl _ _ _, Names.refl _ _, fun _ h => h, hvp⟩

theorem frzArgs_ok : ∀ (ps : List P) (ts : List TypeId) (s : S) (F : Nat → Prop) (s' : S) (qs : List P) (vs : List Value), SRel Q T F G w a s → frzArgs Q s ts ps = some (s', qs) → vs.length = ps.length →
    (∀ (i : Nat) (v : Value) (c : P), vs[i]? = some v → ps[i]? = some c → PRep F w G s.rg v c) →
    ∃ F', SRel Q T F' G w a s' ∧ Ext (Own G s.rg) (Own G s'.rg) F F' w w ∧ Names G G s.rg s'.rg ∧ (∀ b, F b → F' b) ∧ vs.length = qs.length ∧ ∀ (i : Nat) (v : Value) (c : P), vs[i]? = some v → qs[i]? = some c → PRep F' w G s'.rg v c
  | [], ts, s, F, s', xs, vs, h, hs, hl, hv => by
    simp [frzArgs] at hs
    obtain ⟨rfl, rfl⟩ := hs
    exact ⟨F, h, Ext.refl _ _ _, Names.refl _ _, fun _ h => h, hl, fun i v c _ hc => by simp at hc⟩
  | p :: ps, ts, s, F, s', xs, vs, h, hs, hl, hv => by
    cases vs with
    | nil => simp at hl
    | cons v vs =>
      simp only [frzArgs] at hs
      split at hs
      · cases hs
      · rename_i s1 q h1
        split at hs
        · rename_i s2 qs2 h2
          simp at hs
          obtain ⟨rfl, rfl⟩ := hs
          have one : ∃ F', SRel Q T F' G w a s1 ∧ Ext (Own G s.rg) (Own G s1.rg) F F' w w ∧ Names G G s.rg s1.rg ∧ (∀ b, F b → F' b) ∧ PRep F' w G s1.rg v q := by
            have hvp := hv 0 v p (by simp) (by simp)
            unfold frzArg at h1
            split at h1
            · split at h1
              · rename_i s3 x hx
                simp at h1
                obtain ⟨rfl, rfl⟩ := h1
                obtain ⟨F', f1, f2, f3, f4, f5⟩ := frz1_ok h hx hvp
                exact ⟨F', f1, f2, f3, f4, .d f5⟩
              · cases h1
            · exact frzAgg_ok h h1 hvp
          obtain ⟨F1, a1, a2, a3, a4, a5⟩ := one
          obtain ⟨F2, b1, b2, b3, b4, b5, b6⟩ := frzArgs_ok ps ts.tail s1 F1 s2 qs2 vs a1 h2 (by simpa using hl)
            (fun i u c hu hc => (hv (i + 1) u c (by simpa using hu) (by simpa using hc)).mono a4 (fun _ _ => rfl) a3)
          refine ⟨F2, b1, a2.trans b2, a3.trans b3, fun b hb => b4 b (a4 b hb), by simpa using b5, fun i u c hu hc => ?_⟩
          cases i with
          | zero => simp at hu hc; subst hu; subst hc; exact a5.mono b4 (fun _ _ => rfl) b3
          | succ i => exact b6 i u c (by simpa using hu) (by simpa using hc)
        · cases hs

theorem handArgs_ok {f : FuncId} (ps : List P) (s : S) (F : Nat → Prop) (s' : S) (qs : List P) (vs : List Value) (h : SRel Q T F G w a s) (hs : handArgs Q s f ps = some (s', qs)) (hl : vs.length = ps.length)
    (hv : ∀ (i : Nat) (v : Value) (c : P), vs[i]? = some v → ps[i]? = some c → PRep F w G s.rg v c) :
    ∃ F', SRel Q T F' G w a s' ∧ Ext (Own G s.rg) (Own G s'.rg) F F' w w ∧ Names G G s.rg s'.rg ∧ (∀ b, F b → F' b) ∧ vs.length = qs.length ∧ ∀ (i : Nat) (v : Value) (c : P), vs[i]? = some v → qs[i]? = some c → PRep F' w G s'.rg v c := by
  unfold handArgs at hs
  split at hs
  · simp only [Option.some.injEq, Prod.mk.injEq] at hs
    obtain ⟨rfl, rfl⟩ := hs
    exact ⟨F, h, Ext.refl _ _ _, Names.refl _ _, fun _ h => h, hl, hv⟩
  · exact frzArgs_ok ps _ s F s' qs vs h hs hl hv

/-- Behind a call: the caller's objects and the callee's, in one. -/
theorem after_call (h : SRel Q T F G w a s) {ns ms : List Nat} {base : Nat} (hns : nodupN ns = true) (hms : nodupN ms = true) {R0 R1 R2 R3 : List (Nat × En)} (hsub : sub s.rg (toPos s.rg ns) true 0 ns = some R0)
    {F2 : Nat → Prop} {G2 : Nat → Value} {w' : World} (hR1 : HRel Q ⟨fun i => G (ns.getD i 0), T.w0⟩ F2 G2 w' R1) (hext : Ext (Own (fun i => G (ns.getD i 0)) R0) (Own G2 R1) F F2 w w')
    (hmsu : ∀ m ∈ ms, ∃ e, lk R1 m = some e ∧ e.tag = none)
    (hback : putBack R1 (fromCall R1 s.rg ns ms base) 0 ns s.rg = some R2) (hnew : putNew R1 (fromCall R1 s.rg ns ms base) base ms R2 = some R3) :
    ∃ G3, SRel Q T F2 G3 w' a { s with rg := R3 } ∧ Ext (Own G s.rg) (Own G3 R3) F F2 w w' ∧ Link G2 G3 R1 R3 (fromCall R1 s.rg ns ms base) := by
  have hns' := nodupN_spec ns hns
  have hms' := nodupN_spec ms hms
  obtain ⟨s1, s2, s3⟩ := h.heap.sub hsub hns
  simp only [if_true] at s1
  let σ := fromCall R1 s.rg ns ms base
  have hnewOr : ∀ m, (∃ n, base ≤ m ∧ ms[m - base]? = some n) ∨ (m < base ∨ base + ms.length ≤ m) := fun m => by
    by_cases h1 : base ≤ m ∧ m - base < ms.length
    · exact .inl ⟨_, h1.1, List.getElem?_eq_getElem h1.2⟩
    · exact .inr (by omega)
  let G3 : Nat → Value := fun m => if base ≤ m ∧ m - base < ms.length then G2 (ms.getD (m - base) 0) else G m
  have hG3new : ∀ m n, base ≤ m → ms[m - base]? = some n → G3 m = G2 n := fun m n h1 h2 => by
    have := (List.getElem?_eq_some_iff.1 h2).1
    simp only [G3, if_pos (show base ≤ m ∧ m - base < ms.length from ⟨h1, this⟩)]
    simp [List.getD_eq_getElem?_getD, h2]
  have hG3old : ∀ m, (m < base ∨ base + ms.length ≤ m) → G3 m = G m := fun m h1 => by
    simp only [G3, if_neg (show ¬ (base ≤ m ∧ m - base < ms.length) by omega)]
  have hb := fun m => putBack_lk R1 σ ns 0 s.rg R2 hback hns' m
  have hn := fun m => putNew_lk R1 σ ms base R2 R3 hnew m
  -- versions at R2
  have hver2 : ∀ m, newVer R2 m = newVer s.rg m := fun m => by
    cases hp : posOf ns m 0 with
    | none => simp [newVer, (hb m).2 hp]
    | some i =>
      obtain ⟨e, h1, h2⟩ := (hb m).1 i hp
      simp [newVer, h1, h2]
  -- what a name of R3 is
  have hR3 : ∀ m e', lk R3 m = some e' →
      (∃ n e1, base ≤ m ∧ ms[m - base]? = some n ∧ lk R1 n = some e1 ∧ e' = ⟨newVer s.rg m, none, renObj σ e1.obj⟩ ∧ G3 m = G2 n) ∨
      (∃ i e, ns[i]? = some m ∧ lk s.rg m = some e ∧ e' = ⟨e.ver, e.tag, backObj R1 σ i⟩ ∧ G3 m = G m) ∨
      (m ∉ ns ∧ lk s.rg m = some e' ∧ G3 m = G m) := fun m e' he' => by
    rcases hnewOr m with ⟨n, h1, h2⟩ | h1
    · obtain ⟨e1, g1, g2, g3⟩ := (hn m).1 n ⟨h1, h2⟩
      rw [he'] at g2
      cases g2
      exact .inl ⟨n, e1, h1, h2, g1, by rw [hver2], hG3new m n h1 h2⟩
    · rw [(hn m).2 h1] at he'
      cases hp : posOf ns m 0 with
      | none => rw [(hb m).2 hp] at he'; exact .inr (.inr ⟨posOf_none _ _ _ hp, he', hG3old m h1⟩)
      | some i =>
        obtain ⟨e, g1, g2⟩ := (hb m).1 i hp
        rw [he'] at g2
        cases g2
        obtain ⟨_, hi⟩ := posOf_spec ns m 0 i hp
        exact .inr (.inl ⟨i, e, by simpa using hi, g1, rfl, hG3old m h1⟩)
  have hlink : Link G2 G3 R1 R3 σ := by
    intro n v n' v' hσ
    simp only [σ, fromCall] at hσ
    split at hσ
    · cases hσ
    · rename_i e1 he1
      split at hσ
      · rename_i hv
        have hv : e1.ver = v := by simpa using hv
        split at hσ
        · rename_i i htag
          split at hσ
          · rename_i m n1 ex hm htn
            split at hσ
            · rename_i hnn
              have hnn : n1 = n := by simpa using hnn
              subst hnn
              split at hσ
              · rename_i e0 he0
                simp at hσ
                obtain ⟨rfl, rfl⟩ := hσ
                have hp := posOf_of_nodup hns' hm
                obtain ⟨e, g1, g2⟩ := (hb m).1 i hp
                rw [he0] at g1
                cases g1
                obtain ⟨hte1, hte2⟩ := tagEn_spec htn
                rw [he1] at hte1
                cases hte1
                have hbo : backObj R1 σ i = renObj σ e1.obj := by simp [backObj, htn]
                rcases hnewOr m with ⟨nn, h1, h2⟩ | h1
                · obtain ⟨e2, k1, k2, k3⟩ := (hn m).1 nn ⟨h1, h2⟩
                  refine ⟨_, k2, ?_, fun hvv _ => ?_⟩
                  · simp [newVer, g2]
                  · simp [newVer, g2] at hvv
                · have hl3 := (hn m).2 h1
                  rw [g2] at hl3
                  refine ⟨_, hl3, Nat.le_refl _, fun _ hlive => ⟨⟨e1, he1, hv, ?_⟩, ?_⟩⟩
                  · rw [hbo, renObj_live] at hlive; exact hlive
                  · rw [hG3old m h1]
                    rw [hbo, renObj_live] at hlive
                    have := hR1.tag n1 e1 i he1 htag hlive
                    rw [this]
                    simp [List.getD_eq_getElem?_getD, hm]
              · cases hσ
            · cases hσ
          · cases hσ
        · rename_i htag
          split at hσ
          · rename_i j hj
            obtain ⟨_, hj'⟩ := posOf_spec ms n 0 j hj
            simp at hj'
            have hm : ms[base + j - base]? = some n := by rw [show base + j - base = j by omega]; exact hj'
            obtain ⟨e2, k1, k2, k3⟩ := (hn (base + j)).1 n ⟨by omega, hm⟩
            rw [he1] at k1
            cases k1
            have hnv : n' = base + j ∧ v' = newVer s.rg (base + j) := by
              split at hσ
              · rename_i hl; simp at hσ; obtain ⟨rfl, rfl⟩ := hσ; simp [newVer, hl]
              · rename_i e0 hl; simp at hσ; obtain ⟨rfl, rfl⟩ := hσ; simp [newVer, hl]
            obtain ⟨rfl, rfl⟩ := hnv
            refine ⟨_, k2, by rw [hver2]; exact Nat.le_refl _, fun _ hlive => ⟨⟨e1, he1, hv, by rw [renObj_live] at hlive; exact hlive⟩, hG3new _ n (by omega) hm⟩⟩
          · cases hσ
      · cases hσ
  have hOwnNs : ∀ b, Own (fun i => G (ns.getD i 0)) R0 b → ∃ n e, n ∈ ns ∧ lk s.rg n = some e ∧ ownB (G n) e.obj = some b := s3
  have hFF : ∀ b, F b → w'.heap[b]? = w.heap[b]? := fun b hb => hext.keep b (h.bnd b hb) (fun ho => by
    obtain ⟨n, e, _, he, hb'⟩ := hOwnNs b ho
    exact h.fre n e b he hb' hb)
  have hother : ∀ m e b, m ∉ ns → lk s.rg m = some e → ownB (G m) e.obj = some b → ¬ Own (fun i => G (ns.getD i 0)) R0 b := fun m e b hm he hb ho => by
    obtain ⟨n, e2, hn2, he2, hb2⟩ := hOwnNs b ho
    exact hm (by rw [h.own m n e e2 b he he2 hb hb2]; exact hn2)
  have hNames : Names G G3 s.rg R3 := by
    constructor
    · intro m e he
      rcases hnewOr m with ⟨n, h1, h2⟩ | h1
      · obtain ⟨e1, g1, g2, g3⟩ := (hn m).1 n ⟨h1, h2⟩
        refine ⟨_, g2, by rw [hver2]; simp [newVer, he], fun hv _ => ?_⟩
        rw [hver2] at hv
        simp [newVer, he] at hv
      · cases hp : posOf ns m 0 with
        | none =>
          refine ⟨e, by rw [(hn m).2 h1, (hb m).2 hp]; exact he, Nat.le_refl _, fun _ h => h⟩
        | some i =>
          obtain ⟨e0, g1, g2⟩ := (hb m).1 i hp
          rw [he] at g1
          cases g1
          obtain ⟨_, hi⟩ := posOf_spec ns m 0 i hp
          simp at hi
          obtain ⟨e2, k1, k2, _⟩ := sub_lk' s.rg _ true ns 0 R0 hsub i m hi
          rw [he] at k1
          cases k1
          exact ⟨⟨e.ver, e.tag, backObj R1 σ i⟩, by rw [(hn m).2 h1]; exact g2, Nat.le_refl _, fun _ _ => k2⟩
    · intro m e e' he he' hv hl
      rcases hR3 m e' he' with ⟨n, e1, h1, h2, h3, rfl, h5⟩ | ⟨i, e0, h1, h2, rfl, h4⟩ | ⟨h1, h2, h3⟩
      · simp [newVer, he] at hv
      · exact h4
      · exact h3
  have hback1 : ∀ i o, backObj R1 σ i = o → o.live = true → ∃ m1 e1, tagEn R1 i = some (m1, e1) ∧ o = renObj σ e1.obj := fun i o ho hl => by
    unfold backObj at ho
    split at ho
    · rename_i m1 e1 ht
      exact ⟨m1, e1, ht, ho.symm⟩
    · subst ho; simp [Obj.live] at hl
  have hownlive : ∀ (g : Value) (o : Obj) b, ownB g o = some b → o.live = true := fun g o b hb => by cases o <;> simp_all [ownB, Obj.live]
  -- an own object of R3 comes of one of R1's, or of one of the caller's others
  have hcls : ∀ m e' b, lk R3 m = some e' → ownB (G3 m) e'.obj = some b →
      (∃ n e1, lk R1 n = some e1 ∧ ownB (G2 n) e1.obj = some b ∧ ((e1.tag = none ∧ base ≤ m ∧ ms[m - base]? = some n) ∨ ∃ i, e1.tag = some i ∧ ns[i]? = some m)) ∨
      (m ∉ ns ∧ lk s.rg m = some e' ∧ ownB (G m) e'.obj = some b) := fun m e' b he' hb' => by
    rcases hR3 m e' he' with ⟨n, e1, h1, h2, h3, rfl, h5⟩ | ⟨i, e0, h1, h2, rfl, h4⟩ | ⟨h1, h2, h3⟩
    · simp only [ownB_ren] at hb'
      rw [h5] at hb'
      obtain ⟨e2, k1, k2⟩ := hmsu n (List.mem_of_getElem? h2)
      rw [h3] at k1
      cases k1
      exact .inl ⟨n, e1, h3, hb', .inl ⟨k2, h1, h2⟩⟩
    · obtain ⟨m1, e1, k1, k2⟩ := hback1 i _ rfl (hownlive _ _ _ hb')
      simp only at hb'
      rw [k2, ownB_ren, h4] at hb'
      obtain ⟨k3, k4⟩ := tagEn_spec k1
      refine .inl ⟨m1, e1, k3, ?_, .inr ⟨i, k4, h1⟩⟩
      have := hR1.tag m1 e1 i k3 k4 (hownlive _ _ _ hb')
      rw [this]
      simpa [List.getD_eq_getElem?_getD, h1] using hb'
    · rw [h3] at hb'
      exact .inr ⟨h1, h2, hb'⟩
  refine ⟨G3, ⟨h.nod, h.size, fun t p hp => (h.tm t p hp).mono hext.fmono hFF hNames, ?_, ?_, ?_, hR1.bnd, ?_, fun b hb => ⟨hext.fmono b (h.z b hb).1, (hFF b (h.z b hb).1).trans (h.z b hb).2⟩, hR1.dr⟩, ⟨hext.fmono, ?_, ?_, ?_, hext.size, hext.os, hext.tape, hext.output⟩, hlink⟩
  · intro m e' he'
    rcases hR3 m e' he' with ⟨n, e1, h1, h2, h3, rfl, h5⟩ | ⟨i, e0, h1, h2, rfl, h4⟩ | ⟨h1, h2, h3⟩
    · exact orep_ren hlink h5 (hR1.rg n e1 h3)
    · cases hlv : (backObj R1 σ i).live with
      | false =>
        have : backObj R1 σ i = .gone := by cases hbo : backObj R1 σ i <;> simp_all [Obj.live]
        simp only [this]
        trivial
      | true =>
        obtain ⟨m1, e1, k1, k2⟩ := hback1 i _ rfl hlv
        obtain ⟨k3, k4⟩ := tagEn_spec k1
        simp only [k2]
        refine orep_ren hlink ?_ (hR1.rg m1 e1 k3)
        rw [k2, renObj_live] at hlv
        rw [h4, hR1.tag m1 e1 i k3 k4 hlv]
        simp [List.getD_eq_getElem?_getD, h1]
    · exact (h.rg m e' h2).mono hext.fmono hFF hNames h3 (fun b hb' => hext.keep b ((h.rg m e' h2).lt hb') (hother m e' b h1 h2 hb'))
  · intro m1 m2 e1 e2 b he1 he2 hb1 hb2
    rcases hcls m1 e1 b he1 hb1 with ⟨n1, f1, g1, g2, g3⟩ | ⟨g1, g2, g3⟩ <;> rcases hcls m2 e2 b he2 hb2 with ⟨n2, f2, k1, k2, k3⟩ | ⟨k1, k2, k3⟩
    · have := hR1.own n1 n2 f1 f2 b g1 k1 g2 k2
      subst this
      rw [g1] at k1
      cases k1
      rcases g3 with ⟨t1, p1, p2⟩ | ⟨i1, t1, p1⟩ <;> rcases k3 with ⟨t2, q1, q2⟩ | ⟨i2, t2, q1⟩
      · have a1 := posOf_of_nodup hms' p2
        have a2 := posOf_of_nodup hms' q2
        rw [a1] at a2
        have := Option.some.inj a2
        omega
      · rw [t1] at t2; cases t2
      · rw [t1] at t2; cases t2
      · rw [t1] at t2
        cases t2
        rw [p1] at q1
        exact Option.some.inj q1
    · exfalso
      rcases hext.onew b ⟨n1, f1, g1, g2⟩ with h1 | h1
      · exact hother m2 e2 b k1 k2 k3 h1
      · have := (h.rg m2 e2 k2).lt k3; omega
    · exfalso
      rcases hext.onew b ⟨n2, f2, k1, k2⟩ with h1 | h1
      · exact hother m1 e1 b g1 g2 g3 h1
      · have := (h.rg m1 e1 g2).lt g3; omega
    · exact h.own m1 m2 e1 e2 b g2 k2 g3 k3
  · intro m e' b he' hb' hf
    rcases hcls m e' b he' hb' with ⟨n1, f1, g1, g2, _⟩ | ⟨g1, g2, g3⟩
    · exact hR1.fre n1 f1 b g1 g2 hf
    · rcases hext.fnew b hf with h1 | h1 | h1
      · exact h.fre m e' b g2 g3 h1
      · exact hother m e' b g1 g2 g3 h1
      · have := (h.rg m e' g2).lt g3; omega
  · intro m e' i he' hi hl
    rcases hR3 m e' he' with ⟨n, e1, h1, h2, h3, rfl, h5⟩ | ⟨i', e0, h1, h2, rfl, h4⟩ | ⟨h1, h2, h3⟩
    · simp at hi
    · rw [h4]
      obtain ⟨e2, k1, k2, _⟩ := sub_lk' s.rg _ true ns 0 R0 hsub i' m h1
      rw [h2] at k1
      cases k1
      exact h.tag m e0 i h2 hi k2
    · rw [h3]; exact h.tag m e' i h2 hi hl
  · intro b hb'
    rcases hext.fnew b hb' with h1 | h1 | h1
    · exact .inl h1
    · obtain ⟨n, e, _, he, hb2⟩ := hOwnNs b h1
      exact .inr (.inl ⟨n, e, he, hb2⟩)
    · exact .inr (.inr h1)
  · rintro b ⟨m, e', he', hb'⟩
    rcases hcls m e' b he' hb' with ⟨n1, f1, g1, g2, _⟩ | ⟨g1, g2, g3⟩
    · rcases hext.onew b ⟨n1, f1, g1, g2⟩ with h1 | h1
      · obtain ⟨n, e, _, he, hb2⟩ := hOwnNs b h1
        exact .inl ⟨n, e, he, hb2⟩
      · exact .inr h1
    · exact .inl ⟨m, e', g2, g3⟩
  · intro b hb' hno
    exact hext.keep b hb' (fun ho => by
      obtain ⟨n, e, _, he, hb2⟩ := hOwnNs b ho
      exact hno ⟨n, e, he, hb2⟩)

theorem untagged_spec (R1 : List (Nat × En)) : ∀ (l : List Nat) (m : Nat), m ∈ untagged R1 l → ∃ e, lk R1 m = some e ∧ e.tag = none
  | [], m, h => by simp [untagged] at h
  | n :: r, m, h => by
    simp only [untagged] at h
    split at h
    · rename_i e he
      split at h
      · rename_i ht
        rcases List.mem_cons.1 h with rfl | h
        · exact ⟨e, he, ht⟩
        · exact untagged_spec R1 r m h
      · exact untagged_spec R1 r m h
    · exact untagged_spec R1 r m h

theorem CallOut.mono {f : FuncId} {args : Array Value} {w : World} {R R' : Value → World → Prop} (h : CallOut Q f args w R) (hr : ∀ v w', R v w' → R' v w') : CallOut Q f args w R' := by
  rcases h with ⟨h1, h2⟩ | ⟨v, w', h1, h2⟩
  · exact .inl ⟨h1, h2.mono fun e w' ⟨v, he, hv⟩ => ⟨v, he, hr v w' hv⟩⟩
  · exact .inr ⟨v, w', h1, hr v w' h2⟩

theorem callOp_ok {cf : CF} (hcf : CFOK Q T.w0 cf) (h : SRel Q T F G w a s) {dst : Option Nat} {pf : P} {ps : List P} {s' : S} (hs : callOp Q cf s dst pf ps = some s') {fv : Value} {vs : List Value} (hf : PRep F w G s.rg fv pf) (hl : vs.length = ps.length)
    (hv : ∀ (i : Nat) (v : Value) (c : P), vs[i]? = some v → ps[i]? = some c → PRep F w G s.rg v c) :
    ∃ fid cs, fv = .func (.func fid) #[] ⟨cs⟩ ∧ CallOut Q fid ⟨vs ++ cs⟩ w (fun v w' => ∃ F' G', SRel Q T F' G' w' (a.put dst v) s' ∧ Ext (Own G s.rg) (Own G' s'.rg) F F' w w') := by
  unfold callOp at hs
  split at hs
  · rename_i fid caps
    cases hf with
    | fn _ cs _ hcl hcc =>
      refine ⟨fid, cs, rfl, ?_⟩
      split at hs
      · cases hs
      · rename_i s1 qs hfz
        simp only at hs
        split at hs
        · rename_i hnd
          split at hs
          · cases hs
          · rename_i R0 hsub
            split at hs
            · cases hs
            · rename_i p R1 hcall
              split at hs
              · rename_i hmd
                have hmd := (Bool.and_eq_true _ _ ▸ hmd : _ ∧ _).1
                split at hs
                · cases hs
                · rename_i R2 hback
                  split at hs
                  · cases hs
                  · rename_i R3 hnew
                    have hargs : ∀ (i : Nat) (v : Value) (c : P), (vs ++ cs)[i]? = some v → (ps ++ caps)[i]? = some c → PRep F w G s.rg v c := fun i v c h1 h2 => by
                      by_cases hi : i < vs.length
                      · rw [List.getElem?_append_left hi] at h1
                        rw [List.getElem?_append_left (by omega)] at h2
                        exact hv i v c h1 h2
                      · rw [List.getElem?_append_right (by omega)] at h1 h2
                        rw [← hl] at h2
                        exact hcc _ v c h1 h2
                    obtain ⟨F1, a1, a2, a3, a4, a5, a6⟩ := handArgs_ok (ps ++ caps) s F s1 qs (vs ++ cs) h hfz (by simp [hl, hcl]) hargs
                    obtain ⟨b1, b2, b3⟩ := a1.heap.sub hsub hnd
                    simp only [if_true] at b1
                    have hq := hcf fid _ R0 p R1 hcall F1 _ w (vs ++ cs) b1 (by rw [rens_len]; exact a5) (fun i v c h1 h2 => by
                      rw [rens_get] at h2
                      simp only [Option.map_eq_some_iff] at h2
                      obtain ⟨q, hq, rfl⟩ := h2
                      exact ren_ok b2 (a6 i v q h1 hq))
                    refine hq.mono fun v w' ⟨F2, G2, c1, c2, c3⟩ => ?_
                    obtain ⟨G3, d1, d2, d3⟩ := after_call a1 hnd hmd hsub c1 c3 (untagged_spec R1 _) hback hnew
                    obtain ⟨e1, e2⟩ := put_ok d1 hs (TRep.of (ren_ok d3 c2))
                    refine ⟨F2, G3, e1, ?_⟩
                    rw [e2]
                    exact a2.trans d2
              · cases hs
        · cases hs
  · cases hs
end
end Pi

