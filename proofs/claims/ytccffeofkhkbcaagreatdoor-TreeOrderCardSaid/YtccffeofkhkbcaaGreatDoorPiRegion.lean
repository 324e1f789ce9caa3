/- The text PiRegion. -/
import Derived.Test.YtccffeofkhkbcaaGreatDoorPiCallOk
import Derived.WalkMore
/- Operations in a region, in the text's order; code. -/
namespace Pi
open Go

section
variable {Q : Program} {T : Tg} {F : Nat → Prop} {G : Nat → Value} {w : World} {a : Act} {s : S} {cf : CF}

/-- What holds behind a step. -/
def Post (Q : Program) (T : Tg) (F : Nat → Prop) (G : Nat → Value) (w : World) (s s' : S) (a' : Act) (w' : World) : Prop :=
  ∃ F' G', SRel Q T F' G' w' a' s' ∧ Ext (Own G s.rg) (Own G' s'.rg) F F' w w'

theorem wp_of_ran {o : Oper} {v : Value} {w' : World} (h : Ran Q o a w v w') {K : Act → World → Prop} {Q' : Exit → Act → World → Prop} (hK : K (a.put o.dst v) w') : o.wp Q a w K Q' := by
  unfold Oper.wp
  rcases h with h | ⟨h, rfl⟩
  · rw [h]; exact hK
  · rw [h]; exact hK

theorem actOp_ok (hcf : CFOK Q T.w0 cf) (h : SRel Q T F G w a s) {g : Option (Nat × Bool)} (hg : GuardOK a g) {o : Oper} {s' : S} (hs : actOp Q cf s o g = some s') {K : Act → World → Prop} {Q' : Exit → Act → World → Prop}
    (hK : ∀ a' w', Post Q T F G w s s' a' w' → K a' w') : o.wp Q a w K Q' := by
  unfold actOp at hs
  split at hs
  · rename_i f xs hc
    unfold isCall at hc
    split at hc
    · rename_i c ho
      split at hc
      · rename_i f' hcal
        simp at hc
        obtain ⟨rfl, rfl⟩ := hc
        obtain ⟨fid, cs, hfv, hout⟩ := callOp_ok hcf h hs (eg_ok h hg f') (vs := c.args.toList.map a.eval) (by simp) (fun i v p hv hp => by
          rw [List.getElem?_map] at hv hp
          simp only [Option.map_eq_some_iff] at hv hp
          obtain ⟨x, hx, rfl⟩ := hv
          obtain ⟨y, hy, rfl⟩ := hp
          rw [hx] at hy
          cases hy
          exact eg_ok h hg x)
        have hrun : (execOp a.eval o).run Q w = (callFunc fid ⟨c.args.toList.map a.eval ++ cs⟩).run Q w := by
          have e : (c.args.map a.eval) ++ (⟨cs⟩ : Array Value) = ⟨c.args.toList.map a.eval ++ cs⟩ := by apply Array.toList_inj.1; simp
          simp [execOp, ho, resolve, hcal, hfv, Deferred.ofValue, invoke, e]
        unfold Oper.wp
        rw [hrun]
        rcases hout with ⟨h1, h2⟩ | ⟨v, w', h1, F', G', h2, h3⟩
        · rw [h1]
          refine h2.mono fun e w' ⟨v, he, F', G', h3, h4⟩ => ?_
          subst he
          exact hK _ _ ⟨F', G', h3, h4⟩
        · rw [h1]
          exact hK _ _ ⟨F', G', h2, h3⟩
      · cases hc
    · cases hc
  · obtain ⟨v, w', F', G', h1, h2, h3⟩ := exec_ok h hg hs
    exact wp_of_ran h1 (hK _ _ ⟨F', G', h2, h3⟩)

theorem yielded_iff {ops : List Oper} {j t : Nat} {oj : Oper} (hj : ops[j]? = some oj) (ht : oj.dst = some t) (tmps : Array Value) (b : Bool) : yielded ops.toArray tmps j = some b ↔ tmps[t]? = some (.bool b) := by
  unfold yielded
  simp only [List.getElem?_toArray, hj, Option.bind_some, ht]
  cases tmps[t]? with
  | none => simp
  | some v => cases v <;> simp

theorem stepOp_ok (hcf : CFOK Q T.w0 cf) (h : SRel Q T F G w a s) {ops : List Oper} {o : Oper} {s' : S} (hs : stepOp Q cf ops s o = some s') {K : Act → World → Prop} {Q' : Exit → Act → World → Prop}
    (hK : ∀ a' w', Post Q T F G w s s' a' w' → K a' w') : if Region.wanted o (yielded ops.toArray a.tmps) then o.wp Q a w K Q' else K (a.put o.dst undef) w := by
  unfold stepOp at hs
  unfold guardSlot at hs
  cases hgd : o.guard with
  | none =>
    simp only [hgd] at hs
    simp only [Region.wanted, hgd, if_true]
    exact actOp_ok hcf h (g := none) trivial hs hK
  | some jw =>
    obtain ⟨j, want⟩ := jw
    simp only [hgd] at hs
    simp only [Region.wanted, hgd]
    cases hj : ops[j]? with
    | none => simp [hj] at hs
    | some oj =>
      cases ht : oj.dst with
      | none => simp [hj, ht] at hs
      | some t =>
        simp only [hj, ht] at hs
        have hy := fun b => yielded_iff hj ht a.tmps b
        · split at hs
          · rename_i b hb
            have hval : a.tmps.getD t undef = .bool b := by
              have := h.tm t _ hb
              exact PRep.toV (p := .d (.bool b)) this rfl
            have hlt := slot_lt (a := a) hval (by simp [undef])
            have hv : a.tmps[t]? = some (.bool b) := by
              simp [Array.getD, hlt] at hval
              simp [hlt, hval]
            split at hs
            · rename_i hbw
              have hbw : b = want := by simpa using hbw
              subst hbw
              have hyw : (yielded ops.toArray a.tmps j == some b) = true := by rw [(hy b).2 hv]; simp
              simp only [hyw, if_true]
              exact actOp_ok hcf h (g := some (t, b)) hv hs hK
            · rename_i hbw
              have hbw : b ≠ want := by simpa using hbw
              have hyw : (yielded ops.toArray a.tmps j == some want) = false := by
                rw [(hy b).2 hv]
                simp [hbw]
              simp only [hyw, Bool.false_eq_true, if_false]
              obtain ⟨c1, c2⟩ := put_ok (p := .skip) h hs (v := undef) rfl
              exact hK _ _ ⟨F, G, c1, by rw [c2]; exact Ext.refl _ _ _⟩
          · rename_i t' b' q hb
            have hval : a.tmps.getD t undef = undef := h.tm t _ hb
            have hno : a.tmps[t]? ≠ some (.bool want) := fun e => by
              have : a.tmps.getD t undef = .bool want := by simp [Array.getD_eq_getD_getElem?, e]
              rw [hval] at this
              cases this
            have hyw : (yielded ops.toArray a.tmps j == some want) = false := by
              cases hyy : yielded ops.toArray a.tmps j == some want with
              | false => rfl
              | true => exact absurd ((hy want).1 (by simpa using hyy)) hno
            simp only [hyw, Bool.false_eq_true, if_false]
            obtain ⟨c1, c2⟩ := put_ok (p := .skip) h hs (v := undef) rfl
            exact hK _ _ ⟨F, G, c1, by rw [c2]; exact Ext.refl _ _ _⟩
          · cases hs

theorem Post.trans {s1 s2 : S} {F1 : Nat → Prop} {G1 : Nat → Value} {w1 : World} (hx : Ext (Own G s.rg) (Own G1 s1.rg) F F1 w w1) {a' : Act} {w' : World} (hp : Post Q T F1 G1 w1 s1 s2 a' w') : Post Q T F G w s s2 a' w' := by
  obtain ⟨F', G', h1, h2⟩ := hp
  exact ⟨F', G', h1, hx.trans h2⟩

theorem regionRun_ok (hcf : CFOK Q T.w0 cf) {ops : List Oper} {Q' : Exit → Act → World → Prop} : ∀ (l : List Oper) (F : Nat → Prop) (G : Nat → Value) (w : World) (a : Act) (s s' : S), SRel Q T F G w a s → regionRun Q cf ops l s = some s' →
    (∀ a' w', Post Q T F G w s s' a' w' → Q' .normal a' w') → wpList Q ops.toArray Q' l a w
  | [], F, G, w, a, s, s', h, hs, hK => by
    simp [regionRun] at hs
    subst hs
    exact hK a w ⟨F, G, h, Ext.refl _ _ _⟩
  | o :: l, F, G, w, a, s, s', h, hs, hK => by
    simp only [regionRun] at hs
    split at hs
    · rename_i s1 h1
      have hst := stepOp_ok hcf h h1 (K := wpList Q ops.toArray Q' l) (Q' := Q') (fun a' w' ⟨F', G', g1, g2⟩ =>
        regionRun_ok hcf l F' G' w' a' s1 s' g1 hs (fun a2 w2 hp => hK a2 w2 (hp.trans g2)))
      unfold wpList
      split
      · rename_i hw; rw [if_pos hw] at hst; exact .inl hst
      · rename_i hw; rw [if_neg hw] at hst; exact hst
    · cases hs
end
end Pi

