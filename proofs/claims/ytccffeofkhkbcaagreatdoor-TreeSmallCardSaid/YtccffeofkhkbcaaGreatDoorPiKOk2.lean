/- The text PiKOk2. -/
import Derived.Test.YtccffeofkhkbcaaGreatDoorPiKOk
/- What the led run answers, the run answers. Part two. -/
namespace Pi
open Go

def loB (h : Nat) (lo : Option P) : Option (Nat × Nat) :=
  match lo with
  | none => some (0, h)
  | some (.d (.int _ j)) => if 0 ≤ j ∧ j ≤ (h : Int) then some (j.toNat, h) else none
  | _ => none

theorem boundsK_ok {len : Nat} {lo hi : Option P} : KW (boundsK len lo hi) (fun x => boundsP len lo hi = some x) := by
  unfold boundsK
  refine KW.bind (p := fun h => ∀ r, loB h lo = some r → boundsP len lo hi = some r) ?_ fun h hh => ?_
  · split
    · exact KW.ret fun r hr => by unfold loB at hr; simp only [boundsP]; exact hr
    · exact KW.obl fun hb r hr => by
        simp only [decide_eq_true_eq] at hb
        unfold loB at hr
        simp only [boundsP, if_pos hb]
        exact hr
    · exact KW.fail
  · split
    · exact KW.ret (hh _ rfl)
    · exact KW.obl fun hb => hh _ (by simp only [decide_eq_true_eq] at hb; simp only [loB, if_pos hb])
    · exact KW.fail

section
variable {Q : Program} {s : S}

theorem indexAddrK_ok {t : TypeId} {p i : P} : KW (indexAddrK Q s t p i) (fun q => indexAddrP Q s t p i = some q) := by
  unfold indexAddrK indexAddrP
  split
  · rename_i n e he
    simp only [he]
    exact KW.ofO fun a h => h
  rename_i hna
  simp only [hna]
  split
  · rename_i e k j he
    simp only [he]
    split
    · rename_i k' hk
      simp only [hk]
      split
      · rename_i n v len
        split
        · rename_i ty fz es ho
          simp only [ho]
          split
          · rename_i ht
            refine KW.obl fun hb => ?_
            simp only [decide_eq_true_eq] at hb
            simp only [if_pos hb]
          · exact KW.fail
        · exact KW.fail
      · rename_i k2 es
        split
        · rename_i hk2
          refine KW.bind (p := fun _ => 0 ≤ j ∧ j < (es.length : Int)) (KW.obl fun hb => by simpa using hb) fun _ hj => ?_
          refine KW.bind (etaD_ok Q e _) fun x hx => KW.ret ?_
          simp only [if_pos hk2, if_pos hj.1, nth_some (show j.toNat < es.length by omega), hx]
        · exact KW.fail
      · exact KW.fail
    · exact KW.fail
  · exact KW.fail

theorem sliceK_ok {t : TypeId} {p : P} {lo hi : Option P} : KW (sliceK Q s t p lo hi) (fun q => sliceP Q s t p lo hi = some q) := by
  unfold sliceK sliceP
  generalize viewP Q s t p lo = p
  unfold sliceK0 sliceP0
  split
  · exact KW.fail
  · rename_i e he
    split
    · rename_i k hk
      split
      · rename_i k' es
        split
        · rename_i hk2
          refine KW.bind boundsK_ok fun x hx => KW.ret ?_
          simp only [he, hk, if_pos hk2, hx]
        · exact KW.fail
      · rename_i n v len
        split
        · rename_i ty fz es ho
          refine KW.bind boundsK_ok fun x hx => KW.ret ?_
          simp only [he, hk, ho, hx]
        · exact KW.fail
      · exact KW.fail
    · exact KW.fail

theorem loadK_ok {t : TypeId} {p : P} : KW (loadK Q s t p) (fun q => loadP Q s t p = some q) := by
  unfold loadK
  split
  · rename_i n v i k off
    split
    · rename_i ty fz es ho
      split
      · rename_i k' hk
        split
        · rename_i hkk
          refine KW.bind (p := fun _ => i < es.length) (KW.obl fun hb => by simpa using hb) fun _ hi => ?_
          refine KW.bind (etaD_ok Q ty _) fun x hx => ?_
          split
          · rename_i y hy
            refine KW.ret ?_
            simp only [loadP, ho, hk, nth_some hi]
            rw [if_pos hkk, hx, hy]
          · exact KW.fail
        · exact KW.fail
      · exact KW.fail
    · exact KW.fail
  · exact KW.ofO fun a h => h

theorem evalPure_convert {a b : TypeId} {x : D} {m : K D} (h : convK Q a b x = some m) : KW m (fun z => ∃ v, x.toV = some v ∧ pureV Q (Go.convert a b v) = some (.d z)) := by
  unfold convK at h
  split at h
  · rename_i k1 k k2 n ha hb
    simp only [Option.some.injEq] at h
    subst h
    have key : KW (if smallK k1 then arith k n else K.ret (.int k (k.wrap n))) (fun z => z = .int k (k.wrap n)) := by
      split
      · exact arith_ok _ _
      · exact KW.ret rfl
    refine key.mono fun z hz => ?_
    subst hz
    refine ⟨.int k2 n, rfl, ?_⟩
    have : evalPure Q (Go.convert a b (.int k2 n)) = some (.int k (k.wrap n)) := by
      unfold Go.convert
      rw [evalPure_bind, evalPure_underlying ha, Option.bind_some, evalPure_bind, evalPure_underlying hb, Option.bind_some]
      rfl
    simp only [pureV, this, D.ofV, D.ofVc]
  · rename_i l ha hb
    simp only [Option.some.injEq] at h
    subst h
    refine KW.ret ⟨.string ⟨⟨l⟩⟩, rfl, ?_⟩
    have : evalPure Q (Go.convert a b (.string ⟨⟨l⟩⟩)) = some (.string ⟨⟨l⟩⟩) := by
      unfold Go.convert
      rw [evalPure_bind, evalPure_underlying ha, Option.bind_some, evalPure_bind, evalPure_underlying hb, Option.bind_some]
      rfl
    simp only [pureV, this, D.ofV, D.ofVc]
  · cases h

theorem D.merge_ok {c : Bool} {x y z : D} (h : D.merge c x y = some z) : z = if c then x else y := by
  unfold D.merge at h
  split at h
  · simp only [Option.some.injEq] at h; subst h; cases c <;> rfl
  · split at h
    · rename_i hk
      have hk := eq_of_beq hk
      subst hk
      simp only [Option.some.injEq] at h; subst h; cases c <;> rfl
    · cases h
  · simp only [Option.some.injEq] at h; subst h; cases c <;> rfl
  · cases h

theorem P.merge_ok {c : Bool} {p q r : P} (h : P.merge c p q = some r) : r = if c then p else q := by
  unfold P.merge at h
  split at h
  · split at h
    · rename_i hm
      simp only [Option.some.injEq] at h
      subst h
      rw [D.merge_ok hm]
      cases c <;> rfl
    · cases h
  · cases h

end
end Pi

