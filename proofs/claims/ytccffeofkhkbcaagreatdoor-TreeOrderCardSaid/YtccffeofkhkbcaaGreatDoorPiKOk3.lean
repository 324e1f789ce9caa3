/- The text PiKOk3. -/
import Derived.Test.YtccffeofkhkbcaaGreatDoorPiKOk2
/- What the led run answers, the run answers. Part three: operations that change nothing, together. -/
namespace Pi
open Go

/-- A bound as a value. -/
def bv : Option P → Option (Option Value)
  | none => some none
  | some p => p.toV.map some

theorem bounds_parts {len : Nat} {lo hi : Option P} {r : Nat × Nat} (h : boundsP len lo hi = some r) :
    ((hi = none ∧ r.2 = len) ∨ ∃ k j, hi = some (.d (.int k j)) ∧ 0 ≤ j ∧ j ≤ (len : Int) ∧ r.2 = j.toNat) ∧ ((lo = none ∧ r.1 = 0) ∨ ∃ k j, lo = some (.d (.int k j)) ∧ 0 ≤ j ∧ j ≤ (r.2 : Int) ∧ r.1 = j.toNat) := by
  unfold boundsP at h
  split at h
  · cases h
  · rename_i h1 hh
    have a1 : (hi = none ∧ h1 = len) ∨ ∃ k j, hi = some (.d (.int k j)) ∧ 0 ≤ j ∧ j ≤ (len : Int) ∧ h1 = j.toNat := by
      split at hh
      · simp at hh; exact .inl ⟨rfl, hh.symm⟩
      · split at hh
        · rename_i k j hb; simp at hh; exact .inr ⟨k, j, rfl, hb.1, hb.2, hh.symm⟩
        · cases hh
      · cases hh
    split at h
    · simp at h; subst h; exact ⟨a1, .inl ⟨rfl, rfl⟩⟩
    · split at h
      · rename_i k j hb; simp at h; subst h; exact ⟨a1, .inr ⟨k, j, rfl, hb.1, hb.2, rfl⟩⟩
      · cases h
    · cases h

theorem evalPure_bound (Q : Program) {k : IntKind} {j : Int} {y : Nat} (h0 : 0 ≤ j) (h1 : j ≤ (y : Int)) (c : BoundsCode) : evalPure Q (Instr.sliceBound (.int k j) y c) = some j.toNat := by
  have : Instr.sliceBound (.int k j) y c = if 0 ≤ j ∧ j ≤ (y : Int) then (pure j.toNat : Sem Nat) else boundsPanic k j y c := rfl
  rw [this, if_pos ⟨h0, h1⟩]
  rfl

theorem evalPure_bounds (Q : Program) {len : Nat} {lo hi : Option P} {r : Nat × Nat} (h : boundsP len lo hi = some r) :
    ∃ vl vh, bv lo = some vl ∧ bv hi = some vh ∧ evalPure Q (Instr.sliceBounds false len len vl vh none) = some (r.1, r.2, len) := by
  obtain ⟨hh, hl⟩ := bounds_parts h
  rcases hh with ⟨rfl, e2⟩ | ⟨k, j, rfl, h0, h1, e2⟩ <;> rcases hl with ⟨rfl, e1⟩ | ⟨k', j', rfl, h0', h1', e1⟩
  · exact ⟨none, none, rfl, rfl, by rw [e1, e2]; rfl⟩
  · refine ⟨some (.int k' j'), none, rfl, rfl, ?_⟩
    have : evalPure Q (Instr.sliceBounds false len len (some (.int k' j')) none none) = (evalPure Q (Instr.sliceBound (.int k' j') len .sliceB)).bind fun l => some (l, len, len) := by
      unfold Instr.sliceBounds
      rw [evalPure_bind]
      show evalPure Q (Instr.sliceBound (.int k' j') len .sliceB >>= fun l => pure (l, len, len)) = _
      rw [evalPure_bind]
      rfl
    rw [this, evalPure_bound Q h0' (by rw [← e2]; exact h1'), e1, e2]
    rfl
  · refine ⟨none, some (.int k j), rfl, rfl, ?_⟩
    have : evalPure Q (Instr.sliceBounds false len len none (some (.int k j)) none) = (evalPure Q (Instr.sliceBound (.int k j) len .sliceAlen)).bind fun l => some (0, l, len) := by
      unfold Instr.sliceBounds
      show evalPure Q (Instr.sliceBound (.int k j) len .sliceAlen >>= fun l => pure (0, l, len)) = _
      rw [evalPure_bind]
      rfl
    rw [this, evalPure_bound Q h0 h1, e1, e2]
    rfl
  · refine ⟨some (.int k' j'), some (.int k j), rfl, rfl, ?_⟩
    have : evalPure Q (Instr.sliceBounds false len len (some (.int k' j')) (some (.int k j)) none) = (evalPure Q (Instr.sliceBound (.int k j) len .sliceAlen)).bind fun l => (evalPure Q (Instr.sliceBound (.int k' j') l .sliceB)).bind fun m => some (m, l, len) := by
      unfold Instr.sliceBounds
      show evalPure Q (Instr.sliceBound (.int k j) len .sliceAlen >>= fun l => Instr.sliceBound (.int k' j') l .sliceB >>= fun m => pure (m, l, len)) = _
      rw [evalPure_bind]
      congr 1
      funext l
      rw [evalPure_bind]
      rfl
    rw [this, evalPure_bound Q h0 h1, Option.bind_some, evalPure_bound Q h0' (by rw [← e2]; exact h1'), e1, e2]
    rfl

theorem extract_list (l : List UInt8) (a b : Nat) : ((ByteArray.mk ⟨l⟩).extract a b).data.toList = (l.take b).drop a := by
  simp [ByteArray.data_extract, List.drop_take]

theorem evalPure_sliceStr {Q : Program} {t : TypeId} (hu : Q.underlying t = some .string) {l : List UInt8} {lo hi : Option P} {r : Nat × Nat} (h : boundsP l.length lo hi = some r) :
    ∃ vl vh, bv lo = some vl ∧ bv hi = some vh ∧ pureV Q (Instr.sliceAt t (.string ⟨⟨l⟩⟩) vl vh none) = some (.d (.str ((l.take r.2).drop r.1))) := by
  obtain ⟨vl, vh, h1, h2, h3⟩ := evalPure_bounds Q h
  refine ⟨vl, vh, h1, h2, ?_⟩
  have : evalPure Q (Instr.sliceAt t (.string ⟨⟨l⟩⟩) vl vh none) = some (.string ((ByteArray.mk ⟨l⟩).extract r.1 r.2)) := by
    unfold Instr.sliceAt
    rw [evalPure_bind, evalPure_underlying hu, Option.bind_some]
    show evalPure Q (Instr.slice t (.string ⟨⟨l⟩⟩) vl vh none) = _
    unfold Instr.slice
    rw [evalPure_bind, evalPure_underlying hu, Option.bind_some]
    show evalPure Q (Instr.sliceBounds false l.length l.length vl vh none >>= fun x => _) = _
    rw [evalPure_bind, h3]
    rfl
  simp only [pureV, this, D.ofV, D.ofVc, extract_list]

theorem evalPure_indexStr {Q : Program} {t : TypeId} (hu : Q.underlying t = some .string) {l : List UInt8} {k : IntKind} {j : Int} (h0 : 0 ≤ j) (h1 : j < (l.length : Int)) :
    pureV Q (Instr.index t (.string ⟨⟨l⟩⟩) (.int k j)) = some (.d (.int .u8 ((l.getD j.toNat 0).toNat))) := by
  have hlt : j.toNat < l.length := by omega
  have e : (ByteArray.mk ⟨l⟩)[j.toNat]? = some (l.getD j.toNat 0) := by
    rw [ByteArray.getElem?_lt' _ _ (show j.toNat < (ByteArray.mk ⟨l⟩).size from hlt)]
    simp [hlt]
    rfl
  have : evalPure Q (Instr.index t (.string ⟨⟨l⟩⟩) (.int k j)) = some (.int .u8 ((l.getD j.toNat 0).toNat)) := by
    unfold Instr.index
    show evalPure Q (underlying t >>= fun d => _) = _
    rw [evalPure_bind, evalPure_underlying hu, Option.bind_some]
    simp only [if_pos h0, e]
    rfl
  simp only [pureV, this, D.ofV, D.ofVc]

theorem evalPure_len {Q : Program} {t : TypeId} {at' : Array TypeId} {ty : TypeId} (h0 : at'[0]? = some t) (hu : Q.underlying t = some .string) (l : List UInt8) :
    pureV Q (Builtin.len_ at' ty #[.string ⟨⟨l⟩⟩]) = some (.d (.int .i64 l.length)) := by
  have : evalPure Q (Builtin.len_ at' ty #[.string ⟨⟨l⟩⟩]) = some (.int .i64 l.length) := by
    unfold Builtin.len_
    rw [h0]
    show evalPure Q (underlying t >>= fun d => _) = _
    rw [evalPure_bind, evalPure_underlying hu, Option.bind_some]
    rfl
  simp only [pureV, this, D.ofV, D.ofVc]

section
variable {Q : Program} {s : S}

theorem lookupK_ok {t : TypeId} {p i : P} {ok : Bool} : KW (lookupK Q s t p i ok) (fun r => ((mapTy Q t).bind fun y => zeroD Q y.2).bind (fun z => lookupP Q s t p i ok z) = some r) := by
  unfold lookupK
  split
  · rename_i kt e hm
    split
    · rename_i z k hz
      split
      · rename_i n v
        split
        · rename_i kt' get c l ho
          split
          · rename_i hk
            refine KW.bind (KW.obl (p := fun _ => keyB Q kt k = true) fun hb => hb) fun _ hb => KW.bind (etaD_ok Q e _) fun y hy => KW.ret ?_
            have hy : (get k).getD z = y := hy
            simp only [Option.bind_some, hz, lookupP, hm, ho, hk, hb, Bool.and_self, if_true, hy]
          · exact KW.fail
        · rename_i kt' get c pE kE ho
          split
          · rename_i hk
            simp only [Bool.and_eq_true, Bool.not_eq_true'] at hk
            refine KW.bind (KW.obl (p := fun _ => keyB Q kt k = true) fun hb => hb) fun _ hb => KW.bind (etaD_ok Q e _) fun y hy => KW.ret ?_
            have hy : (get k).getD z = y := hy
            simp only [Option.bind_some, hz, lookupP, hm, ho, hk.1, hk.2, hb, Bool.not_false, Bool.and_self, if_true, hy]
          · exact KW.fail
        · exact KW.fail
      · refine KW.bind (KW.obl (p := fun _ => keyB Q kt k = true) fun hb => hb) fun _ hb => KW.ret ?_
        simp only [Option.bind_some, hz, lookupP, hm, hb, if_true]
      · exact KW.fail
    · exact KW.fail
  · exact KW.fail

theorem pvK_ok {o : Oper} {g : Option (Nat × Bool)} : KW (pvK Q s o g) (fun p => pv Q s o g = some p) := by
  have ofo : KW (K.ofO (pv Q s o g)) (fun p => pv Q s o g = some p) := KW.ofO fun a h => h
  unfold pvK
  split
  · rename_i c a b ho
    split
    · rename_i r hc
      have hpv : ∀ p, (if r then s.eg g a else s.eg g b) = p → pv Q s o g = some p := fun p hp => by
        unfold pv; simp only [ho, hc, hp]
      split
      · rename_i p hp
        exact KW.ret (hpv _ (P.merge_ok hp).symm)
      · exact KW.bind (KW.dec (p := fun r' => r = r') rfl) fun r' hr => KW.ret (hpv _ (by rw [hr]))
    · exact KW.fail
  · rename_i op t x y yt ho
    have hpv : ∀ p, binP Q s op t x y (s.eg g x) (s.eg g y) = some p → pv Q s o g = some p := fun p hp => by
      unfold pv; simp only [ho, hp]
    split
    · rename_i p q hp hq
      split
      · rename_i m hm
        exact KW.bind (binK_ok (s := s) (x := x) (y := y) hm) fun z hz => KW.ret (hpv _ (by rw [hp, hq]; exact hz))
      · exact KW.ofO fun a ha => hpv _ (by rw [hp, hq]; rw [hp, hq] at ha; exact ha)
    · exact KW.ofO fun a ha => hpv _ ha
  · rename_i op t x ho
    split
    · rename_i b hb
      refine KW.ret ?_
      unfold pv
      simp only [ho, hb, P.toV, D.toV, D.toVc]
      rfl
    · rename_i k n hb
      refine KW.bind (arith_ok _ _) fun z hz => KW.ret ?_
      subst hz
      unfold pv
      simp only [ho, hb, P.toV, D.toV, D.toVc]
      rfl
    · exact ofo
  · rename_i a b x ho
    split
    · rename_i y hy
      split
      · rename_i m hm
        refine KW.bind (evalPure_convert hm) fun z hz => KW.ret ?_
        obtain ⟨v, h1, h2⟩ := hz
        unfold pv
        simp only [ho, hy, P.toV, h1, h2]
      · exact ofo
    · exact ofo
  · rename_i t x ho
    exact loadK_ok.mono fun q hq => by unfold pv; simp only [ho, hq]
  · rename_i t x i ho
    exact indexAddrK_ok.mono fun q hq => by unfold pv; simp only [ho, hq]
  · rename_i t x i ho
    split
    · rename_i l k j hu hx hi
      refine KW.obl fun hb => ?_
      simp only [decide_eq_true_eq] at hb
      unfold pv
      simp only [ho, hu, hx, hi, P.toV, D.toV, D.toVc]
      exact evalPure_indexStr hu hb.1 hb.2
    · exact ofo
  · rename_i t x i ok ho
    refine lookupK_ok.mono fun q hq => ?_
    unfold pv
    simp only [ho]
    cases hz : (mapTy Q t).bind fun y => zeroD Q y.2 with
    | none => rw [hz] at hq; cases hq
    | some z => rw [hz] at hq; exact hq
  · rename_i t x lo hi ho
    split
    · rename_i l hx
      split
      · rename_i hu
        refine KW.bind boundsK_ok fun r hr => KW.ret ?_
        obtain ⟨vl, vh, h1, h2, h3⟩ := evalPure_sliceStr hu hr
        have ex : (s.eg g x).toV = some (.string ⟨⟨l⟩⟩) := by rw [hx]; rfl
        unfold pv
        simp only [ho, ex]
        cases lo with
        | none =>
          simp only [bv, Option.map_none, Option.some.injEq] at h1
          subst h1
          cases hi with
          | none =>
            simp only [bv, Option.map_none, Option.some.injEq] at h2
            subst h2
            exact h3
          | some u =>
            simp only [bv, Option.map_some] at h2
            simp only [h2]
            exact h3
        | some l' =>
          simp only [bv, Option.map_some] at h1
          cases hi with
          | none =>
            simp only [bv, Option.map_none, Option.some.injEq] at h2
            subst h2
            simp only [h1]
            exact h3
          | some u =>
            simp only [bv, Option.map_some] at h2
            simp only [h1, h2]
            exact h3
      · exact KW.fail
    · exact ofo
    · rename_i p hns hnn
      refine sliceK_ok.mono fun q hq => ?_
      unfold pv
      simp only [ho]
      split
      · rename_i b hb
        exfalso
        cases hp : s.eg g x with
        | d y =>
          rw [hp] at hb
          cases y with
          | str l => exact hns l hp
          | agg cs => simp only [P.toV, D.toV] at hb; split at hb <;> cases hb
          | _ => cases hb
        | _ => rw [hp] at hb; cases hb
      · exact hq
  · rename_i c ho
    split
    · rename_i hc
      split
      · rename_i x hargs hu
        split
        · rename_i l hx
          refine KW.ret ?_
          obtain ⟨t, ht0, ht⟩ := Option.bind_eq_some_iff.1 hu
          unfold pv
          simp only [ho, hc, hargs, hx, P.toV, D.toV, D.toVc]
          exact evalPure_len ht0 ht l
        · exact KW.fail
      · exact ofo
    · rename_i hc
      split
      · rename_i k a k' b hargs
        refine KW.ret ?_
        rw [show min a b = if b < a then b else a by omega]
        unfold pv
        simp only [ho, hc, hargs, toVs, P.toV, D.toV, D.toVc]
        rfl
      · exact ofo
    · rename_i hc
      split
      · rename_i k a k' b hargs
        refine KW.ret ?_
        rw [show max a b = if b > a then b else a by omega]
        unfold pv
        simp only [ho, hc, hargs, toVs, P.toV, D.toV, D.toVc]
        rfl
      · exact ofo
    · exact ofo
  · exact ofo
end
end Pi

