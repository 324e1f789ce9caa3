/- The text PiDrawOk2. -/
import Derived.Test.YtccffeofkhkbcaaGreatDoorPiDrawOk
import Derived.Orders
/- Regions that draw their order: soundness. -/
namespace Pi
open Go

theorem SRel.alike {Q : Program} {T : Tg} {F : Nat → Prop} {G : Nat → Value} {w : World} {a : Act} {s s2 : S} (h : SRel Q T F G w a s) (hn : s.n = s2.n) (hr : s.rg = s2.rg) (ht : ∀ t, lk s.tm t = lk s2.tm t) : SRel Q T F G w a s2 :=
  ⟨h.nod, hn ▸ h.size, fun t p hp => by rw [← hr]; exact h.tm t p ((ht t).trans hp), fun n e he => by rw [← hr] at he ⊢; exact h.rg n e he,
   fun n m e e' b he he' => by rw [← hr] at he he'; exact h.own n m e e' b he he', fun n e b he => by rw [← hr] at he; exact h.fre n e b he, h.bnd, fun n e i he => by rw [← hr] at he; exact h.tag n e i he, h.z, h.dr⟩

theorem SRel.drawn {Q : Program} {T : Tg} {F : Nat → Prop} {G : Nat → Value} {w : World} {a : Act} {s : S} (h : SRel Q T F G w a s) (k : Nat) (hk : w.drawn ≤ k) : SRel Q T F G { w with drawn := k } a s :=
  ⟨h.nod, h.size, fun t p hp => TRep.mono (w := w) (w' := { w with drawn := k }) (fun _ h => h) (fun _ _ => rfl) (Names.refl _ _) (h.tm t p hp), fun n e he => (h.rg n e he).mono (w' := { w with drawn := k }) (fun _ h => h) (fun _ _ => rfl) (Names.refl _ _) rfl (fun _ _ => rfl),
   h.own, h.fre, h.bnd, h.tag, h.z, Nat.le_trans h.dr hk⟩

theorem ready_all {ops : Array Oper} {listed : Array Bool} (hsz : listed.size = ops.size) (hback : ∀ (i : Nat) (o : Oper), ops[i]? = some o → ∀ e ∈ o.after, Region.binds .any e = true → e.on < i)
    (hr : Region.ready .any ops listed = []) : ∀ i, i < ops.size → listed.getD i false = true := by
  intro i
  induction i using Nat.strongRecOn with
  | ind i ih =>
    intro hi
    cases hb : listed.getD i false with
    | true => rfl
    | false =>
      have ho : ops[i]? = some ops[i] := Array.getElem?_eq_getElem hi
      have : i ∈ Region.ready .any ops listed := mem_ready.2 ⟨by
        have hl : i < listed.size := by omega
        simp [hl] at hb ⊢
        exact hb, _, ho, fun e he hbd => ih e.on (hback i _ ho e he hbd) (by have := hback i _ ho e he hbd; omega)⟩
      rw [hr] at this
      cases this

section
variable {Q : Program} {T : Tg} {cf : CF} {ops : List Oper} {M : List Nat} {St : Nat → S}

theorem any_ok (tx : Text Q cf ops M St) (hcf : CFOK Q T.w0 cf) {Q' : Exit → Act → World → Prop} : ∀ (fuel : Nat) (listed : Array Bool) (a : Act) (w : World) (s : S) (F : Nat → Prop) (G : Nat → Value),
    listed.size = ops.length → fuel + listed.toList.count true = ops.length → Clos ops (fun j => listed.getD j false = true) → Inv ops St (fun j => listed.getD j false = true) s → SRel Q T F G w a s →
    (∀ a' w', Post Q T F G w s (St ops.length) a' w' → Q' .normal a' w') → wpAny Q .any ops.toArray Q' fuel listed a w := by
  have hback : ∀ (i : Nat) (o : Oper), ops.toArray[i]? = some o → ∀ e ∈ o.after, Region.binds .any e = true → e.on < i := fun i o ho e he hb => tx.back (by simpa using ho) he hb
  have fin : ∀ (listed : Array Bool) (a : Act) (w : World) (s : S) (F : Nat → Prop) (G : Nat → Value), (∀ i, i < ops.length → listed.getD i false = true) → Inv ops St (fun j => listed.getD j false = true) s → SRel Q T F G w a s →
      (∀ a' w', Post Q T F G w s (St ops.length) a' w' → Q' .normal a' w') → Q' .normal a w := by
    intro listed a w s F G hall hi h hK
    obtain ⟨h1, h2, h3⟩ := tx.last hi (fun i o ho => hall i (List.getElem?_eq_some_iff.1 ho).1)
    exact hK a w ⟨F, G, h.alike h1 h2 h3, by rw [← h2]; exact Ext.refl _ _ _⟩
  intro fuel
  induction fuel with
  | zero =>
    intro listed a w s F G hsz hc hL hi h hK
    have hall : ∀ i, i < ops.length → listed.getD i false = true := fun i hlt => by
      have hc' : listed.toList.count true = listed.toList.length := by rw [Array.length_toList, hsz]; omega
      have := List.count_eq_length.1 hc' listed[i] (by simp)
      simp [hsz, hlt, ← this]
    refine ⟨?_, fin listed a w s F G hall hi h hK⟩
    cases hr : Region.ready .any ops.toArray listed with
    | nil => rfl
    | cons i r =>
      have hm : i ∈ Region.ready .any ops.toArray listed := by rw [hr]; simp
      obtain ⟨h0, o, ho, _⟩ := mem_ready.1 hm
      have hlt : i < ops.length := by
        have := (Array.getElem?_eq_some_iff.1 ho).1
        simpa using this
      have h1 := hall i hlt
      have hl : i < listed.size := by omega
      simp [hl] at h0 h1
      rw [h0] at h1
      cases h1
  | succ fuel ih =>
    intro listed a w s F G hsz hc hL hi h hK
    refine ⟨fun hr => fin listed a w s F G (fun i hlt => ready_all (by simp [hsz]) hback hr i (by simpa using hlt)) hi h hK, fun i hm => ?_⟩
    obtain ⟨h0, o, ho, hdep⟩ := mem_ready.1 hm
    have ho' : ops[i]? = some o := by simpa using ho
    have hlt : i < ops.length := (List.getElem?_eq_some_iff.1 ho').1
    have hl : i < listed.size := by omega
    have hno : ¬ listed.getD i false = true := by
      simp [hl] at h0 ⊢
      exact h0
    obtain ⟨s1, hs1, hi1⟩ := tx.go hL hi ho' hno hdep
    have hiff : ∀ j, ((listed.setIfInBounds i true).getD j false = true) ↔ (listed.getD j false = true ∨ j = i) := fun j => by
      by_cases hj : j = i
      · subst hj; simp [hl]
      · rw [getD_set_ne false (fun e => hj e.symm)]; simp [hj]
    have hfun : (fun j => (listed.setIfInBounds i true).getD j false = true) = (fun j => listed.getD j false = true ∨ j = i) := funext fun j => propext (hiff j)
    have hcnt : fuel + (listed.setIfInBounds i true).toList.count true = ops.length := by
      have e : (listed.setIfInBounds i true).toList = listed.toList.set i true := by simp
      rw [e, List.count_set (by simpa using hl)]
      have : (listed.toList[i]'(by simpa using hl) == true) = false := by
        simp [hl] at hno ⊢
        exact hno
      simp only [this]
      simp only [Bool.false_eq_true, if_false, beq_self_eq_true, if_true]
      omega
    have hst := stepOp_ok hcf h hs1 (K := wpAny Q .any ops.toArray Q' fuel (listed.setIfInBounds i true)) (Q' := Q') (fun a' w' ⟨F', G', g1, g2⟩ =>
      ih (listed.setIfInBounds i true) a' w' s1 F' G' (by simp [hsz]) hcnt (by
        rw [hfun]
        intro j x hj hLj e he hb
        rcases hLj with hLj | rfl
        · exact .inl (hL j x hj hLj e he hb)
        · rw [ho'] at hj; cases hj
          exact .inl (hdep e he hb)) (by rw [hfun]; exact hi1) g1 (fun a2 w2 hp => hK a2 w2 (hp.trans g2)))
    unfold wpOp
    rw [ho]
    simp only []
    split
    · rename_i hw; rw [if_pos hw] at hst; exact .inl hst
    · rename_i hw; rw [if_neg hw] at hst; exact hst
end

theorem regionRun_states {Q : Program} {cf : CF} {ops : List Oper} : ∀ (l : List Oper) (s s' : S), regionRun Q cf ops l s = some s' → ∃ St : Nat → S, St 0 = s ∧ St l.length = s' ∧ ∀ i o, l[i]? = some o → stepOp Q cf ops (St i) o = some (St (i + 1))
  | [], s, s', h => by
    simp [regionRun] at h
    exact ⟨fun _ => s, rfl, h, fun i o ho => by simp at ho⟩
  | o :: l, s, s', h => by
    simp only [regionRun] at h
    split at h
    · rename_i s1 h1
      obtain ⟨St, g1, g2, g3⟩ := regionRun_states l s1 s' h
      refine ⟨fun i => match i with | 0 => s | i + 1 => St i, rfl, g2, fun i x hx => ?_⟩
      cases i with
      | zero => simp at hx; subst hx; simp only [g1]; exact h1
      | succ i => exact g3 i x (by simpa using hx)
    · cases h

theorem drawGo_states {Q : Program} {cf : CF} {ops : List Oper} : ∀ (l : List Oper) (s s' : S) (is : List Step), drawGo Q cf ops l s = some (s', is) → ∃ St : Nat → S, St 0 = s ∧ St l.length = s' ∧ (∀ i o, l[i]? = some o → stepOp Q cf ops (St i) o = some (St (i + 1))) ∧ ∀ (i : Nat) (o : Oper), l[i]? = some o → is[i]? = some (stepInfo Q ops (St i) o (St (i + 1)))
  | [], s, s', is, h => by
    simp [drawGo] at h
    exact ⟨fun _ => s, rfl, h.1, fun i o ho => by simp at ho, fun i o ho => by simp at ho⟩
  | o :: l, s, s', is, h => by
    simp only [drawGo] at h
    split at h
    · cases h
    · rename_i s1 h1
      split at h
      · rename_i s2 is2 h2
        simp at h
        obtain ⟨rfl, rfl⟩ := h
        obtain ⟨St, g1, g2, g3, g4⟩ := drawGo_states l s1 s2 is2 h2
        refine ⟨fun i => match i with | 0 => s | i + 1 => St i, rfl, g2, fun i x hx => ?_, fun i x hx => ?_⟩
        · cases i with
          | zero => simp at hx; subst hx; simp only [g1]; exact h1
          | succ i => exact g3 i x (by simpa using hx)
        · cases i with
          | zero => simp at hx; subst hx; simp only [g1]; rfl
          | succ i => simpa using g4 i x (by simpa using hx)
      · cases h

theorem inWb_of {W : List Nat × Nat × Nat} {n : Nat} (h : inW W n) : inWb W n = true := by
  unfold inWb
  rcases h with h | ⟨h1, h2⟩
  · rw [(memN_spec _ _).2 h]; rfl
  · have e1 : Nat.ble W.2.1 n = true := Nat.ble_eq_true_of_le h1
    have e2 : Nat.blt n W.2.2 = true := by simp [Nat.blt]; omega
    rw [e1, e2]; simp

theorem sameN_get : ∀ (ns : List Nat) (y : Step) (q : Prop), sameN ns y q → (∀ n ∈ ns, inW y.info.ws n → lk y.aft n = lk y.bef n) ∧ q
  | [], y, q, h => ⟨by simp, h⟩
  | n :: r, y, q, h => by
    simp only [sameN] at h
    cases hb : inWb y.info.ws n with
    | true =>
      rw [hb] at h
      obtain ⟨h1, h2⟩ := sameN_get r y q h.2
      refine ⟨fun m hm hw => ?_, h2⟩
      rcases List.mem_cons.1 hm with rfl | hm
      · exact h.1
      · exact h1 m hm hw
    | false =>
      rw [hb] at h
      obtain ⟨h1, h2⟩ := sameN_get r y q h
      refine ⟨fun m hm hw => ?_, h2⟩
      rcases List.mem_cons.1 hm with rfl | hm
      · rw [inWb_of hw] at hb; cases hb
      · exact h1 m hm hw

theorem leaves_q {x y : Step} {same : Prop → Prop} (hs : ∀ q, same q → q) {q : Prop} (h : leaves x y same q) : q := by
  unfold leaves at h
  split at h
  · rename_i t n t' _ _
    cases hb : (Nat.beq t t' && !memN n x.info.ns) with
    | true => rw [hb] at h; exact h
    | false => rw [hb] at h; exact hs q h
  · exact hs q h
theorem leaves_mono {x y : Step} {same : Prop → Prop} (hs : ∀ q r : Prop, (q → r) → same q → same r) {q r : Prop} (hqr : q → r) (h : leaves x y same q) : leaves x y same r := by
  unfold leaves at h ⊢
  split at h
  · rename_i t n t' _ _
    cases hb : (Nat.beq t t' && !memN n x.info.ns) with
    | true => rw [hb] at h; exact hqr h
    | false => rw [hb] at h; exact hs q r hqr h
  · exact hs q r hqr h
theorem leaves_get {x y : Step} {same : Prop → Prop} {q : Prop} (h : leaves x y same q) : (∃ t n, y.ent = some (t, n) ∧ x.look = some t ∧ n ∉ x.info.ns) ∨ same q := by
  unfold leaves at h
  split at h
  · rename_i t n t' h1 h2
    cases hb : (Nat.beq t t' && !memN n x.info.ns) with
    | true =>
      simp only [Bool.and_eq_true, Bool.not_eq_true'] at hb
      have ht := Nat.eq_of_beq_eq_true hb.1
      subst ht
      exact .inl ⟨t, n, h1, h2, fun hm => by rw [(memN_spec _ _).2 hm] at hb; cases hb.2⟩
    | false => rw [hb] at h; exact .inr h
  · exact .inr h
/-- Putting an entry at hand does not change what is found. -/
theorem mapEnt_look {Q : Program} {sy sy' : S} {dst : Option Nat} {t : TypeId} {p k : P} (h : mapEntP Q sy dst t p k = some sy') {s : S} {q i : P} (hq : ∀ n v, q = .mp n v → n ≠ site dst) :
    (match (mapTy Q t).bind fun y => zeroD Q y.2 with | some z => lookupP Q (s.wr sy'.rg) t q i false z | none => none) = (match (mapTy Q t).bind fun y => zeroD Q y.2 with | some z => lookupP Q (s.wr sy.rg) t q i false z | none => none) := by
  unfold mapEntP at h
  split at h
  · rename_i kt e n v kd hmt
    split at h
    · rename_i z hz
      split at h
      · rename_i kt' get c ho
        split at h
        · rename_i hc
          simp only [Bool.and_eq_true, Bool.not_eq_true'] at hc
          obtain ⟨⟨hkt, hkB⟩, hns⟩ := hc
          have hkt := Nat.eq_of_beq_eq_true hkt
          subst hkt
          have hns : n ≠ site dst := fun e => by rw [e, Nat.beq_refl] at hns; cases hns
          split at h
          · rename_i s1 v1 hn
            obtain ⟨hs1, _⟩ := S.new_spec hn
            obtain ⟨en, hen, hev, heo⟩ := S.obj_spec ho
            have hen1 : lk s1.rg n = some en := by rw [hs1]; exact (lk_ins_ne _ _ (Ne.symm hns)).trans hen
            have hrg : sy'.rg = ins n ⟨en.ver, en.tag, .mapE kt (updD kd (getO (get kd) z) get) (bif (get kd).isSome then c else c + 1) (.mp (site dst) v1) kd⟩ s1.rg := by
              rw [put_frame h]
              unfold S.setObj
              rw [hen1]
            simp only [hmt, Option.bind_some, hz]
            unfold lookupP
            rw [hmt]
            split
            · rename_i kt2 e2 m vm kd2 hke
              simp only [Option.some.injEq, Prod.mk.injEq] at hke
              obtain ⟨rfl, rfl⟩ := hke
              have hm := hq m vm rfl
              by_cases hmn : m = n
              · subst hmn
                by_cases hv : vm = en.ver
                · subst hv
                  have o1 : (s.wr sy'.rg).obj m en.ver = some (.mapE kt (updD kd (getO (get kd) z) get) (bif (get kd).isSome then c else c + 1) (.mp (site dst) v1) kd) := by
                    unfold S.obj S.wr
                    simp only [hrg, lk_ins_same, Nat.beq_refl, if_true]
                  have o2 : (s.wr sy.rg).obj m en.ver = some (.map kt get c false) := by
                    unfold S.obj S.wr
                    simp only [hen, Nat.beq_refl, if_true, heo]
                  rw [o1, o2]
                  have hg : (updD kd (getO (get kd) z) get kd2).getD z = (get kd2).getD z := by
                    unfold updD
                    cases hd : D.eqB kd kd2 with
                    | true =>
                      have := (D.eqB_iff _ _).1 hd
                      subst this
                      rfl
                    | false => rfl
                  simp only [Bool.not_false, Bool.true_and, hg, Bool.false_eq_true, if_false]
                · have hb : Nat.beq en.ver vm = false := by
                    cases hb : Nat.beq en.ver vm with
                    | false => rfl
                    | true => exact absurd (Nat.eq_of_beq_eq_true hb).symm hv
                  have o1 : (s.wr sy'.rg).obj m vm = none := by
                    unfold S.obj S.wr
                    simp only [hrg, lk_ins_same, hb, Bool.false_eq_true, if_false]
                  have o2 : (s.wr sy.rg).obj m vm = none := by
                    unfold S.obj S.wr
                    simp only [hen, hb, Bool.false_eq_true, if_false]
                  rw [o1, o2]
              · have : lk sy'.rg m = lk sy.rg m := by
                  rw [hrg, lk_ins_ne _ _ (Ne.symm hmn), hs1]
                  exact lk_ins_ne _ _ (Ne.symm hm)
                have : (s.wr sy'.rg).obj m vm = (s.wr sy.rg).obj m vm := by
                  unfold S.obj S.wr
                  simp only [this]
                rw [this]
            · rfl
            · rfl
          · cases h
        · cases h
      · cases h
    · cases h
  · cases h
theorem ent_look {Q : Program} {cf : CF} {ops : List Oper} {s sy sy' : S} {x y : Oper} {t : TypeId} {n : Nat} (hx : lookOf x = some t) (hy : entOf y = some (t, n)) (hrun : stepOp Q cf ops sy y = some sy') (hns : n ∉ (infoOf Q ops s x).ns) : LookEq Q ops s x sy.rg sy'.rg := by
  unfold lookOf at hx
  unfold entOf at hy
  split at hx
  · rename_i t' xm xk hxo
    split at hy
    · rename_i t2 ym yk hyo
      simp only [Option.some.injEq, Prod.mk.injEq] at hx hy
      subst hx
      obtain ⟨rfl, rfl⟩ := hy
      refine ⟨⟨_, _, _, hxo⟩, fun g hg => ?_⟩
      have hk : opKind x ≤ 1 := by simp [opKind, hxo]
      have hns' : ∀ n v, s.eg g xm = .mp n v → n ≠ site y.dst := fun n v hv e => by
        refine hns ?_
        rw [(info_pure (Q := Q) (s := s) hk hg).2 (by simp [opKind, hxo]), ← e]
        exact names_mem _ (s.eg g xm) n v (List.mem_map_of_mem (by simp [hxo, Op.operands])) (by rw [hv]; rfl)
      have act : ∀ g', actOp Q cf sy y g' = some sy' → pv Q (s.wr sy'.rg) x g = pv Q (s.wr sy.rg) x g := fun g' h => by
        have hc : isCall y = none := by unfold isCall; rw [hyo]
        have hna : nilAssign Q y = none := by unfold nilAssign; rw [hyo]
        have hpv : pv Q sy y g' = none := by unfold pv; rw [hyo]
        unfold actOp exec ef at h
        simp only [hc, hna, hpv, hyo] at h
        have := mapEnt_look (s := s) (q := s.eg g xm) (i := s.eg g xk) h hns'
        unfold pv
        rw [hxo]
        exact this
      unfold stepOp at hrun
      split at hrun
      · cases hrun
      · exact act _ hrun
      · split at hrun
        · split at hrun
          · exact act _ hrun
          · rw [put_frame hrun]
        · rw [put_frame hrun]
        · cases hrun
    · cases hy
  · cases hx
theorem pairC_q {M : List Nat} {i j : Nat} {x y : Step} {q : Prop} (h : pairC M i x j y q) : q := by
  unfold pairC at h
  cases h1 : (Nat.testBit (M.getD j 0) i || apartI x.info y.info) with
  | true => rw [h1] at h; exact h
  | false =>
    rw [h1] at h
    simp only [cond_false] at h
    cases h2 : x.info.pure <;> cases h3 : y.info.pure <;> simp only [h2, h3, cond_true, cond_false] at h
    · exact leaves_q (fun q h => (sameN_get _ _ q h).2) h
    · exact leaves_q (fun q h => (sameN_get _ _ q h).2) h
    · exact h

theorem allC_q {M : List Nat} {i : Nat} {x : Step} : ∀ (l : List Step) (j0 : Nat) (q : Prop), allC (pairC M i x) j0 l q → q
  | [], _, _, h => h
  | _ :: r, j0, q, h => allC_q r (j0 + 1) q (pairC_q h)

theorem allC_get {M : List Nat} {i : Nat} {x : Step} : ∀ (l : List Step) (j0 : Nat) (q : Prop), allC (pairC M i x) j0 l q → ∀ j y, l[j]? = some y → ∃ q', pairC M i x (j0 + j) y q'
  | [], _, _, _, j, y, hy => by simp at hy
  | z :: r, j0, q, h, j, y, hy => by
    cases j with
    | zero => simp at hy; subst hy; exact ⟨_, h⟩
    | succ j =>
      obtain ⟨q', hq⟩ := allC_get r (j0 + 1) q (pairC_q h) j y (by simpa using hy)
      exact ⟨q', by rwa [show j0 + 1 + j = j0 + (j + 1) by omega] at hq⟩

theorem infosC_get {M : List Nat} : ∀ (l : List Step) (i0 : Nat) (q : Prop), pairsC (pairC M) i0 l q → ∀ i j x y, i < j → l[i]? = some x → l[j]? = some y → ∃ q', pairC M (i0 + i) x (i0 + j) y q'
  | [], _, _, _, i, j, x, y, _, hx, _ => by simp at hx
  | z :: r, i0, q, h, i, j, x, y, hij, hx, hy => by
    simp only [pairsC] at h
    cases i with
    | zero =>
      simp at hx
      subst hx
      obtain ⟨j, rfl⟩ : ∃ j', j = j' + 1 := ⟨j - 1, by omega⟩
      obtain ⟨q', hq⟩ := allC_get r (i0 + 1) _ h j y (by simpa using hy)
      exact ⟨q', by rwa [show i0 + 1 + j = i0 + (j + 1) by omega] at hq⟩
    | succ i =>
      obtain ⟨j, rfl⟩ : ∃ j', j = j' + 1 := ⟨j - 1, by omega⟩
      obtain ⟨q', hq⟩ := infosC_get r (i0 + 1) q (allC_q r (i0 + 1) _ h) i j x y (by omega) (by simpa using hx) (by simpa using hy)
      exact ⟨q', by rwa [show i0 + 1 + i = i0 + (i + 1) by omega, show i0 + 1 + j = i0 + (j + 1) by omega] at hq⟩

theorem pairsC_q {M : List Nat} : ∀ (l : List Step) (i0 : Nat) (q : Prop), pairsC (pairC M) i0 l q → q
  | [], _, _, h => h
  | _ :: r, i0, q, h => pairsC_q r (i0 + 1) q (allC_q r (i0 + 1) _ h)

theorem sameN_mono : ∀ (ns : List Nat) (y : Step) (q r : Prop), (q → r) → sameN ns y q → sameN ns y r
  | [], _, _, _, h, hs => h hs
  | n :: ns, y, q, r, h, hs => by
    simp only [sameN] at hs ⊢
    cases hb : inWb y.info.ws n with
    | true => rw [hb] at hs; exact ⟨hs.1, sameN_mono ns y q r h hs.2⟩
    | false => rw [hb] at hs; exact sameN_mono ns y q r h hs
theorem pairC_mono {M : List Nat} {i j : Nat} {x y : Step} {q r : Prop} (hqr : q → r) (h : pairC M i x j y q) : pairC M i x j y r := by
  unfold pairC at h ⊢
  cases h1 : (Nat.testBit (M.getD j 0) i || apartI x.info y.info) with
  | true => rw [h1] at h; exact hqr h
  | false =>
    rw [h1] at h
    simp only [cond_false] at h ⊢
    cases h2 : x.info.pure <;> cases h3 : y.info.pure <;> simp only [h2, h3, cond_true, cond_false] at h ⊢
    · exact leaves_mono (fun q r hqr h => sameN_mono _ _ _ _ hqr h) hqr h
    · exact leaves_mono (fun q r hqr h => sameN_mono _ _ _ _ hqr h) hqr h
    · exact hqr h
theorem allC_mono {M : List Nat} {i : Nat} {x : Step} : ∀ (l : List Step) (j0 : Nat) (q r : Prop), (q → r) → allC (pairC M i x) j0 l q → allC (pairC M i x) j0 l r
  | [], _, _, _, hqr, h => hqr h
  | _ :: l, j0, q, r, hqr, h => pairC_mono (allC_mono l (j0 + 1) q r hqr) h
theorem pairsC_mono {M : List Nat} : ∀ (l : List Step) (i0 : Nat) (q r : Prop), (q → r) → pairsC (pairC M) i0 l q → pairsC (pairC M) i0 l r
  | [], _, _, _, hqr, h => hqr h
  | _ :: l, i0, q, r, hqr, h => allC_mono l (i0 + 1) _ _ (pairsC_mono l (i0 + 1) q r hqr) h

theorem drawRun_ok {Q : Program} {T : Tg} {cf : CF} (hcf : CFOK Q T.w0 cf) (hm : Q.follows .mixedOrders = true) {ops : List Oper} {F : Nat → Prop} {G : Nat → Value} {w : World} {a : Act} {s s' : S} {id : Nat} {Q' : Exit → Act → World → Prop}
    (h : SRel Q T F G w a s) (hs : drawRun Q cf ops s = some s') (hK : ∀ a' w', Post Q T F G w s s' a' w' → Q' .normal a' w') : (Code.region id ops.toArray true).wp Q Q' a w := by
  have main : ∀ St, Text Q cf ops (masks ops []) St → St 0 = s → St ops.length = s' → (Code.region id ops.toArray true).wp Q Q' a w := by
    intro St tx h0 h1
    refine wp_region_any hm ?_
    have hfn : (fun j => (Array.replicate ops.length false).getD j false = true) = fun _ => False := by
      funext j
      simp only [Array.getD_eq_getD_getElem?, Array.getElem?_replicate]
      split <;> simp
    have hsr : SRel Q T F G { w with drawn := w.drawn + 1 } a s := h.drawn _ (Nat.le_succ _)
    have := any_ok (T := T) tx hcf (Q' := Q') ops.length (Array.replicate ops.length false) a { w with drawn := w.drawn + 1 } s F G (by simp) (by
        rw [Array.toList_replicate, List.count_replicate]; simp) (by
        rw [hfn]; intro i o _ hf; exact hf.elim) (by
        rw [hfn]
        exact ⟨by rw [h0], fun i o t _ hf => hf.elim, fun t _ => by rw [h0], ⟨0, by omega, by rw [h0], fun i o _ _ => by simp⟩⟩) hsr
        (fun a' w' hp => hK a' w' (by
          obtain ⟨F', G', k1, k2⟩ := hp
          rw [h1] at k1 k2
          exact ⟨F', G', k1, ⟨k2.fmono, k2.fnew, k2.onew, k2.keep, k2.size, k2.os, k2.tape, k2.output⟩⟩))
    simpa using this
  unfold drawRun at hs
  have hcls : ∀ k, drawCls ops = k + 1 → allFrom (fixB (masks ops [])) 0 ops = true ∧ pairsFrom (pairB ops (masks ops [])) 0 ops = true ∧ (k ≠ 0 → pairsFrom (fun i x j y => Nat.testBit ((masks ops []).getD j 0) i || easyB x y) 0 ops = true) := by
    intro k hk
    unfold drawCls at hk
    split at hk
    · rename_i hb
      simp only [Bool.and_eq_true] at hb
      refine ⟨hb.1, hb.2, fun hk0 => ?_⟩
      split at hk
      · assumption
      · omega
    · omega
  have zero : ∀ i : Nat, 0 + i = i := Nat.zero_add
  split at hs
  · cases hs
  · rename_i hc
    obtain ⟨c1, c2, _⟩ := hcls 0 hc
    split at hs
    · rename_i s1 l hd
      split at hs
      · rename_i hinf
        simp at hs
        subst hs
        obtain ⟨St, g1, g2, g3, g4⟩ := drawGo_states ops _ _ _ hd
        refine main St ⟨fun i o ho => ?_, fun i j x y hij hx hy => ?_, g3, fun i j x y hij hx hy hb => .inr ?_⟩ g1 g2
        · have := allFrom_get ops 0 c1 i o ho; rwa [zero] at this
        · have := pairsFrom_get ops 0 c2 i j x y hij hx hy; rwa [zero, zero] at this
        · obtain ⟨q, hq⟩ := infosC_get l 0 True hinf i j _ _ hij (g4 i x hx) (g4 j y hy)
          rw [zero, zero] at hq
          unfold pairC at hq
          simp only [stepInfo] at hq
          simp only [hb, Bool.false_or] at hq
          cases hap : apartI (infoOf Q ops (St i) x) (infoOf Q ops (St j) y) with
          | true => exact .inl rfl
          | false =>
            right
            rw [hap] at hq
            simp only [cond_false] at hq
            cases hx1 : (infoOf Q ops (St i) x).pure with
            | true =>
              cases hy1 : (infoOf Q ops (St j) y).pure with
              | true => simp [apartI, hx1, hy1] at hap
              | false =>
                left
                simp only [hx1, hy1, cond_true, cond_false] at hq
                refine ⟨rfl, ?_⟩
                rcases leaves_get hq with ⟨f, hf, h1, h2, h3⟩ | hq
                · exact .inr (ent_look h2 h1 (g3 j y hy) h3)
                refine .inl fun n hn => ?_
                by_cases hw : inW (infoOf Q ops (St j) y).ws n
                · exact (sameN_get _ _ _ hq).1 n hn hw
                · exact stepOp_frame (by
                    by_cases hk : opKind y ≤ 1
                    · cases hg : guardSlot ops y with
                      | none => have := g3 j y hy; unfold stepOp at this; rw [hg] at this; cases this
                      | some g => rw [(info_pure hk hg).1] at hy1; cases hy1
                    · omega) (g3 j y hy) hw
            | false =>
              cases hy1 : (infoOf Q ops (St j) y).pure with
              | true =>
                right
                simp only [hx1, hy1, cond_true, cond_false] at hq
                refine ⟨rfl, ?_⟩
                rcases leaves_get hq with ⟨f, hf, h1, h2, h3⟩ | hq
                · exact .inr (ent_look h2 h1 (g3 i x hx) h3)
                refine .inl fun n hn => ?_
                by_cases hw : inW (infoOf Q ops (St i) x).ws n
                · exact (sameN_get _ _ _ hq).1 n hn hw
                · exact stepOp_frame (by
                    by_cases hk : opKind x ≤ 1
                    · cases hg : guardSlot ops x with
                      | none => have := g3 i x hx; unfold stepOp at this; rw [hg] at this; cases this
                      | some g => rw [(info_pure hk hg).1] at hx1; cases hx1
                    · omega) (g3 i x hx) hw
              | false => simp only [hx1, hy1, cond_false] at hq
      · cases hs
    · cases hs
  · rename_i h0 h1
    obtain ⟨k, hk⟩ : ∃ k, drawCls ops = k + 1 + 1 := by
      cases hd : drawCls ops with
      | zero => exact absurd hd h0
      | succ k => cases k with
        | zero => exact absurd hd h1
        | succ k => exact ⟨k, rfl⟩
    obtain ⟨c1, c2, c3⟩ := hcls (k + 1) hk
    have c3 := c3 (by omega)
    obtain ⟨St, g1, g2, g3⟩ := regionRun_states ops _ _ hs
    refine main St ⟨fun i o ho => ?_, fun i j x y hij hx hy => ?_, g3, fun i j x y hij hx hy hb => .inl ?_⟩ g1 g2
    · have := allFrom_get ops 0 c1 i o ho; rwa [zero] at this
    · have := pairsFrom_get ops 0 c2 i j x y hij hx hy; rwa [zero, zero] at this
    · have := pairsFrom_get ops 0 c3 i j x y hij hx hy
      simp only [zero, hb, Bool.false_or, easyB, Bool.or_eq_true, Bool.and_eq_true] at this
      rcases this with (h1 | h1) | h1
      · exact .inl (Nat.eq_of_beq_eq_true h1)
      · exact .inr (.inl (Nat.eq_of_beq_eq_true h1))
      · exact .inr (.inr ⟨Nat.le_of_ble_eq_true h1.1, Nat.le_of_ble_eq_true h1.2⟩)
end Pi

