/- The text PiCodeOk. -/
import Derived.Test.YtccffeofkhkbcaaGreatDoorPiKOk4
/- Code, and functions. -/
namespace Pi
open Go

def PX.toExit : PX → Exit
  | .normal => .normal
  | .exit id => .exit id
  | .ret => .ret

section
variable {Q : Program} {T : Tg} {cf : CF} {kp : Nat → Option (List Nat × List Nat)} {lf : Nat}

theorem headOf_ok {F : Nat → Prop} {G : Nat → Value} {w : World} {a : Act} {s s0 : S} {keep : Option (List Nat × List Nat)} (h : SRel Q T F G w a s) (hs : headOf keep s = some s0) : ∃ G0, SRel Q T F G0 w a s0 ∧ Ext (Own G s.rg) (Own G0 s0.rg) F F w w := by
  unfold headOf at hs
  split at hs
  · exact canon_ok h hs
  · simp at hs
    subst hs
    exact ⟨G, h, Ext.refl _ _ _⟩

theorem ploop_ok {c : Code} {body : S → Option (PX × S)} {keep : Option (List Nat × List Nat)}
    (hbody : ∀ (s : S) (e : PX) (s' : S), body s = some (e, s') → ∀ (F : Nat → Prop) (G : Nat → Value) (w : World) (a : Act) (Q' : Exit → Act → World → Prop), SRel Q T F G w a s → (∀ a' w', Post Q T F G w s s' a' w' → Q' e.toExit a' w') → c.wp Q Q' a w) :
    ∀ (k : Nat) (s : S) (e : PX) (s' : S), ploop body keep k s = some (e, s') → ∀ (F : Nat → Prop) (G : Nat → Value) (w : World) (a : Act) (Q' : Exit → Act → World → Prop), SRel Q T F G w a s → (∀ a' w', Post Q T F G w s s' a' w' → Q' e.toExit a' w') → Code.rounds Q c Q' k a w
  | 0, s, e, s', hs, F, G, w, a, Q', h, hK => by simp [ploop] at hs
  | k + 1, s, e, s', hs, F, G, w, a, Q', h, hK => by
    simp only [ploop] at hs
    split at hs
    · cases hs
    · rename_i s0 hs0
      obtain ⟨G0, g1, g2⟩ := headOf_ok h hs0
      rw [rounds_succ]
      cases hb : body s0 with
      | none => simp [hb] at hs
      | some r =>
        obtain ⟨e1, s1⟩ := r
        simp only [hb] at hs
        have out : ∀ e1, body s0 = some (e1, s1) → (match behindOf keep s1 with | some s2 => some (e1, s2) | none => none) = some (e, s') → (∀ a' w', Post Q T F G0 w s0 s1 a' w' → Q' e1.toExit a' w') := fun e1 hb hs a' w' hp => by
          split at hs
          · rename_i s2 h2
            simp at hs
            obtain ⟨rfl, rfl⟩ := hs
            obtain ⟨F1, G1, k1, k2⟩ := hp
            obtain ⟨G2, m1, m2⟩ := headOf_ok (keep := keep.map fun l => (l.2, l.2)) k1 (by cases keep <;> exact h2)
            exact hK a' w' ⟨F1, G2, m1, (g2.trans k2).trans m2⟩
          · cases hs
        cases e1 with
        | normal =>
          refine hbody s0 .normal s1 hb F G0 w a _ g1 (fun a' w' ⟨F1, G1, k1, k2⟩ => ?_)
          show Code.rounds Q c Q' k a' w'
          exact ploop_ok hbody k s1 e s' hs F1 G1 w' a' Q' k1 (fun a2 w2 hp => hK a2 w2 (Post.trans (g2.trans k2) hp))
        | exit id => exact hbody s0 _ s1 hb F G0 w a _ g1 (out _ hb hs)
        | ret => exact hbody s0 _ s1 hb F G0 w a _ g1 (out _ hb hs)

theorem pexec_ok (hcf : CFOK Q T.w0 cf) (hdr : Q.follows .mixedOrders = true) : ∀ (c : Code) (s : S) (e : PX) (s' : S), pexec Q cf kp lf c s = some (e, s') → ∀ (F : Nat → Prop) (G : Nat → Value) (w : World) (a : Act) (Q' : Exit → Act → World → Prop), SRel Q T F G w a s →
    (∀ a' w', Post Q T F G w s s' a' w' → Q' e.toExit a' w') → c.wp Q Q' a w
  | .skip, s, e, s', hs, F, G, w, a, Q', h, hK => by
    simp [pexec] at hs
    obtain ⟨rfl, rfl⟩ := hs
    exact wp_skip (hK a w ⟨F, G, h, Ext.refl _ _ _⟩)
  | .label l, s, e, s', hs, F, G, w, a, Q', h, hK => by
    simp [pexec] at hs
    obtain ⟨rfl, rfl⟩ := hs
    exact wp_label (hK a w ⟨F, G, h, Ext.refl _ _ _⟩)
  | .region id ops draw, s, e, s', hs, F, G, w, a, Q', h, hK => by
    simp only [pexec] at hs
    cases draw with
    | false =>
      simp only [Bool.false_eq_true, if_false] at hs
      split at hs
      · rename_i s1 h1
        simp at hs
        obtain ⟨rfl, rfl⟩ := hs
        exact wp_region_list (by simpa using regionRun_ok hcf ops.toList F G w a s s1 h h1 (Q' := Q') hK)
      · cases hs
    | true =>
      simp only [if_true] at hs
      split at hs
      · rename_i s1 h1
        simp at hs
        obtain ⟨rfl, rfl⟩ := hs
        simpa using drawRun_ok (id := id) hcf hdr h h1 hK
      · cases hs
  | .seq x y, s, e, s', hs, F, G, w, a, Q', h, hK => by
    simp only [pexec] at hs
    refine wp_seq ?_
    cases hx : pexec Q cf kp lf x s with
    | none => simp [hx] at hs
    | some r =>
      obtain ⟨e1, s1⟩ := r
      simp only [hx] at hs
      cases e1 with
      | normal => exact pexec_ok hcf hdr x s .normal s1 hx F G w a _ h (fun a' w' ⟨F1, G1, k1, k2⟩ => pexec_ok hcf hdr y s1 e s' hs F1 G1 w' a' Q' k1 (fun a2 w2 hp => hK a2 w2 (Post.trans k2 hp)))
      | exit id =>
        simp at hs
        obtain ⟨rfl, rfl⟩ := hs
        exact pexec_ok hcf hdr x s _ s1 hx F G w a _ h (fun a' w' hp => hK a' w' hp)
      | ret =>
        simp at hs
        obtain ⟨rfl, rfl⟩ := hs
        exact pexec_ok hcf hdr x s _ s1 hx F G w a _ h (fun a' w' hp => hK a' w' hp)
  | .cond c x y, s, e, s', hs, F, G, w, a, Q', h, hK => by
    simp only [pexec] at hs
    split at hs
    · rename_i b hb
      have hv : a.eval c = .bool b := by
        have := ev_ok h c
        rw [hb] at this
        exact PRep.toV (p := .d (.bool b)) this rfl
      refine wp_cond hv ?_
      cases b with
      | true => exact pexec_ok hcf hdr x s e s' (by simpa using hs) F G w a Q' h hK
      | false => exact pexec_ok hcf hdr y s e s' (by simpa using hs) F G w a Q' h hK
    · cases hs
  | .block id c, s, e, s', hs, F, G, w, a, Q', h, hK => by
    simp only [pexec] at hs
    refine wp_block ?_
    cases hx : pexec Q cf kp lf c s with
    | none => simp [hx] at hs
    | some r =>
      obtain ⟨e1, s1⟩ := r
      simp only [hx] at hs
      refine pexec_ok hcf hdr c s e1 s1 hx F G w a _ h (fun a' w' hp => ?_)
      cases e1 with
      | normal => simp at hs; obtain ⟨rfl, rfl⟩ := hs; exact hK a' w' hp
      | ret => simp at hs; obtain ⟨rfl, rfl⟩ := hs; exact hK a' w' hp
      | exit id' =>
        simp only at hs
        split at hs
        · rename_i hid
          have hid : id' = id := by simpa using hid
          simp at hs
          obtain ⟨rfl, rfl⟩ := hs
          simp only [PX.toExit, Exit.inBlock, hid, if_true]
          exact hK a' w' hp
        · rename_i hid
          have hid : ¬ id' = id := by simpa using hid
          simp at hs
          obtain ⟨rfl, rfl⟩ := hs
          simp only [PX.toExit, Exit.inBlock, hid, if_false]
          exact hK a' w' hp
  | .loop c, s, e, s', hs, F, G, w, a, Q', h, hK => by
    simp only [pexec] at hs
    exact wp_loop_rounds lf (ploop_ok (fun s e s' hs => pexec_ok hcf hdr c s e s' hs) lf s e s' hs F G w a Q' h hK)
  | .scope c, s, e, s', hs, F, G, w, a, Q', h, hK => by
    simp only [pexec] at hs
    refine wp_scope_straight (pexec_ok hcf hdr c s e s' hs F G w a _ h (fun a' w' hp => ?_))
    have := hK a' w' hp
    cases e <;> simpa [PX.toExit, Exit.noGoto] using this
  | .exit id, s, e, s', hs, F, G, w, a, Q', h, hK => by
    simp [pexec] at hs
    obtain ⟨rfl, rfl⟩ := hs
    exact wp_exit (hK a w ⟨F, G, h, Ext.refl _ _ _⟩)
  | .ret, s, e, s', hs, F, G, w, a, Q', h, hK => by
    simp [pexec] at hs
    obtain ⟨rfl, rfl⟩ := hs
    exact wp_ret (hK a w ⟨F, G, h, Ext.refl _ _ _⟩)
  | .rangeFunc _ _ _ _, s, e, s', hs, F, G, w, a, Q', h, hK => by simp [pexec] at hs
  | .goto _, s, e, s', hs, F, G, w, a, Q', h, hK => by simp [pexec] at hs
  | .refuse _, s, e, s', hs, F, G, w, a, Q', h, hK => by simp [pexec] at hs

/-! a function's results, its entry -/
def resultSem (tmps : Array Value) : ResultVar → Sem Value
  | .tmp t => pure (tmps.getD t undef)
  | .cell ad t => do loadVar t (← asAddr (tmps.getD ad undef))

theorem tmp_ok {F : Nat → Prop} {G : Nat → Value} {w : World} {a : Act} {s : S} (h : SRel Q T F G w a s) (t : Nat) : PRep F w G s.rg (a.tmps.getD t undef) (((lk s.tm t).getD .bad).under none) :=
  eg_ok h (g := none) trivial (.tmp t)

theorem resultP_ok {F : Nat → Prop} {G : Nat → Value} {w : World} {a : Act} {s : S} (h : SRel Q T F G w a s) {r : ResultVar} {p : P} (hr : resultP Q s r = some p) :
    ∃ v, (resultSem a.tmps r).run Q w = .ok v w ∧ PRep F w G s.rg v p := by
  cases r with
  | tmp t =>
    simp only [resultP, Option.some.injEq] at hr
    subst hr
    exact ⟨_, rfl, tmp_ok h t⟩
  | cell ad t =>
    simp only [resultP] at hr
    obtain ⟨u, h1, h2⟩ := loadP_ok h (tmp_ok h ad) hr
    refine ⟨u, ?_, h2⟩
    have hp : ∃ x, a.tmps.getD ad undef = .pointer (some x) := by
      cases hv : a.tmps.getD ad undef with
      | pointer o =>
        cases o with
        | some x => exact ⟨x, rfl⟩
        | none => rw [hv] at h1; simp [Instr.loadAt, Instr.sureAddr] at h1
      | _ => rw [hv] at h1; simp [Instr.loadAt, Instr.sureAddr] at h1
    obtain ⟨x, hx⟩ := hp
    rw [hx] at h1
    simp only [Instr.loadAt, Instr.sureAddr, Sem.run_bind, Sem.run_pure, Result.andThen_ok] at h1
    simp [resultSem, hx, asAddr, h1]

theorem resultsP_ok {F : Nat → Prop} {G : Nat → Value} {w : World} {a : Act} {s : S} (h : SRel Q T F G w a s) : ∀ (rs : List ResultVar) (ps : List P), resultsP Q s rs = some ps →
    ∃ vs, (rs.mapM (resultSem a.tmps)).run Q w = .ok vs w ∧ vs.length = ps.length ∧ ∀ (i : Nat) (v : Value) (c : P), vs[i]? = some v → ps[i]? = some c → PRep F w G s.rg v c
  | [], ps, hr => by
    simp [resultsP] at hr
    subst hr
    exact ⟨[], by simp, rfl, fun i v c hv => by simp at hv⟩
  | r :: rs, ps, hr => by
    simp only [resultsP] at hr
    cases h1 : resultP Q s r with
    | none => simp [h1] at hr
    | some p =>
      cases h2 : resultsP Q s rs with
      | none => simp [h1, h2] at hr
      | some qs =>
        simp [h1, h2] at hr
        subst hr
        obtain ⟨v, g1, g2⟩ := resultP_ok h h1
        obtain ⟨vs, k1, k2, k3⟩ := resultsP_ok h rs qs h2
        refine ⟨v :: vs, by simp [List.mapM_cons, g1, k1], by simp [k2], fun i u c hu hc => ?_⟩
        cases i with
        | zero => simp at hu hc; subst hu; subst hc; exact g2
        | succ i => exact k3 i u c (by simpa using hu) (by simpa using hc)

theorem enterTm_lk : ∀ (ps : List P) (i0 t : Nat) (p : P), lk (enterTm i0 ps) t = some p → i0 ≤ t ∧ ps[t - i0]? = some p
  | [], i0, t, p, h => by simp [enterTm, lk] at h
  | q :: ps, i0, t, p, h => by
    simp only [enterTm, lk] at h
    split at h
    · rename_i ht
      have ht : i0 = t := by simpa using ht
      simp at h
      subst h
      subst ht
      simp
    · obtain ⟨h1, h2⟩ := enterTm_lk ps (i0 + 1) t p h
      refine ⟨by omega, ?_⟩
      have e : t - i0 = (t - (i0 + 1)) + 1 := by omega
      rw [e]
      simpa using h2

theorem nilArg_ok {F : Nat → Prop} {G : Nat → Value} {w : World} {R : List (Nat × En)} {t : TypeId} {v : Value} {p : P} (h : PRep F w G R v p) : PRep F w G R v (nilArg Q t p) := by
  unfold nilArg
  split
  · cases h with
    | d h =>
      cases h
      split
      · split
        · exact .d (.slE none _ 0)
        · exact .d .nils
      · exact .d .nils
  · exact h

theorem nilArgs_len : ∀ (ts : List TypeId) (ps : List P), (nilArgs Q ts ps).length = ps.length
  | [], ps => by simp [nilArgs]
  | t :: ts, [] => by simp [nilArgs]
  | t :: ts, p :: ps => by simp [nilArgs, nilArgs_len ts ps]

theorem nilArgs_ok {F : Nat → Prop} {G : Nat → Value} {w : World} {R : List (Nat × En)} : ∀ (ts : List TypeId) (ps : List P) (vs : List Value),
    (∀ (i : Nat) (v : Value) (c : P), vs[i]? = some v → ps[i]? = some c → PRep F w G R v c) → ∀ (i : Nat) (v : Value) (c : P), vs[i]? = some v → (nilArgs Q ts ps)[i]? = some c → PRep F w G R v c
  | [], ps, vs, h => by simpa [nilArgs] using h
  | _ :: _, [], _, _ => fun i v c _ hc => by simp [nilArgs] at hc
  | t :: ts, p :: ps, [], h => fun i v c hv => by simp at hv
  | t :: ts, p :: ps, v :: vs, h => fun i u c hu hc => by
    cases i with
    | zero =>
      simp [nilArgs] at hu hc
      subst hu
      subst hc
      exact nilArg_ok (h 0 v p rfl rfl)
    | succ i => exact nilArgs_ok ts ps vs (fun i v c hv hc => h (i + 1) v c (by simpa using hv) (by simpa using hc)) i u c (by simpa using hu) (by simpa [nilArgs] using hc)

theorem results_vs {F : Nat → Prop} {G : Nat → Value} {w : World} {a : Act} {s : S} (h : SRel Q T F G w a s) {fn : Func} {ps : List P} (hr : resultsP Q s fn.results.toList = some ps) :
    ∃ vs : List Value, (results fn a.tmps).run Q w = .ok (if hh : vs.toArray.size = 1 then vs.toArray[0] else .tuple vs.toArray) w ∧ vs.length = ps.length ∧ ∀ (i : Nat) (v : Value) (c : P), vs[i]? = some v → ps[i]? = some c → PRep F w G s.rg v c := by
  obtain ⟨vs, h1, h2, h3⟩ := resultsP_ok h fn.results.toList ps hr
  refine ⟨vs, ?_, h2, h3⟩
  have e : (fn.results.mapM (resultSem a.tmps)).run Q w = .ok vs.toArray w := by
    rw [Array.mapM_eq_mapM_toList]
    simp [h1]
  have e2 : results fn a.tmps = (do let vs ← fn.results.mapM (resultSem a.tmps); pure (if h : vs.size = 1 then vs[0] else .tuple vs)) := by
    unfold results
    congr 1
  rw [e2, Sem.run_bind, e]
  rfl

theorem tup_ok {F : Nat → Prop} {G : Nat → Value} {w : World} {R : List (Nat × En)} {vs : List Value} {ps : List P} (h2 : vs.length = ps.length) (h3 : ∀ (i : Nat) (v : Value) (c : P), vs[i]? = some v → ps[i]? = some c → PRep F w G R v c) :
    PRep F w G R (if hh : vs.toArray.size = 1 then vs.toArray[0] else .tuple vs.toArray) (tupOf ps) := by
  match vs, ps, h2, h3 with
  | [v], [p], _, h3 => exact h3 0 v p rfl rfl
  | [], [], h2, h3 => exact .tup [] [] rfl (fun i v c hv => by simp at hv)
  | v1 :: v2 :: vs, p1 :: p2 :: ps, h2, h3 => exact .tup _ _ h2 h3

theorem finAggs_ok {T : Tg} {G : Nat → Value} {w : World} {a : Act} : ∀ (ps : List P) (ts : List TypeId) (s : S) (F : Nat → Prop) (s' : S) (qs : List P) (vs : List Value), SRel Q T F G w a s → finAggs Q s ts ps = some (s', qs) → vs.length = ps.length →
    (∀ (i : Nat) (v : Value) (c : P), vs[i]? = some v → ps[i]? = some c → PRep F w G s.rg v c) →
    ∃ F', SRel Q T F' G w a s' ∧ Ext (Own G s.rg) (Own G s'.rg) F F' w w ∧ Names G G s.rg s'.rg ∧ (∀ b, F b → F' b) ∧ vs.length = qs.length ∧ ∀ (i : Nat) (v : Value) (c : P), vs[i]? = some v → qs[i]? = some c → PRep F' w G s'.rg v c
  | [], ts, s, F, s', xs, vs, h, hs, hl, hv => by
    simp [finAggs] at hs
    obtain ⟨rfl, rfl⟩ := hs
    exact ⟨F, h, Ext.refl _ _ _, Names.refl _ _, fun _ h => h, hl, fun i v c _ hc => by simp at hc⟩
  | p :: ps, ts, s, F, s', xs, vs, h, hs, hl, hv => by
    cases vs with
    | nil => simp at hl
    | cons v vs =>
      simp only [finAggs] at hs
      split at hs
      · cases hs
      · rename_i s1 q h1
        split at hs
        · rename_i s2 qs2 h2
          simp at hs
          obtain ⟨rfl, rfl⟩ := hs
          obtain ⟨F1, a1, a2, a3, a4, a5⟩ := frzAgg_ok h h1 (hv 0 v p (by simp) (by simp))
          obtain ⟨F2, b1, b2, b3, b4, b5, b6⟩ := finAggs_ok ps ts.tail s1 F1 s2 qs2 vs a1 h2 (by simpa using hl)
            (fun i u c hu hc => (hv (i + 1) u c (by simpa using hu) (by simpa using hc)).mono a4 (fun _ _ => rfl) a3)
          refine ⟨F2, b1, a2.trans b2, a3.trans b3, fun b hb => b4 b (a4 b hb), by simpa using b5, fun i u c hu hc => ?_⟩
          cases i with
          | zero => simp at hu hc; subst hu; subst hc; exact a5.mono b4 (fun _ _ => rfl) b3
          | succ i => exact b6 i u c (by simpa using hu) (by simpa using hc)
        · cases hs

theorem finish_ok {F : Nat → Prop} {G : Nat → Value} {w : World} {a : Act} {s : S} (h : SRel Q T F G w a s) {m : Nat} {rts : List TypeId} {qs : List P} {p : P} {R1 : List (Nat × En)} (hf : finish Q m rts qs s = some (p, R1))
    {vs : List Value} (hl : vs.length = qs.length) (hv : ∀ (i : Nat) (v : Value) (c : P), vs[i]? = some v → qs[i]? = some c → PRep F w G s.rg v c) :
    ∃ F' G', HRel Q T F' G' w R1 ∧ PRep F' w G' R1 (if hh : vs.toArray.size = 1 then vs.toArray[0] else .tuple vs.toArray) p ∧ Ext (Own G s.rg) (Own G' R1) F F' w w := by
  unfold finish at hf
  split at hf
  · cases hf
  rename_i s0 qs0 hfin
  obtain ⟨F1, j1, j2, j3, j4, j5, j6⟩ := finAggs_ok _ _ s F s0 qs0 vs h hfin hl hv
  split at hf
  · cases hf
  · rename_i s1 qs1 ho
    obtain ⟨G1, h1, h2, h3, h4, h5⟩ := ownCells_ok _ _ _ s0 G s1 qs1 vs j1 ho j5 j6
    simp only at hf
    split at hf
    · rename_i hnd
      split at hf
      · rename_i R hR
        simp only [Option.some.injEq, Prod.mk.injEq] at hf
        obtain ⟨rfl, rfl⟩ := hf
        obtain ⟨k1, k2, k3⟩ := h1.heap.sub hR hnd
        refine ⟨F1, _, by simpa using k1, ren_ok k2 (tup_ok h4 h5), (j2.trans h2).trans ⟨fun _ h => h, fun _ h => .inl h, fun b hb => ?_, fun _ _ _ => rfl, Nat.le_refl _, rfl, rfl, rfl⟩⟩
        obtain ⟨n, e, _, he, hb⟩ := k3 b hb
        exact .inl ⟨n, e, he, hb⟩
      · cases hf
    · cases hf

theorem nilsIn_len (k : Option (List Nat × List Nat)) (ts : List TypeId) (ps : List P) : (nilsIn k Q ts ps).length = ps.length := by
  cases k with
  | none => exact nilArgs_len ts ps
  | some _ => rfl
theorem nilsIn_ok {F : Nat → Prop} {G : Nat → Value} {w : World} {R : List (Nat × En)} (k : Option (List Nat × List Nat)) (ts : List TypeId) (ps : List P) (vs : List Value)
    (h : ∀ (i : Nat) (v : Value) (c : P), vs[i]? = some v → ps[i]? = some c → PRep F w G R v c) : ∀ (i : Nat) (v : Value) (c : P), vs[i]? = some v → (nilsIn k Q ts ps)[i]? = some c → PRep F w G R v c := by
  cases k with
  | none => exact nilArgs_ok ts ps vs h
  | some _ => exact h

theorem runF_ok {kp : Cfg} {w0 : World} (hX : CFOK Q w0 kp.X) (hdr : Q.follows .mixedOrders = true) : ∀ (k : Nat), CFOK Q w0 (runF Q kp lf k)
  | 0 => fun fid ps R p R1 h => by simp [runF] at h
  | k + 1 => fun fid ps R p R1 hr F G w vs hH hl hv => by
    have ih := runF_ok (kp := kp) hX hdr k
    simp only [runF] at hr
    split at hr
    · cases hr
    · rename_i fn hfn
      split at hr
      · exact hX fid ps R p R1 hr F G w vs hH hl hv
      split at hr
      · cases hr
      · rename_i c hc
        split at hr
        · cases hr
        · rename_i hname
          have hname : (fn.name == "runtime.NumGoroutine") = false := by simpa using hname
          left
          refine ⟨by simp [callFunc, hfn, hc]; simpa using hname, ?_⟩
          refine calls_of_wp hfn hc ?_
          have hl' : vs.length = (nilsIn (kp fid 999999) Q fn.params.toList ps).length := by rw [nilsIn_len]; exact hl
          have hv' := nilsIn_ok (Q := Q) (kp fid 999999) fn.params.toList ps vs hv
          have hstart : SRel Q ⟨G, w0⟩ F G w { tmps := (⟨vs⟩ : Array Value) ++ Array.replicate (fn.ntmps - (⟨vs⟩ : Array Value).size) undef, defers := [] } ⟨fn.ntmps, enterTm 0 (nilsIn (kp fid 999999) Q fn.params.toList ps), R⟩ := by
            refine hH.state rfl rfl (by simp; omega) (fun t p hp => ?_)
            obtain ⟨_, h2⟩ := enterTm_lk _ 0 t p hp
            simp at h2
            have hlt : t < vs.length := by have := (List.getElem?_eq_some_iff.1 h2).1; omega
            have e : ((⟨vs⟩ : Array Value) ++ Array.replicate (fn.ntmps - (⟨vs⟩ : Array Value).size) undef).getD t undef = vs[t] := by
              rw [getD_list]
              simp [List.getElem?_append_left hlt, hlt]
            rw [e]
            exact TRep.of (hv' t _ p (List.getElem?_eq_getElem hlt) h2)
          have fin : ∀ (s1 : S) (qs : List P), resultsP Q s1 fn.results.toList = some qs → finish Q R.length fn.resultTypes.toList qs s1 = some (p, R1) → ∀ a' w', Post Q ⟨G, w0⟩ F G w ⟨fn.ntmps, enterTm 0 (nilsIn (kp fid 999999) Q fn.params.toList ps), R⟩ s1 a' w' →
              a'.defers = [] ∧ ∃ v, (results fn a'.tmps).run Q w' = .ok v w' ∧ ∃ v2, Ending.returned v = .returned v2 ∧ ∃ F' G', HRel Q ⟨G, w0⟩ F' G' w' R1 ∧ PRep F' w' G' R1 v2 p ∧ Ext (Own G R) (Own G' R1) F F' w w' := by
            intro s1 qs hq hpr a' w' ⟨F', G', h1, h2⟩
            obtain ⟨us, g1, g2, g3⟩ := results_vs h1 hq
            obtain ⟨F2, G2, k1, k2, k3⟩ := finish_ok h1 hpr g2 g3
            exact ⟨h1.nod, _, g1, _, rfl, F2, G2, k1, k2, h2.trans k3⟩
          cases hx : pexec Q (runF Q kp lf k) (kp fid) lf c ⟨fn.ntmps, enterTm 0 (nilsIn (kp fid 999999) Q fn.params.toList ps), R⟩ with
          | none => simp [hx] at hr
          | some r =>
            obtain ⟨e, s1⟩ := r
            simp only [hx] at hr
            have hfin : ∃ qs, resultsP Q s1 fn.results.toList = some qs ∧ finish Q R.length fn.resultTypes.toList qs s1 = some (p, R1) := by
              cases e <;> simp only at hr <;> try (cases hr; done)
              all_goals
                split at hr
                · rename_i q hq; exact ⟨_, hq, hr⟩
                · cases hr
            obtain ⟨qs, hq, hpr⟩ := hfin
            refine pexec_ok (T := ⟨G, w0⟩) ih hdr c _ e s1 hx F G w _ _ hstart (fun a' w' hp => ?_)
            have := fin s1 qs hq hpr a' w' hp
            cases e with
            | normal => exact this
            | ret => exact this
            | exit id => simp at hr
end
end Pi

