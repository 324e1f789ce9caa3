/- The text PiT. -/
import Derived.Test.YtccffeofkhkbcaaGreatDoorPiBulk
/- Runs whose order is open: in whatever order a map is gone through. -/
namespace Pi
open Go

/-- From a state, code comes to such of which 'post' speaks. -/
def TW (Q : Program) (T : Tg) (c : Code) (s : S) (post : PX × S → Prop) : Prop :=
  ∀ (F : Nat → Prop) (G : Nat → Value) (w : World) (a : Act) (Q' : Exit → Act → World → Prop), SRel Q T F G w a s → (∀ e s' a' w', post (e, s') → Post Q T F G w s s' a' w' → Q' e.toExit a' w') → c.wp Q Q' a w

/-- The next entry of a map that is gone through: one of those that are left, or none. -/
def nextK (Q : Program) (s : S) (dst : Option Nat) (p : P) : K S :=
  match p with
  | .ref n v 0 => match s.obj n v with
    | some (.iter kt vt left _) => fun post =>
      (∀ k x, left k = some x → K.bind (etaD Q kt k) (fun k => K.bind (etaD Q vt x) fun x => K.ofO ((s.setObj n (.iter kt vt (delD k left) (some (k, x)))).put dst (.tup [.d (.bool true), .d k, .d x]))) post) ∧
      ((∀ k, left k = none) → K.ofO (s.put dst (.tup [.d (.bool false)])) post)
    | _ => K.fail
  | _ => K.fail

def isNext (o : Oper) : Option Operand := match o.op with | .next it false => if o.guard.isNone then some it else none | _ => none

/-- Calls of functions whose order is open: 'HN' tells what they do. -/
def kfN (HN : List (FuncId × KF1)) : KF := fun f => match lk HN f with | some h => h | none => fun _ _ => K.fail
def nCall (HN : List (FuncId × KF1)) (s : S) (o : Oper) : Option (P × List P) :=
  match isCall o with
  | some (f, xs) => match s.eg none f with
    | .fn fid caps => if (lk HN fid).isSome && o.guard.isNone then some (.fn fid caps, xs.map (s.eg none)) else none
    | _ => none
  | none => none

def regionN (Q : Program) (cf : KF) (HN : List (FuncId × KF1)) (ops : List Oper) : List Oper → List (Nat × Bool) → S → K S
  | [], _, s => K.ret s
  | o :: r, kn, s => match isNext o with
    | some it => K.bind (nextK Q s o.dst ((s.ev it).under none)) fun s1 => s1.force fun s1 => regionN Q cf HN ops r [] s1
    | none => match nCall HN s o with
      | some (f, xs) => K.bind (callK Q (kfN HN) s o.dst f xs) fun s1 => s1.force fun s1 => regionN Q cf HN ops r [] s1
      | none => K.bind (stepK Q cf ops kn s o) fun x => x.1.force fun s1 => regionN Q cf HN ops r x.2 s1

def hasNext : List Oper → Bool
  | [] => false
  | o :: r => (isNext o).isSome || hasNext r

/-- As pexecK, with maps that are gone through. -/
def pexecN (Q : Program) (kf : KF) (HN : List (FuncId × KF1)) (kp : Nat → Option (List Nat × List Nat)) (hk : List (Nat × (S → K (PX × S)))) (dc : Nat → Nat) : Code → S → K (PX × S)
  | .skip, s => K.ret (.normal, s)
  | .label _, s => K.ret (.normal, s)
  | .region id ops draw, s => K.bind (if draw then drawK Q kf ops.toList (dc id) s else if hasNext ops.toList || !HN.isEmpty then regionN Q kf HN ops.toList ops.toList [] s else regionK Q kf ops.toList ops.toList [] s) fun s1 => K.ret (.normal, s1)
  | .seq a b, s => K.bind (pexecN Q kf HN kp hk dc a s) fun x => match x.1 with
    | .normal => pexecN Q kf HN kp hk dc b x.2
    | _ => K.ret x
  | .cond c x y, s => match s.ev c with
    | .d (.bool b) => K.bind (K.dec b) fun r => if r then pexecN Q kf HN kp hk dc x s else pexecN Q kf HN kp hk dc y s
    | _ => K.fail
  | .block id c, s => K.bind (pexecN Q kf HN kp hk dc c s) fun x => match x.1 with
    | .exit id' => if Nat.beq id' id then K.ret (.normal, x.2) else K.ret x
    | _ => K.ret x
  | .loop c, s => match lk hk (Code.rid c) with
    | some h => h s
    | none => K.fail
  | .scope c, s => pexecN Q kf HN kp hk dc c s
  | .exit id, s => K.ret (.exit id, s)
  | .ret, s => K.ret (.ret, s)
  | _, _ => K.fail

section
variable {Q : Program} {T : Tg} {F : Nat → Prop} {G : Nat → Value} {w : World} {a : Act} {s : S}

theorem TW.mono {c : Code} {p q : PX × S → Prop} (h : TW Q T c s p) (hpq : ∀ x, p x → q x) : TW Q T c s q := fun F G w a Q' hs hK => h F G w a Q' hs fun e s' a' w' hp => hK e s' a' w' (hpq _ hp)

theorem TW.of_run {kp : Nat → Option (List Nat × List Nat)} {cf : CF} {lf : Nat} (hcf : CFOK Q T.w0 cf) (hdr : Q.follows .mixedOrders = true) {c : Code} {x : PX × S} (h : pexec Q cf kp lf c s = some x) {post : PX × S → Prop} (hp : post x) : TW Q T c s post :=
  fun F G w a Q' hs hK => pexec_ok hcf hdr c s x.1 x.2 h F G w a Q' hs fun a' w' hP => hK x.1 x.2 a' w' hp hP

/-- A step of an iteration: nothing is left, or one of those that are left comes, whichever the tape says. -/
theorem run_next_of {r m since last : Nat} {seen : Array Nat} {es : Array MapEntry} {clock : Nat} (ty : TypeId) (hr : w.heap[r]? = some (.mapIter (some m) since seen last)) (hm : w.heap[m]? = some (.map es clock)) (hold : ∀ x ∈ es.toList, x.born < since) (hsl : since ≤ last) :
    ((∀ x ∈ es.toList, seen.contains x.born = true) ∧ (Instr.next (.pointer (some ⟨r, 0, none⟩)) false ty).run Q w = .ok (.tuple #[.bool false]) w) ∨
    ∃ e ∈ es.toList, seen.contains e.born = false ∧ ∃ w1 : World, (w1 = w ∨ w1 = { w with drawn := w.drawn + 1 }) ∧ (Instr.next (.pointer (some ⟨r, 0, none⟩)) false ty).run Q w = .ok (.tuple #[.bool true, e.key, e.val]) { w1 with heap := w1.heap.setIfInBounds r (.mapIter (some m) since (seen.push e.born) clock) } := by
  have hno : (!seen.isEmpty && !es.isEmpty && es.all fun x => decide (x.born ≥ last)) = false := by
    cases he : es.isEmpty with
    | true => simp
    | false =>
      have h0 : 0 < es.size := by
        refine Nat.pos_of_ne_zero fun h => ?_
        simp [Array.isEmpty, h] at he
      have : es.all (fun x => decide (x.born ≥ last)) = false := by
        rw [Array.all_eq_false]
        refine ⟨0, h0, ?_⟩
        have := hold es[0] (by simp)
        simp
        omega
      rw [this, Bool.and_false]
  have e1 : (es.filter fun e => !seen.contains e.born).filter (fun x => decide (x.born < since)) = es.filter fun e => !seen.contains e.born := Array.filter_eq_self.2 fun x hx => by
    have := hold x (by simpa using (Array.mem_filter.1 hx).1)
    simpa using this
  have e2 : (es.filter fun e => !seen.contains e.born).filter (fun x => decide (x.born ≥ since)) = #[] := by
    rw [Array.filter_eq_empty_iff]
    intro x hx
    have := hold x (by simpa using (Array.mem_filter.1 hx).1)
    simp
    omega
  have mem : ∀ x, x ∈ (es.filter fun e => !seen.contains e.born) ↔ x ∈ es.toList ∧ seen.contains x.born = false := fun x => by
    rw [Array.mem_filter]; simp
  simp only [Instr.next, getObj, Sem.run_bind, Sem.run, hr, hm, Result.andThen, hno, Bool.false_eq_true, if_false, e1, e2, Array.append_empty]
  generalize (es.filter fun e => !seen.contains e.born) = L at mem ⊢
  by_cases h0 : L.size = 0
  · have : L = #[] := Array.eq_empty_of_size_eq_zero h0
    subst this
    refine .inl ⟨fun x hx => ?_, ?_⟩
    · cases hs : seen.contains x.born with
      | true => rfl
      | false => exact absurd ((mem x).2 ⟨hx, hs⟩) (by simp)
    · simp [choose, Sem.run, Question.forced]
  · have hne : L.isEmpty = false := by simp [Array.isEmpty, h0]
    have hch : ∃ (j : Nat) (w1 : World), j < L.size ∧ (w1 = w ∨ w1 = { w with drawn := w.drawn + 1 }) ∧ (choose (Question.mapNext L.size)).run Q w = .ok j w1 := by
      by_cases hf : L.size ≤ 1
      · exact ⟨0, w, by omega, .inl rfl, by simp [choose, Sem.run, Question.forced, hf]⟩
      · refine ⟨w.tape w.drawn (.mapNext L.size) % L.size, { w with drawn := w.drawn + 1 }, Nat.mod_lt _ (by omega), .inr rfl, ?_⟩
        simp only [choose, Sem.run, Question.forced, decide_eq_true_eq, hf, if_false, Question.cut]
    obtain ⟨j, w1, hj, hal, hrun⟩ := hch
    obtain ⟨m1, m2⟩ := (mem L[j]).1 (by simp)
    refine .inr ⟨L[j], m1, m2, w1, hal, ?_⟩
    have hr1 : w1.heap[r]? = some (.mapIter (some m) since seen last) := by rcases hal with rfl | rfl <;> exact hr
    have hset : (setObj r (.mapIter (some m) since (seen.push L[j].born) clock)).run Q w1 = .ok () { w1 with heap := w1.heap.setIfInBounds r (.mapIter (some m) since (seen.push L[j].born) clock) } := by
      simp [setObj, Sem.run, hr1]
    simp only [hne, Bool.false_eq_true, if_false, Array.empty_append, Array.size_map, hrun, Array.getElem?_map, Array.getElem?_eq_getElem hj, Option.map_some, Sem.run_bind, hset, Result.andThen]
    rfl

/-- The next entry. -/
theorem next_ok (h : SRel Q T F G w a s) {o : Oper} {it : Operand} (ho : isNext o = some it) {post : S → Prop} (hp : nextK Q s o.dst ((s.ev it).under none) post) {K : Act → World → Prop} {Q' : Exit → Act → World → Prop}
    (hK : ∀ s' a' w', post s' → Post Q T F G w s s' a' w' → K a' w') : o.wp Q a w K Q' := by
  have hop : o.op = .next it false := by
    unfold isNext at ho
    split at ho
    · rename_i it' hop
      split at ho
      · simp at ho; subst ho; exact hop
      · cases ho
    · cases ho
  have hv := eg_ok h (g := none) trivial it
  unfold S.eg at hv
  generalize (s.ev it).under none = p at hv hp
  have hnx : ∃ n ver kt vt left cur, p = .ref n ver 0 ∧ s.obj n ver = some (.iter kt vt left cur) := by
    cases p with
    | ref n ver off =>
      cases off with
      | succ off => exact hp.elim
      | zero =>
        cases hob : s.obj n ver with
        | none => simp only [nextK, hob] at hp; exact hp.elim
        | some o =>
          cases o with
          | iter kt vt left cur => exact ⟨n, ver, kt, vt, left, cur, rfl, hob⟩
          | _ => simp only [nextK, hob] at hp; exact hp.elim
    | _ => exact hp.elim
  obtain ⟨n, ver, kt, vt, left, cur, rfl, hob⟩ := hnx
  simp only [nextK, hob] at hp
  · · obtain ⟨p1, p2⟩ := hp
      obtain ⟨e, he, hev, heo⟩ := S.obj_spec hob
      have hO := h.rg n e he
      rw [heo] at hO
      obtain ⟨b, mo, since, seen, last, hg, hh, hO⟩ := hO
      have hval : a.eval it = .pointer (some ⟨b, 0, none⟩) := by
        generalize a.eval it = v at hv
        cases hv with
        | ref _ _ _ _ hr h1 =>
          obtain ⟨b', hg', rfl⟩ := hr.at he hev (by rw [heo]; rfl)
          rw [hg] at hg'
          simp at hg'
          rw [hg']
      have over : (∀ k, left k = none) → (Instr.next (.pointer (some ⟨b, 0, none⟩)) false o.type).run Q w = .ok (.tuple #[.bool false]) w → o.wp Q a w K Q' := fun h0 hrun => by
        obtain ⟨s1, hs1, hpost⟩ := KW.ofO (p := fun s1 => s.put o.dst (.tup [.d (.bool false)]) = some s1) (fun _ h => h) _ (p2 h0)
        obtain ⟨c1, c2⟩ := put_ok h hs1 (v := .tuple #[.bool false]) (TRep.of (.tup [.bool false] [.d (.bool false)] rfl fun i v c hv hc => by
          cases i with
          | zero => simp at hv hc; subst hv; subst hc; exact .d (.bool false)
          | succ i => simp at hv))
        refine wp_of_ran (v := .tuple #[.bool false]) (w' := w) (.inl (by simp [execOp, hop, hval, hrun])) (hK s1 _ _ hpost ⟨F, G, c1, ?_⟩)
        rw [c2]
        exact Ext.refl _ _ _
      rcases hO with ⟨rfl, h0, _⟩ | ⟨m, es, rfl, hF, hm, hlast, hI, hc⟩
      · exact over h0 (by simp [Instr.next, getObj, Sem.run_bind, Sem.run, hh])
      · subst hlast
        have hold : ∀ x ∈ es.toList, x.born < last := by obtain ⟨ks, _, _, _, h5, _⟩ := hI; exact h5
        rcases run_next_of (Q := Q) o.type hh hm hold (Nat.le_refl _) with ⟨h0, hrun⟩ | ⟨en, hen1, hen2, w1, hal, hrun⟩
        · exact over (hI.over h0) hrun
        · have hen2 : en ∈ es.toList ∧ seen.contains en.born = false := ⟨hen1, hen2⟩
          obtain ⟨k, x, hk, hkv, hx, hI2⟩ := hI.next hen2.1 hen2.2
          obtain ⟨k', rfl, hp2⟩ := etaD_ok Q kt k _ (p1 k x hk)
          obtain ⟨x', rfl, hp3⟩ := etaD_ok Q vt x _ hp2
          obtain ⟨s1, hs1, hpost⟩ := KW.ofO (p := fun s1 => (s.setObj n (.iter kt vt (delD k left) (some (k, x)))).put o.dst (.tup [.d (.bool true), .d k, .d x]) = some s1) (fun _ h => h) _ hp3
          have hw1 : w1.heap = w.heap ∧ w1.os = w.os ∧ w1.tape = w.tape ∧ w1.output = w.output := by rcases hal with rfl | rfl <;> exact ⟨rfl, rfl, rfl, rfl⟩
          have hblt : b < w.heap.size := (Array.getElem?_eq_some_iff.1 hh).1
          have hown : ownB (G n) e.obj = some b := by rw [heo, hg]; rfl
          have hne : m ≠ b := fun hmb => by
            subst hmb
            exact h.fre n e m he hown hF
          have hk0 : ∀ b0, b0 ≠ b → (w.heap.setIfInBounds b (.mapIter (some m) last (seen.push en.born) last))[b0]? = w.heap[b0]? := fun b0 hne => Array.getElem?_setIfInBounds_ne (Ne.symm hne)
          have hself : (w.heap.setIfInBounds b (.mapIter (some m) last (seen.push en.born) last))[b]? = some (.mapIter (some m) last (seen.push en.born) last) := by rw [Array.getElem?_setIfInBounds_self_of_lt hblt]
          have hfre : ∀ b0, F b0 → b0 ≠ b := fun b0 hf e0 => by
            subst e0
            exact h.fre n e b0 he hown hf
          rw [S.setObj_spec he] at hs1
          have hdr1 : w.drawn ≤ w1.drawn := by rcases hal with rfl | rfl
                                               · exact Nat.le_refl _
                                               · exact Nat.le_succ _
          obtain ⟨d1, d2⟩ := h.upd (n := n) (e1 := ⟨e.ver, e.tag, .iter kt vt (delD k left) (some (k, x))⟩) (g1 := G n) (w' := { w1 with heap := w.heap.setIfInBounds b (.mapIter (some m) last (seen.push en.born) last) }) (hdr := hdr1)
            (fun e' he' => by
              rw [he] at he'
              cases he'
              exact .inr ⟨rfl, fun _ => ⟨by rw [heo]; rfl, rfl⟩⟩)
            (fun b0 _ hno => hk0 b0 fun e0 => by
              subst e0
              exact hno ⟨e, he, hown⟩) (by simp) hw1.2.1 hw1.2.2.1 hw1.2.2.2
            (fun b0 hb0 => .inr ⟨e, he, by rw [heo]; exact hb0⟩)
            ⟨b, some m, last, seen.push en.born, last, by rw [upd_self]; exact hg, hself, .inr ⟨m, es, rfl, hF, (hk0 m hne).trans hm, rfl, hI2.mono (fun _ h => h) (fun b0 hf => hk0 b0 (hfre b0 hf)), fun k1 x1 hc1 => by
              simp only [Option.some.injEq, Prod.mk.injEq] at hc1
              obtain ⟨rfl, rfl⟩ := hc1
              exact ⟨en, hen2.1, by simp, hkv, hx.mono (fun _ h => h) (fun b0 hf => hk0 b0 (hfre b0 hf))⟩⟩⟩
            (fun i hi _ => h.tag n e i he hi (by rw [heo]; rfl))
          rw [upd_self] at d1 d2
          obtain ⟨c1, c2⟩ := put_ok d1 hs1 (v := .tuple #[.bool true, en.key, en.val]) (TRep.of (.tup [.bool true, en.key, en.val] _ rfl fun i v c hv hc => by
            match i with
            | 0 => simp at hv hc; subst hv; subst hc; exact .d (.bool true)
            | 1 => simp at hv hc; subst hv; subst hc; exact .d (DRep.of_toV _ _ hkv)
            | 2 => simp at hv hc; subst hv; subst hc; exact .d (hx.mono (fun _ h => h) (fun b0 hf => hk0 b0 (hfre b0 hf)))
            | i + 3 => simp at hv))
          refine wp_of_ran (v := .tuple #[.bool true, en.key, en.val]) (w' := { w1 with heap := w.heap.setIfInBounds b (.mapIter (some m) last (seen.push en.born) last) }) (.inl ?_) (hK s1 _ _ hpost ⟨F, G, c1, ?_⟩)
          · simp only [execOp, hop, hval, Sem.run_bind, hrun]
            simp [hw1.1]
          · rw [c2]
            exact d2

/-- What a function does, in whatever order. -/
def NOK (Q : Program) (w0 : World) (f : FuncId) (h : KF1) : Prop :=
  ∀ ps R post, h ps R post → ∀ (F : Nat → Prop) (G : Nat → Value) (w : World) (vs : List Value), HRel Q ⟨G, w0⟩ F G w R → vs.length = ps.length →
    (∀ (i : Nat) (v : Value) (c : P), vs[i]? = some v → ps[i]? = some c → PRep F w G R v c) →
    CallOut Q f ⟨vs⟩ w (fun v w' => ∃ y : P × List (Nat × En), post y ∧ ∃ F' G', HRel Q ⟨G, w0⟩ F' G' w' y.2 ∧ PRep F' w' G' y.2 v y.1 ∧ Ext (Own G R) (Own G' y.2) F F' w w')

theorem callN_ok {HN : List (FuncId × KF1)} (hHN : ∀ f h, lk HN f = some h → NOK Q T.w0 f h) (h : SRel Q T F G w a s) {dst : Option Nat} {pf : P} {ps : List P} {post : S → Prop} (hs : callK Q (kfN HN) s dst pf ps post) {fv : Value} {vs : List Value} (hf : PRep F w G s.rg fv pf) (hl : vs.length = ps.length)
    (hv : ∀ (i : Nat) (v : Value) (c : P), vs[i]? = some v → ps[i]? = some c → PRep F w G s.rg v c) :
    ∃ fid cs, fv = .func (.func fid) #[] ⟨cs⟩ ∧ CallOut Q fid ⟨vs ++ cs⟩ w (fun v w' => ∃ s', post s' ∧ ∃ F' G', SRel Q T F' G' w' (a.put dst v) s' ∧ Ext (Own G s.rg) (Own G' s'.rg) F F' w w') := by
  cases pf with
  | fn fid caps =>
    cases hf with
    | fn _ cs _ hcl hcc =>
      refine ⟨fid, cs, rfl, ?_⟩
      cases hfz : handArgs Q s fid (ps ++ caps) with
      | none => simp only [callK, hfz] at hs; exact hs.elim
      | some r =>
        obtain ⟨s1, qs⟩ := r
        cases hnd : nodupN (reach s1.rg 1000 qs []) with
        | false => simp only [callK, hfz, hnd, Bool.false_eq_true, if_false] at hs; exact hs.elim
        | true =>
          cases hsub : sub s1.rg (toPos s1.rg (reach s1.rg 1000 qs [])) true 0 (reach s1.rg 1000 qs []) with
          | none => simp only [callK, hfz, hnd, if_true, hsub] at hs; exact hs.elim
          | some R0 =>
            simp only [callK, hfz, hnd, if_true, hsub] at hs
            cases hh : lk HN fid with
            | none => simp only [kfN, hh] at hs; exact hs.elim
            | some hfun =>
              simp only [kfN, hh] at hs
              have hargs : ∀ (i : Nat) (v : Value) (c : P), (vs ++ cs)[i]? = some v → (ps ++ caps)[i]? = some c → PRep F w G s.rg v c := fun i v c h1 h2 => by
                by_cases hi : i < vs.length
                · rw [List.getElem?_append_left hi] at h1
                  rw [List.getElem?_append_left (by omega)] at h2
                  exact hv i v c h1 h2
                · rw [List.getElem?_append_right (by omega)] at h1 h2
                  rw [← hl] at h2
                  exact hcc _ v c h1 h2
              obtain ⟨F1, a1, a2, a3, a4, a5, a6⟩ := handArgs_ok (ps ++ caps) s F s1 qs (vs ++ cs) h hfz (by simp [hl, hcl]) hargs
              obtain ⟨b1, b2, b3⟩ := a1.heap.sub hsub hnd
              simp only [if_true] at b1
              have hq := hHN fid hfun hh _ R0 _ hs F1 _ w (vs ++ cs) b1 (by rw [rens_len]; exact a5) (fun i v c h1 h2 => by
                rw [rens_get] at h2
                simp only [Option.map_eq_some_iff] at h2
                obtain ⟨q, hq, rfl⟩ := h2
                exact ren_ok b2 (a6 i v q h1 hq))
              refine hq.mono fun v w' ⟨⟨p, R1⟩, hpost, F2, G2, c1, c2, c3⟩ => ?_
              simp only at hpost c1 c2 c3
              cases hmd : (nodupN (untagged R1 (reach R1 1000 (p :: tagRoots R1 R1) [])) && Nat.ble (untagged R1 (reach R1 1000 (p :: tagRoots R1 R1) [])).length 1000) with
              | false => simp only [hmd, Bool.false_eq_true, if_false] at hpost; exact hpost.elim
              | true =>
                simp only [hmd, if_true] at hpost
                cases hback : putBack R1 (fromCall R1 s1.rg (reach s1.rg 1000 qs []) (untagged R1 (reach R1 1000 (p :: tagRoots R1 R1) [])) (site dst * 1000)) 0 (reach s1.rg 1000 qs []) s1.rg with
                | none => simp only [hback] at hpost; exact hpost.elim
                | some R2 =>
                  simp only [hback] at hpost
                  cases hnew : putNew R1 (fromCall R1 s1.rg (reach s1.rg 1000 qs []) (untagged R1 (reach R1 1000 (p :: tagRoots R1 R1) [])) (site dst * 1000)) (site dst * 1000) (untagged R1 (reach R1 1000 (p :: tagRoots R1 R1) [])) R2 with
                  | none => simp only [hnew] at hpost; exact hpost.elim
                  | some R3 =>
                    simp only [hnew] at hpost
                    obtain ⟨s', hs', hpost⟩ := KW.ofO (p := fun s' => ({ s1 with rg := R3 } : S).put dst (ren _ p) = some s') (fun _ h => h) _ hpost
                    obtain ⟨G3, d1, d2, d3⟩ := after_call a1 hnd (Bool.and_eq_true _ _ ▸ hmd : _ ∧ _).1 hsub c1 c3 (untagged_spec R1 _) hback hnew
                    obtain ⟨e1, e2⟩ := put_ok d1 hs' (TRep.of (ren_ok d3 c2))
                    refine ⟨s', hpost, F2, G3, e1, ?_⟩
                    rw [e2]
                    exact a2.trans d2
  | _ => exact hs.elim

theorem nCall_ok {HN : List (FuncId × KF1)} (hHN : ∀ f h, lk HN f = some h → NOK Q T.w0 f h) (h : SRel Q T F G w a s) {o : Oper} {pf : P} {ps : List P} (ho : nCall HN s o = some (pf, ps)) {post : S → Prop} (hp : callK Q (kfN HN) s o.dst pf ps post) {K : Act → World → Prop} {Q' : Exit → Act → World → Prop}
    (hK : ∀ s' a' w', post s' → Post Q T F G w s s' a' w' → K a' w') : o.guard = none ∧ o.wp Q a w K Q' := by
  unfold nCall at ho
  split at ho
  · rename_i f xs hc
    split at ho
    · rename_i fid caps hfe
      split at ho
      · rename_i hcond
        simp only [Bool.and_eq_true] at hcond
        refine ⟨by simpa using hcond.2, ?_⟩
        simp only [Option.some.injEq, Prod.mk.injEq] at ho
        obtain ⟨rfl, rfl⟩ := ho
        unfold isCall at hc
        split at hc
        · rename_i c hop
          split at hc
          · rename_i f' hcal
            simp at hc
            obtain ⟨rfl, rfl⟩ := hc
            obtain ⟨fid', cs, hfv, hout⟩ := callN_ok hHN h hp (by rw [← hfe]; exact eg_ok h (g := none) trivial f') (vs := c.args.toList.map a.eval) (by simp) (fun i v p hv hp => by
              rw [List.getElem?_map] at hv hp
              simp only [Option.map_eq_some_iff] at hv hp
              obtain ⟨x, hx, rfl⟩ := hv
              obtain ⟨y, hy, rfl⟩ := hp
              rw [hx] at hy
              cases hy
              exact eg_ok h (g := none) trivial x)
            have hrun : (execOp a.eval o).run Q w = (callFunc fid' ⟨c.args.toList.map a.eval ++ cs⟩).run Q w := by
              have e : (c.args.map a.eval) ++ (⟨cs⟩ : Array Value) = ⟨c.args.toList.map a.eval ++ cs⟩ := by apply Array.toList_inj.1; simp
              simp [execOp, hop, resolve, hcal, hfv, Deferred.ofValue, invoke, e]
            unfold Oper.wp
            rw [hrun]
            rcases hout with ⟨h1, h2⟩ | ⟨v, w', h1, s', hps, F', G', h2, h3⟩
            · rw [h1]
              refine h2.mono fun e w' ⟨v, he, s', hps, F', G', h3, h4⟩ => ?_
              subst he
              exact hK _ _ _ hps ⟨F', G', h3, h4⟩
            · rw [h1]
              exact hK _ _ _ hps ⟨F', G', h2, h3⟩
          · cases hc
        · cases hc
      · cases ho
    · cases ho
  · cases ho

theorem regionN_ok {HN : List (FuncId × KF1)} (hHN : ∀ f h, lk HN f = some h → NOK Q T.w0 f h) {kf : KF} {cf : Nat → Nat → CF} (hkf : KFOK kf cf) (hcf : ∀ a b, CFOK Q T.w0 (cf a b)) {ops : List Oper} {Q' : Exit → Act → World → Prop} {post : S → Prop} : ∀ (l : List Oper) (kn : List (Nat × Bool)) (F : Nat → Prop) (G : Nat → Value) (w : World) (a : Act) (s : S), KnOK kn s → SRel Q T F G w a s → regionN Q kf HN ops l kn s post →
    (∀ s' a' w', post s' → Post Q T F G w s s' a' w' → Q' .normal a' w') → wpList Q ops.toArray Q' l a w
  | [], kn, F, G, w, a, s, _, h, hp, hK => by
    unfold regionN at hp
    exact hK s a w hp ⟨F, G, h, Ext.refl _ _ _⟩
  | o :: l, kn, F, G, w, a, s, hkn, h, hp, hK => by
    cases ho : isNext o with
    | some it =>
      simp only [regionN, ho] at hp
      have hgd : o.guard = none := by
        unfold isNext at ho
        split at ho
        · split at ho
          · rename_i hg; simpa using hg
          · cases ho
        · cases ho
      have : o.wp Q a w (wpList Q ops.toArray Q' l) Q' := next_ok h ho (post := fun s1 => regionN Q kf HN ops l [] s1 post) (by
        have e : (fun s1 : S => s1.force fun s1 => regionN Q kf HN ops l [] s1) = fun s1 => regionN Q kf HN ops l [] s1 := by funext s1; rw [S.force_eq]
        rw [e] at hp
        exact hp) fun s1 a1 w1 hp1 ⟨F1, G1, g1, g2⟩ => regionN_ok hHN hkf hcf l _ F1 G1 w1 a1 s1 (KnOK.nil s1) g1 hp1 fun s' a' w' hps hP => hK s' a' w' hps (hP.trans g2)
      unfold wpList
      rw [if_pos (by simp [Region.wanted, hgd])]
      exact .inl this
    | none =>
    cases hcl : nCall HN s o with
    | some fx =>
      obtain ⟨pf, ps⟩ := fx
      simp only [regionN, ho, hcl] at hp
      have e : (fun s1 : S => s1.force fun s1 => regionN Q kf HN ops l [] s1) = fun s1 => regionN Q kf HN ops l [] s1 := by funext s1; rw [S.force_eq]
      rw [e] at hp
      obtain ⟨hgd, this⟩ := nCall_ok (K := wpList Q ops.toArray Q' l) (Q' := Q') hHN h hcl (post := fun s1 => regionN Q kf HN ops l [] s1 post) hp fun s1 a1 w1 hp1 ⟨F1, G1, g1, g2⟩ => regionN_ok hHN hkf hcf l _ F1 G1 w1 a1 s1 (KnOK.nil s1) g1 hp1 fun s' a' w' hps hP => hK s' a' w' hps (hP.trans g2)
      unfold wpList
      rw [if_pos (by simp [Region.wanted, hgd])]
      exact .inl this
    | none =>
      simp only [regionN, ho, hcl] at hp
      obtain ⟨x, ⟨hx, hk⟩, hp1⟩ := stepK_ok hkf hkn _ hp
      rw [S.force_eq] at hp1
      obtain ⟨i, j, hx⟩ := hx.some
      have hst := stepOp_ok (hcf i j) h hx (K := wpList Q ops.toArray Q' l) (Q' := Q') (fun a' w' ⟨F', G', g1, g2⟩ =>
        regionN_ok hHN hkf hcf l _ F' G' w' a' x.1 hk g1 hp1 (fun s' a2 w2 hps hp => hK s' a2 w2 hps (hp.trans g2)))
      unfold wpList
      split
      · rename_i hw; rw [if_pos hw] at hst; exact .inl hst
      · rename_i hw; rw [if_neg hw] at hst; exact hst

theorem TW.seq {x y : Code} {p post : PX × S → Prop} (h1 : TW Q T x s p) (h2 : ∀ s1, p (.normal, s1) → TW Q T y s1 post) (h3 : ∀ e s1, e ≠ .normal → p (e, s1) → post (e, s1)) : TW Q T (.seq x y) s post := fun F G w a Q' hs hK => by
  refine wp_seq (h1 F G w a _ hs fun e s1 a1 w1 hp hP => ?_)
  cases e with
  | normal =>
    obtain ⟨F1, G1, g1, g2⟩ := hP
    exact h2 s1 hp F1 G1 w1 a1 Q' g1 fun e2 s2 a2 w2 hp2 hP2 => hK e2 s2 a2 w2 hp2 (Post.trans g2 hP2)
  | exit id => exact hK _ s1 a1 w1 (h3 _ _ (by simp) hp) hP
  | ret => exact hK _ s1 a1 w1 (h3 _ _ (by simp) hp) hP

theorem TW.cond {c : Operand} {x y : Code} {b : Bool} {post : PX × S → Prop} (hb : s.ev c = .d (.bool b)) (h : TW Q T (if b then x else y) s post) : TW Q T (.cond c x y) s post := fun F G w a Q' hs hK => by
  have hv : a.eval c = .bool b := by
    have := ev_ok hs c
    rw [hb] at this
    exact PRep.toV (p := .d (.bool b)) this rfl
  refine wp_cond hv ?_
  cases b with
  | true => exact h F G w a Q' hs hK
  | false => exact h F G w a Q' hs hK

theorem TW.block {id : Nat} {c : Code} {p post : PX × S → Prop} (h : TW Q T c s p) (hp : ∀ e s1, p (e, s1) → match e with | .exit id' => if Nat.beq id' id then post (.normal, s1) else post (e, s1) | _ => post (e, s1)) : TW Q T (.block id c) s post := fun F G w a Q' hs hK => by
  refine wp_block (h F G w a _ hs fun e s1 a1 w1 hp1 hP => ?_)
  have := hp e s1 hp1
  cases e with
  | normal => exact hK _ s1 a1 w1 this hP
  | ret => exact hK _ s1 a1 w1 this hP
  | exit id' =>
    simp only at this
    split at this
    · rename_i hid
      have hid : id' = id := by simpa using hid
      have := hK _ s1 a1 w1 this hP
      simp only [PX.toExit, Exit.inBlock, hid, if_true]
      exact this
    · rename_i hid
      have hid : ¬ id' = id := by simpa using hid
      have := hK _ s1 a1 w1 this hP
      simp only [PX.toExit, Exit.inBlock, hid, if_false]
      exact this

theorem TW.scope {c : Code} {post : PX × S → Prop} (h : TW Q T c s post) : TW Q T (.scope c) s post := fun F G w a Q' hs hK => by
  refine wp_scope_straight (h F G w a _ hs fun e s1 a1 w1 hp hP => ?_)
  have := hK e s1 a1 w1 hp hP
  cases e <;> simpa [PX.toExit, Exit.noGoto] using this

/-- A loop: from each head, a round comes out, or to a head that is nearer to its end. -/
theorem TW.loop {c : Code} {keep : Option (List Nat × List Nat)} {I : Nat → S → Prop} {O : PX × S → Prop}
    (hr : ∀ n s, I n s → TW Q T c s (fun x => match x.1 with | .normal => ∃ s2, headOf keep x.2 = some s2 ∧ ∃ m, m < n ∧ I m s2 | e => ∃ s2, behindOf keep x.2 = some s2 ∧ O (e, s2)))
    {n : Nat} {s0 : S} (h0 : headOf keep s = some s0) (hI : I n s0) : TW Q T (.loop c) s O := fun F G w a Q' hs hK => by
  obtain ⟨G0, g1, g2⟩ := headOf_ok hs h0
  have key : ∀ (N n : Nat) (s : S), n < N → I n s → ∀ (F : Nat → Prop) (G : Nat → Value) (w : World) (a : Act), SRel Q T F G w a s → (∀ e s' a' w', O (e, s') → Post Q T F G w s s' a' w' → Q' e.toExit a' w') → Code.rounds Q c Q' N a w := by
    intro N
    induction N with
    | zero => intro n s h; omega
    | succ N ih =>
      intro n s hn hI F G w a hs hK
      rw [rounds_succ]
      refine hr n s hI F G w a _ hs fun e s1 a1 w1 hp hP => ?_
      obtain ⟨F1, G1, k1, k2⟩ := hP
      cases e with
      | normal =>
        obtain ⟨s2, h2, m, hm, hi⟩ := hp
        obtain ⟨G2, m1, m2⟩ := headOf_ok k1 h2
        exact ih m s2 (by omega) hi F1 G2 w1 a1 m1 fun e s' a' w' hO hP => hK e s' a' w' hO (Post.trans (k2.trans m2) hP)
      | exit id =>
        obtain ⟨s2, h2, hO⟩ := hp
        obtain ⟨G2, m1, m2⟩ := headOf_ok (keep := keep.map fun l => (l.2, l.2)) k1 (by cases keep <;> exact h2)
        exact hK _ s2 a1 w1 hO ⟨F1, G2, m1, k2.trans m2⟩
      | ret =>
        obtain ⟨s2, h2, hO⟩ := hp
        obtain ⟨G2, m1, m2⟩ := headOf_ok (keep := keep.map fun l => (l.2, l.2)) k1 (by cases keep <;> exact h2)
        exact hK _ s2 a1 w1 hO ⟨F1, G2, m1, k2.trans m2⟩
  exact wp_loop_rounds (n + 1) (key (n + 1) n s0 (by omega) hI F G0 w a g1 fun e s' a' w' hO hP => hK e s' a' w' hO (Post.trans g2 hP))

variable {kp : Cfg}
theorem pexecN_ok {HN : List (FuncId × KF1)} (hHN : ∀ f h, lk HN f = some h → NOK Q T.w0 f h) {kf : KF} (hkf : KFOK kf (runF Q kp)) (hX : CFOK Q T.w0 kp.X) (hdr : Q.follows .mixedOrders = true) {kp1 : Nat → Option (List Nat × List Nat)} {hk : List (Nat × (S → K (PX × S)))} {dc : Nat → Nat} : ∀ (c : Code), clsOK dc c = true →
    (∀ d ∈ loopsIn c, ∀ h, lk hk (Code.rid d) = some h → ∀ s post, h s post → TW Q T (.loop d) s post) → ∀ (s : S) (post : PX × S → Prop), pexecN Q kf HN kp1 hk dc c s post → TW Q T c s post
  | .skip, _, _, s, post, hp => fun F G w a Q' hs hK => wp_skip (hK .normal s a w hp ⟨F, G, hs, Ext.refl _ _ _⟩)
  | .label _, _, _, s, post, hp => fun F G w a Q' hs hK => wp_label (hK .normal s a w hp ⟨F, G, hs, Ext.refl _ _ _⟩)
  | .region id ops draw, hl, _, s, post, hp => by
    have hcf : ∀ a b, CFOK Q T.w0 (runF Q kp a b) := fun a b => runF_ok hX hdr b
    unfold pexecN at hp
    cases draw with
    | true =>
      obtain ⟨s1, h1, hp⟩ := drawK_ok hkf (Nat.eq_of_beq_eq_true (by simpa [clsOK] using hl)) _ hp
      obtain ⟨i, j, h1⟩ := h1.some
      exact TW.of_run (kp := kp1) (lf := 0) (hcf i j) hdr (x := (.normal, s1)) (by simp only [pexec, if_true, h1]) hp
    | false =>
      simp only [Bool.false_eq_true, if_false] at hp
      split at hp
      · exact fun F G w a Q' hs hK => wp_region_list (by simpa using regionN_ok hHN hkf hcf ops.toList [] F G w a s (KnOK.nil s) hs hp fun s' a' w' hps hP => hK .normal s' a' w' hps hP)
      · obtain ⟨s1, h1, hp⟩ := regionK_ok hkf _ [] _ (KnOK.nil _) _ hp
        obtain ⟨i, j, h1⟩ := h1.some
        exact TW.of_run (kp := kp1) (lf := 0) (hcf i j) hdr (x := (.normal, s1)) (by simp only [pexec, Bool.false_eq_true, if_false, h1]) hp
  | .seq x y, hl, hh, s, post, hp => by
    unfold pexecN at hp
    have hl2 : clsOK dc x = true ∧ clsOK dc y = true := by simpa [clsOK] using hl
    refine TW.seq (pexecN_ok hHN hkf hX hdr x hl2.1 (fun d hd => hh d (by simp [loopsIn, hd])) s _ hp) (fun s1 h1 => pexecN_ok hHN hkf hX hdr y hl2.2 (fun d hd => hh d (by simp [loopsIn, hd])) s1 post h1) fun e s1 he h1 => ?_
    cases e with
    | normal => exact absurd rfl he
    | exit id => exact h1
    | ret => exact h1
  | .cond c x y, hl, hh, s, post, hp => by
    unfold pexecN at hp
    have hl2 : clsOK dc x = true ∧ clsOK dc y = true := by simpa [clsOK] using hl
    have hbx : ∃ b, s.ev c = .d (.bool b) := by
      cases hb : s.ev c with
      | d x =>
        cases x with
        | bool b => exact ⟨b, rfl⟩
        | _ => simp only [hb] at hp; exact hp.elim
      | _ => simp only [hb] at hp; exact hp.elim
    obtain ⟨b, hb⟩ := hbx
    simp only [hb] at hp
    obtain ⟨r, rfl, hp⟩ := KW.dec (b := b) (p := fun r => b = r) rfl _ hp
    refine TW.cond hb ?_
    cases b with
    | true => exact pexecN_ok hHN hkf hX hdr x hl2.1 (fun d hd => hh d (by simp [loopsIn, hd])) s post hp
    | false => exact pexecN_ok hHN hkf hX hdr y hl2.2 (fun d hd => hh d (by simp [loopsIn, hd])) s post hp
  | .block id c, hl, hh, s, post, hp => by
    unfold pexecN at hp
    refine TW.block (pexecN_ok hHN hkf hX hdr c hl (fun d hd => hh d (by simpa [loopsIn] using hd)) s _ hp) fun e s1 h1 => ?_
    cases e with
    | normal => exact h1
    | ret => exact h1
    | exit id' =>
      simp only at h1 ⊢
      split
      · rename_i h; rw [if_pos h] at h1; exact h1
      · rename_i h; rw [if_neg h] at h1; exact h1
  | .loop c, hl, hh, s, post, hp => by
    cases hh1 : lk hk (Code.rid c) with
    | some h => simp only [pexecN, hh1] at hp; exact hh c (by simp [loopsIn]) h hh1 s post hp
    | none => simp only [pexecN, hh1] at hp; exact hp.elim
  | .scope c, hl, hh, s, post, hp => by
    unfold pexecN at hp
    exact TW.scope (pexecN_ok hHN hkf hX hdr c hl (fun d hd => hh d (by simpa [loopsIn] using hd)) s post hp)
  | .exit id, _, _, s, post, hp => fun F G w a Q' hs hK => wp_exit (hK (.exit id) s a w hp ⟨F, G, hs, Ext.refl _ _ _⟩)
  | .ret, _, _, s, post, hp => fun F G w a Q' hs hK => wp_ret (hK .ret s a w hp ⟨F, G, hs, Ext.refl _ _ _⟩)
  | .rangeFunc _ _ _ _, _, _, s, post, hp => by unfold pexecN at hp; exact hp.elim
  | .goto _, _, _, s, post, hp => by unfold pexecN at hp; exact hp.elim
  | .refuse _, _, _, s, post, hp => by unfold pexecN at hp; exact hp.elim

/-- A function's body, in whatever order. -/
def bodyN (Q : Program) (kf : KF) (HN : List (FuncId × KF1)) (kp : Cfg) (hk : List (Nat × (S → K (PX × S)))) (dc : FuncId → Nat → Nat) : KF := fun f ps R =>
  match Q.funcs[f]? with
  | none => K.fail
  | some fn => match fn.body with
    | none => K.fail
    | some c => if fn.name == "runtime.NumGoroutine" then K.fail else
      K.bind (pexecN Q kf HN (kp f) hk (dc f) c ⟨fn.ntmps, enterTm 0 (nilsIn (kp f 999999) Q fn.params.toList ps), R⟩) fun x => match x.1 with
        | .exit _ => K.fail
        | _ => match resultsP Q x.2 fn.results.toList with
          | some qs => finishK Q R.length fn.resultTypes.toList qs x.2
          | none => K.fail

/-- A function does what it is told to do, in whatever order. -/
theorem NOK.mk {w0 : World} {HN : List (FuncId × KF1)} (hHN : ∀ f h, lk HN f = some h → NOK Q w0 f h) {h : KF1} {f : FuncId} {kf : KF} {dc : FuncId → Nat → Nat} {hk : List (Nat × (S → K (PX × S)))} (hkf : KFOK kf (runF Q kp)) (hX : CFOK Q w0 kp.X) (hdr : Q.follows .mixedOrders = true) (hdc : clsAll dc 0 Q.funcs.toList = true) (hu : uniq Q f = true)
    (hl : ∀ id h, lk hk id = some h → ∀ (val : Nat → Value) s post, h s post → TW Q ⟨val, w0⟩ (.loop (loopOf Q f id)) s post)
    (hb : ∀ ps R post, h ps R post → bodyN Q kf HN kp hk dc f ps R post) : NOK Q w0 f h := by
  intro ps R post hr F G w vs hH hlen hv
  have hb := hb ps R post hr
  cases hfn : Q.funcs[f]? with
  | none => simp only [bodyN, hfn] at hb; exact hb.elim
  | some fn =>
    cases hc : fn.body with
    | none => simp only [bodyN, hfn, hc] at hb; exact hb.elim
    | some c =>
      cases hname : (fn.name == "runtime.NumGoroutine") with
      | true => simp only [bodyN, hfn, hc, hname, if_true] at hb; exact hb.elim
      | false =>
        simp only [bodyN, hfn, hc, hname, Bool.false_eq_true, if_false] at hb
        left
        refine ⟨by simp [callFunc, hfn, hc]; simpa using hname, ?_⟩
        refine calls_of_wp hfn hc ?_
        have hl' : vs.length = (nilsIn (kp f 999999) Q fn.params.toList ps).length := by rw [nilsIn_len]; exact hlen
        have hv' := nilsIn_ok (Q := Q) (kp f 999999) fn.params.toList ps vs hv
        have hstart : SRel Q ⟨G, w0⟩ F G w { tmps := (⟨vs⟩ : Array Value) ++ Array.replicate (fn.ntmps - (⟨vs⟩ : Array Value).size) undef, defers := [] } ⟨fn.ntmps, enterTm 0 (nilsIn (kp f 999999) Q fn.params.toList ps), R⟩ := by
          refine hH.state rfl rfl (by simp; omega) (fun t p hp => ?_)
          obtain ⟨_, h2⟩ := enterTm_lk _ 0 t p hp
          simp at h2
          have hlt : t < vs.length := by have := (List.getElem?_eq_some_iff.1 h2).1; omega
          have e : ((⟨vs⟩ : Array Value) ++ Array.replicate (fn.ntmps - (⟨vs⟩ : Array Value).size) undef).getD t undef = vs[t] := by
            rw [getD_list]
            simp [List.getElem?_append_left hlt, hlt]
          rw [e]
          exact TRep.of (hv' t _ p (List.getElem?_eq_getElem hlt) h2)
        have hTW := pexecN_ok (T := ⟨G, w0⟩) hHN hkf hX hdr (kp1 := kp f) c (clsAll_ok hdc f fn c hfn hc) (fun d hd h hh s post hp => by
          have e : loopOf Q f (Code.rid d) = d := by
            unfold uniq at hu
            rw [hfn] at hu
            simp only [hc] at hu
            unfold loopOf
            rw [hfn]
            simp only [hc, findLoop_of _ (nodupN_spec _ hu) hd, Option.getD_some]
          have := hl _ h hh G s post hp
          rwa [e] at this) _ _ hb
        refine hTW F G w _ _ hstart fun e s1 a' w' hp hP => ?_
        obtain ⟨F', G', h1, h2⟩ := hP
        have fin : ∀ qs (y : P × List (Nat × En)), resultsP Q s1 fn.results.toList = some qs → finish Q R.length fn.resultTypes.toList qs s1 = some y → post y →
            a'.defers = [] ∧ ∃ v, (results fn a'.tmps).run Q w' = .ok v w' ∧ ∃ v2, Ending.returned v = .returned v2 ∧ ∃ y : P × List (Nat × En), post y ∧ ∃ F' G', HRel Q ⟨G, w0⟩ F' G' w' y.2 ∧ PRep F' w' G' y.2 v2 y.1 ∧ Ext (Own G R) (Own G' y.2) F F' w w' := by
          intro qs y hq hpr hpost
          obtain ⟨us, g1, g2, g3⟩ := results_vs h1 hq
          obtain ⟨F2, G2, k1, k2, k3⟩ := finish_ok h1 hpr g2 g3
          exact ⟨h1.nod, _, g1, _, rfl, y, hpost, F2, G2, k1, k2, h2.trans k3⟩
        have hend : e ≠ .normal → e ≠ .ret → False := fun h1 h2 => by
          cases e with
          | normal => exact h1 rfl
          | ret => exact h2 rfl
          | exit id => exact hp
        have hq : ∃ qs y, resultsP Q s1 fn.results.toList = some qs ∧ finish Q R.length fn.resultTypes.toList qs s1 = some y ∧ post y := by
          cases e with
          | exit id => exact hp.elim
          | normal =>
            cases hq : resultsP Q s1 fn.results.toList with
            | none => simp only [hq] at hp; exact hp.elim
            | some qs =>
              simp only [hq] at hp
              obtain ⟨y, hy, hpo⟩ := KW.ofO (p := fun y => finish Q R.length fn.resultTypes.toList qs s1 = some y) (fun _ h => h) _ hp
              exact ⟨qs, y, rfl, hy, hpo⟩
          | ret =>
            cases hq : resultsP Q s1 fn.results.toList with
            | none => simp only [hq] at hp; exact hp.elim
            | some qs =>
              simp only [hq] at hp
              obtain ⟨y, hy, hpo⟩ := KW.ofO (p := fun y => finish Q R.length fn.resultTypes.toList qs s1 = some y) (fun _ h => h) _ hp
              exact ⟨qs, y, rfl, hy, hpo⟩
        obtain ⟨qs, y, hq, hpr, hpo⟩ := hq
        have := fin qs y hq hpr hpo
        cases e with
        | normal => exact this
        | ret => exact this
        | exit id => exact hp.elim

/-- What is told of a function whose order is open. -/
theorem XOK.ofN {w0 : World} {g : TF} {f : FuncId} {h : KF1} (hN : NOK Q w0 f h) (hg : ∀ ps R y, g ps R = some y → h ps R (fun z => z = y)) : XOK Q w0 f g := by
  intro _ ps R p R1 hr F G w vs hH hlen hv
  refine (hN ps R _ (hg ps R (p, R1) hr) F G w vs hH hlen hv).mono fun v w' ⟨y, hy, F', G', h1, h2, h3⟩ => by subst hy; exact ⟨F', G', h1, h2, h3⟩
end
end Pi

