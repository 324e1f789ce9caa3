/- The text PiKOk. -/
import Derived.Test.YtccffeofkhkbcaaGreatDoorPiPv
import Derived.Laws.Strings
import Derived.IntWalk
/- What the led run answers, the run answers. Part one: operations that change nothing. -/
namespace Pi
open Go

def KW {α : Type} (m : K α) (p : α → Prop) : Prop := ∀ post, m post → ∃ a, p a ∧ post a

theorem KW.ret {α : Type} {a : α} {p : α → Prop} (h : p a) : KW (K.ret a) p := fun _ hm => ⟨a, h, hm⟩
theorem KW.fail {α : Type} {p : α → Prop} : KW (K.fail : K α) p := fun _ hm => hm.elim
theorem KW.obl {α : Type} {b : Bool} {a : α} {p : α → Prop} (h : b = true → p a) : KW (K.obl b a) p := fun _ hm => by
  unfold K.obl at hm
  cases b with
  | true => exact ⟨a, h rfl, hm⟩
  | false => exact hm.elim
theorem KW.dec {b : Bool} {p : Bool → Prop} (h : p b) : KW (K.dec b) p := fun _ hm => by
  unfold K.dec at hm
  cases b with
  | true => exact ⟨true, h, hm⟩
  | false => exact ⟨false, h, hm⟩
theorem KW.ofO {α : Type} {o : Option α} {p : α → Prop} (h : ∀ a, o = some a → p a) : KW (K.ofO o) p := fun _ hm => by
  unfold K.ofO at hm
  split at hm
  · exact ⟨_, h _ rfl, hm⟩
  · exact hm.elim
theorem KW.bind {α β : Type} {m : K α} {f : α → K β} {p : α → Prop} {q : β → Prop} (hm : KW m p) (hf : ∀ a, p a → KW (f a) q) : KW (K.bind m f) q := fun post h => by
  obtain ⟨a, ha, h2⟩ := hm _ h
  exact hf a ha post h2
theorem KW.mono {α : Type} {m : K α} {p q : α → Prop} (h : KW m p) (hpq : ∀ a, p a → q a) : KW m q := fun post hm => by
  obtain ⟨a, ha, h2⟩ := h post hm
  exact ⟨a, hpq a ha, h2⟩

/-! data written out -/
theorem isC_eta {Q : Program} {t : TypeId} {x y : D} (h : etaC Q t x = some y) (hb : isC Q t x = true) : x = y := by
  unfold etaC at h
  unfold isC at hb
  cases hu : Q.underlying t with
  | none => simp [hu] at h
  | some d =>
    rw [hu] at h hb
    cases d with
    | bool => cases x <;> simp at hb h; rw [← h]; rfl
    | int k => cases x <;> simp at hb h; subst hb; rw [← h]; rfl
    | string => cases x <;> simp at hb h; rw [← h]; rfl
    | slice e =>
      cases x <;> simp at hb h
      simp only [hb] at h
      split at h
      · rename_i k hk; simp at hk h; subst hk; rw [← h]; rfl
      · cases h
    | _ => simp at h

theorem isCs_eta {Q : Program} {x : D} : ∀ (ts : List TypeId) (j : Nat) (cs : List D), etaCs Q x j ts = some cs → isCs Q x j ts = true → cs = (List.range' j ts.length).map x.cAt
  | [], j, cs, h, _ => by simp [etaCs] at h; subst h; rfl
  | t :: ts, j, cs, h, hb => by
    simp only [etaCs] at h
    simp only [isCs, Bool.and_eq_true] at hb
    cases h1 : etaC Q t (x.cAt j) with
    | none => simp [h1] at h
    | some c =>
      cases h2 : etaCs Q x (j + 1) ts with
      | none => simp [h1, h2] at h
      | some ds =>
        simp [h1, h2] at h
        subst h
        rw [List.length_cons, List.range'_succ, List.map_cons, ← isCs_eta ts (j + 1) ds h2 hb.2, isC_eta h1 hb.1]

theorem etaD_ok (Q : Program) (t : TypeId) (x : D) : KW (etaD Q t x) (fun y => x = y) := by
  unfold etaD
  split
  · rename_i y hy
    refine KW.obl fun hb => ?_
    unfold isD at hb
    split at hy
    · rename_i hag
      rw [if_pos hag] at hb
      split at hy
      · rename_i cs hcs
        simp at hy
        subst hy
        simp only [Bool.and_eq_true] at hb
        have e := isCs_eta _ _ _ hcs hb.2
        cases x with
        | agg ds =>
          have hl := Nat.eq_of_beq_eq_true hb.1
          rw [e, ← hl]
          congr 1
          apply List.ext_getElem
          · simp
          · intro i h1 h2
            simp [D.cAt, D.cells, h1]
        | _ => simp at hb
      · cases hy
    · rename_i hag
      rw [if_neg hag] at hb
      exact isC_eta hy hb
  · exact KW.fail

theorem nth_some {es : List D} {i : Nat} (h : i < es.length) : es[i]? = some (D.nth es i) := by
  simp [D.nth, h]

/-! operators -/
theorem arith_ok (k : IntKind) (n : Int) : KW (arith k n) (fun z => z = .int k (k.wrap n)) := by
  unfold arith
  split
  · refine KW.obl fun hb => ?_
    simp only [decide_eq_true_eq] at hb
    rw [IntWalk.i64_in n hb]
  · exact KW.ret rfl

theorem binK_ok {Q : Program} {s : S} {op : BinOp} {t : TypeId} {x y : Operand} {p q : D} {m : K D} (h : binK Q op t p q = some m) : KW m (fun z => binP Q s op t x y (.d p) (.d q) = some (.d z)) := by
  cases p with
  | int k a =>
    cases q with
    | int k' b =>
      simp only [binK] at h
      have keyI : ∀ (n : Int), evalPure Q (do eqGuard op t x y (.int k a) (.int k' b); binOp op t (.int k a) (.int k' b)) = some (.int k n) → binP Q s op t x y (.d (.int k a)) (.d (.int k' b)) = some (.d (.int k n)) := by
        intro n hv
        simp only [binP, P.toV, D.toV, D.toVc, pureV, hv, D.ofV, D.ofVc]
      have keyB : ∀ (c : Bool), evalPure Q (do eqGuard op t x y (.int k a) (.int k' b); binOp op t (.int k a) (.int k' b)) = some (.bool c) → binP Q s op t x y (.d (.int k a)) (.d (.int k' b)) = some (.d (.bool c)) := by
        intro n hv
        simp only [binP, P.toV, D.toV, D.toVc, pureV, hv, D.ofV, D.ofVc]
      split at h
      · simp only [Option.some.injEq] at h; subst h
        refine KW.bind (p := fun _ => ¬ b < 0) (KW.obl fun hb => by simpa using hb) fun _ hb => (arith_ok _ _).mono fun z hz => ?_
        subst hz
        refine keyI _ ?_
        show evalPure Q (if b < 0 then _ else _) = _
        rw [if_neg hb]; rfl
      · simp only [Option.some.injEq] at h; subst h
        refine KW.obl fun hb => keyI _ ?_
        have hb : ¬ b < 0 := by simpa using hb
        show evalPure Q (if b < 0 then _ else _) = _
        rw [if_neg hb]; rfl
      · split at h
        · rename_i hk
          have hk : k = k' := by simpa using hk
          subst hk
          split at h <;> simp only [Option.some.injEq, reduceCtorEq] at h <;> subst h
          · exact (arith_ok _ _).mono fun z hz => by subst hz; exact keyI _ (by cases k <;> rfl)
          · exact (arith_ok _ _).mono fun z hz => by subst hz; exact keyI _ (by cases k <;> rfl)
          · exact (arith_ok _ _).mono fun z hz => by subst hz; exact keyI _ (by cases k <;> rfl)
          · refine KW.bind (p := fun _ => ¬ b = 0) (KW.obl fun hb => by simpa using hb) fun _ hb => (arith_ok _ _).mono fun z hz => ?_
            subst hz
            refine keyI _ ?_
            have : evalPure Q (Op.intDiv .quo k a b) = some (.int k (k.wrap (a.tdiv b))) := by unfold Op.intDiv; rw [if_neg hb]; rfl
            rw [← this]
            cases k <;> rfl
          · refine KW.obl fun hb => keyI _ ?_
            have hb : ¬ b = 0 := by simpa using hb
            have : evalPure Q (Op.intDiv .rem k a b) = some (.int k (a.tmod b)) := by unfold Op.intDiv; rw [if_neg hb]; rfl
            rw [← this]
            cases k <;> rfl
          · exact KW.ret (keyI _ (by cases k <;> rfl))
          · exact KW.ret (keyI _ (by cases k <;> rfl))
          · exact KW.ret (keyI _ (by cases k <;> rfl))
          · exact KW.ret (keyI _ (by cases k <;> rfl))
          all_goals exact KW.ret (keyB _ (by cases k <;> rfl))
        · cases h
    | _ => simp [binK] at h
  | str a =>
    cases q with
    | str b =>
      have keyB : ∀ (c : Bool), evalPure Q (do eqGuard op t x y (.string ⟨⟨a⟩⟩) (.string ⟨⟨b⟩⟩); binOp op t (.string ⟨⟨a⟩⟩) (.string ⟨⟨b⟩⟩)) = some (.bool c) → binP Q s op t x y (.d (.str a)) (.d (.str b)) = some (.d (.bool c)) := by
        intro c hv
        simp only [binP, P.toV, D.toV, D.toVc, pureV, hv, D.ofV, D.ofVc]
      have e1 : (ByteArray.mk ⟨a⟩).toList = a := by rw [ByteArray.toList_eq]
      have e2 : (ByteArray.mk ⟨b⟩).toList = b := by rw [ByteArray.toList_eq]
      simp only [binK] at h
      split at h <;> simp only [Option.some.injEq, reduceCtorEq] at h <;> subst h
      · refine KW.obl fun hb => ?_
        have hb : a.length + b.length ≤ 9223372036854775807 := by simpa using hb
        have hv : evalPure Q (do eqGuard .add t x y (.string ⟨⟨a⟩⟩) (.string ⟨⟨b⟩⟩); binOp .add t (.string ⟨⟨a⟩⟩) (.string ⟨⟨b⟩⟩)) = some (.string (⟨⟨a⟩⟩ ++ ⟨⟨b⟩⟩)) := by
          show evalPure Q (if ((a.length + b.length : Nat) : Int) > IntKind.i64.max then _ else _) = _
          rw [if_neg (by have : IntKind.i64.max = 9223372036854775807 := by decide
                         omega)]
          rfl
        simp only [binP, P.toV, D.toV, D.toVc, pureV, hv, D.ofV, D.ofVc]
        simp
      · refine KW.ret (keyB _ ?_)
        have : evalPure Q (do eqGuard .eql t x y (.string ⟨⟨a⟩⟩) (.string ⟨⟨b⟩⟩); binOp .eql t (.string ⟨⟨a⟩⟩) (.string ⟨⟨b⟩⟩)) = some (.bool ((ByteArray.mk ⟨a⟩).toList == (ByteArray.mk ⟨b⟩).toList)) := rfl
        rw [this, e1, e2]
      · refine KW.ret (keyB _ ?_)
        have : evalPure Q (do eqGuard .neq t x y (.string ⟨⟨a⟩⟩) (.string ⟨⟨b⟩⟩); binOp .neq t (.string ⟨⟨a⟩⟩) (.string ⟨⟨b⟩⟩)) = some (.bool (!((ByteArray.mk ⟨a⟩).toList == (ByteArray.mk ⟨b⟩).toList))) := rfl
        rw [this, e1, e2]
      · refine KW.ret (keyB _ ?_)
        have : evalPure Q (do eqGuard .lss t x y (.string ⟨⟨a⟩⟩) (.string ⟨⟨b⟩⟩); binOp .lss t (.string ⟨⟨a⟩⟩) (.string ⟨⟨b⟩⟩)) = some (.bool (Op.bytesLess (ByteArray.mk ⟨a⟩).toList (ByteArray.mk ⟨b⟩).toList)) := rfl
        rw [this, e1, e2]
      · refine KW.ret (keyB _ ?_)
        have : evalPure Q (do eqGuard .leq t x y (.string ⟨⟨a⟩⟩) (.string ⟨⟨b⟩⟩); binOp .leq t (.string ⟨⟨a⟩⟩) (.string ⟨⟨b⟩⟩)) = some (.bool (Op.bytesLess (ByteArray.mk ⟨a⟩).toList (ByteArray.mk ⟨b⟩).toList || (ByteArray.mk ⟨a⟩).toList == (ByteArray.mk ⟨b⟩).toList)) := rfl
        rw [this, e1, e2]
      · refine KW.ret (keyB _ ?_)
        have : evalPure Q (do eqGuard .gtr t x y (.string ⟨⟨a⟩⟩) (.string ⟨⟨b⟩⟩); binOp .gtr t (.string ⟨⟨a⟩⟩) (.string ⟨⟨b⟩⟩)) = some (.bool (!(Op.bytesLess (ByteArray.mk ⟨a⟩).toList (ByteArray.mk ⟨b⟩).toList || (ByteArray.mk ⟨a⟩).toList == (ByteArray.mk ⟨b⟩).toList))) := rfl
        rw [this, e1, e2]
      · refine KW.ret (keyB _ ?_)
        have : evalPure Q (do eqGuard .geq t x y (.string ⟨⟨a⟩⟩) (.string ⟨⟨b⟩⟩); binOp .geq t (.string ⟨⟨a⟩⟩) (.string ⟨⟨b⟩⟩)) = some (.bool (!(Op.bytesLess (ByteArray.mk ⟨a⟩).toList (ByteArray.mk ⟨b⟩).toList))) := rfl
        rw [this, e1, e2]
    | _ => simp [binK] at h
  | bool a =>
    cases q with
    | bool b =>
      simp only [binK] at h
      have keyB : ∀ (c : Bool), evalPure Q (do eqGuard op t x y (.bool a) (.bool b); binOp op t (.bool a) (.bool b)) = some (.bool c) → binP Q s op t x y (.d (.bool a)) (.d (.bool b)) = some (.d (.bool c)) := by
        intro c hv
        simp only [binP, P.toV, D.toV, D.toVc, pureV, hv, D.ofV, D.ofVc]
      split at h
      · rename_i hu
        simp only [Option.some.injEq] at h; subst h
        refine KW.ret (keyB _ ?_)
        have : evalPure Q (do eqGuard .eql t x y (.bool a) (.bool b); binOp .eql t (.bool a) (.bool b)) = evalPure Q (do pure (.bool (← Op.equal t (.bool a) (.bool b)))) := rfl
        rw [this, evalPure_bind, evalPure_equal_bool hu]
        rfl
      · rename_i hu
        simp only [Option.some.injEq] at h; subst h
        refine KW.ret (keyB _ ?_)
        have : evalPure Q (do eqGuard .neq t x y (.bool a) (.bool b); binOp .neq t (.bool a) (.bool b)) = evalPure Q (do pure (.bool (!(← Op.equal t (.bool a) (.bool b))))) := rfl
        rw [this, evalPure_bind, evalPure_equal_bool hu]
        rfl
      · cases h
    | _ => simp [binK] at h
  | agg a =>
    cases q with
    | agg b =>
      simp only [binK] at h
      have keyB : ∀ (us vs : List Value) (c : Bool), D.toVs a = some us → D.toVs b = some vs → evalPure Q (do eqGuard op t x y (.agg ⟨us⟩) (.agg ⟨vs⟩); binOp op t (.agg ⟨us⟩) (.agg ⟨vs⟩)) = some (.bool c) → binP Q s op t x y (.d (.agg a)) (.d (.agg b)) = some (.d (.bool c)) := by
        intro us vs c h1 h2 hv
        simp only [binP, P.toV, D.toV, h1, h2, pureV, hv, D.ofV, D.ofVc]
      split at h
      · split at h
        · rename_i us vs c h1 h2 h3 h4
          simp only [Option.some.injEq] at h; subst h
          refine KW.ret (keyB us vs _ h1 h2 ?_)
          have e : evalPure Q (binOp .eql t (.agg ⟨us⟩) (.agg ⟨vs⟩)) = evalPure Q (do pure (.bool (← Op.equalIn 10000 t (.agg ⟨us⟩) (.agg ⟨vs⟩)))) := rfl
          rw [evalPure_bind, evalPure_guard h3 (.inl rfl), Option.bind_some, e, evalPure_bind, evalPure_eqD 20 10000 t _ _ _ _ _ (by omega) h4 (by simp [D.toV, h1]) (by simp [D.toV, h2])]
          rfl
        · cases h
      · split at h
        · rename_i us vs c h1 h2 h3 h4
          simp only [Option.some.injEq] at h; subst h
          refine KW.ret (keyB us vs _ h1 h2 ?_)
          have e : evalPure Q (binOp .neq t (.agg ⟨us⟩) (.agg ⟨vs⟩)) = evalPure Q (do pure (.bool (!(← Op.equalIn 10000 t (.agg ⟨us⟩) (.agg ⟨vs⟩))))) := rfl
          rw [evalPure_bind, evalPure_guard h3 (.inr rfl), Option.bind_some, e, evalPure_bind, evalPure_eqD 20 10000 t _ _ _ _ _ (by omega) h4 (by simp [D.toV, h1]) (by simp [D.toV, h2])]
          rfl
        · cases h
      · cases h
    | _ => simp [binK] at h
  | _ => simp [binK] at h
end Pi

