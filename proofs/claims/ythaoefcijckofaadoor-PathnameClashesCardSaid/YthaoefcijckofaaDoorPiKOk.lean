/- The text PiKOk. -/
import Derived.Test.YthaoefcijckofaaDoorPiPv
import Derived.Laws.Strings
import Derived.IntWalk
/- What the led run answers, the run answers. Part one: operations that change nothing. -/
namespace Pi
open Go

def KW {α : Type} (m : K α) (p : α → Prop) : Prop := ∀ post, m post → ∃ a, p a ∧ post a

theorem KW.ret {α : Type} {a : α} {p : α → Prop} (h : p a) : KW (K.ret a) p := fun _ hm => ⟨a, h, hm⟩
theorem KW.fail {α : Type} {p : α → Prop} : KW (K.fail : K α) p := fun _ hm => hm.elim
theorem KW.obl {α : Type} {b : Bool} {a : α} {p : α → Prop} (h : b = true → p a) : KW (K.obl b a) p := fun _ hm => by
  unfold K.obl at hm
  cases b with
  | true => exact ⟨a, h rfl, hm⟩
  | false => exact hm.elim
theorem KW.dec {b : Bool} {p : Bool → Prop} (h : p b) : KW (K.dec b) p := fun _ hm => by
  unfold K.dec at hm
  cases b with
  | true => exact ⟨true, h, hm⟩
  | false => exact ⟨false, h, hm⟩
theorem KW.ofO {α : Type} {o : Option α} {p : α → Prop} (h : ∀ a, o = some a → p a) : KW (K.ofO o) p := fun _ hm => by
  unfold K.ofO at hm
  split at hm
  · exact ⟨_, h _ rfl, hm⟩
  · exact hm.elim
theorem KW.bind {α β : Type} {m : K α} {f : α → K β} {p : α → Prop} {q : β → Prop} (hm : KW m p) (hf : ∀ a, p a → KW (f a) q) : KW (K.bind m f) q := fun post h => by
  obtain ⟨a, ha, h2⟩ := hm _ h
  exact hf a ha post h2
theorem KW.mono {α : Type} {m : K α} {p q : α → Prop} (h : KW m p) (hpq : ∀ a, p a → q a) : KW m q := fun post hm => by
  obtain ⟨a, ha, h2⟩ := h post hm
  exact ⟨a, hpq a ha, h2⟩

/-! data written out -/
theorem isC_eta {Q : Program} {t : TypeId} {x y : D} (h : etaC Q t x = some y) (hb : isC Q t x = true) : x = y := by
  unfold etaC at h
  unfold isC at hb
  cases hu : Q.underlying t with
  | none => simp [hu] at h
  | some d =>
    rw [hu] at h hb
    cases d with
    | bool => cases x <;> simp at hb h; rw [← h]; rfl
    | int k => cases x <;> simp at hb h; subst hb; rw [← h]; rfl
    | string => cases x <;> simp at hb h; rw [← h]; rfl
    | slice e =>
      cases x <;> simp at hb h
      simp only [hb] at h
      split at h
      · rename_i k hk; simp at hk h; subst hk; rw [← h]; rfl
      · cases h
    | _ => simp at h

theorem isCs_eta {Q : Program} {x : D} : ∀ (ts : List TypeId) (j : Nat) (cs : List D), etaCs Q x j ts = some cs → isCs Q x j ts = true → cs = (List.range' j ts.length).map x.cAt
  | [], j, cs, h, _ => by simp [etaCs] at h; subst h; rfl
  | t :: ts, j, cs, h, hb => by
    simp only [etaCs] at h
    simp only [isCs, Bool.and_eq_true] at hb
    cases h1 : etaC Q t (x.cAt j) with
    | none => simp [h1] at h
    | some c =>
      cases h2 : etaCs Q x (j + 1) ts with
      | none => simp [h1, h2] at h
      | some ds =>
        simp [h1, h2] at h
        subst h
        rw [List.length_cons, List.range'_succ, List.map_cons, ← isCs_eta ts (j + 1) ds h2 hb.2, isC_eta h1 hb.1]

theorem etaD_ok (Q : Program) (t : TypeId) (x : D) : KW (etaD Q t x) (fun y => x = y) := by
  unfold etaD
  split
  · rename_i y hy
    refine KW.obl fun hb => ?_
    unfold isD at hb
    split at hy
    · rename_i hag
      rw [if_pos hag] at hb
      split at hy
      · rename_i cs hcs
        simp at hy
        subst hy
        simp only [Bool.and_eq_true] at hb
        have e := isCs_eta _ _ _ hcs hb.2
        cases x with
        | agg ds =>
          have hl := Nat.eq_of_beq_eq_true hb.1
          rw [e, ← hl]
          congr 1
          apply List.ext_getElem
          · simp
          · intro i h1 h2
            simp [D.cAt, D.cells, h1]
        | _ => simp at hb
      · cases hy
    · rename_i hag
      rw [if_neg hag] at hb
      exact isC_eta hy hb
  · exact KW.fail

theorem nth_some {es : List D} {i : Nat} (h : i < es.length) : es[i]? = some (D.nth es i) := by
  simp [D.nth, h]

/-! operators -/
theorem evalPure_bind {α β : Type} (Q : Program) : ∀ (m : Sem α) (f : α → Sem β), evalPure Q (m >>= f) = (evalPure Q m).bind fun a => evalPure Q (f a)
  | .pure _, _ => rfl
  | .program k, f => evalPure_bind Q (k Q) f
  | .mark _ k, f => evalPure_bind Q k f
  | .load .., _ | .store .., _ | .new .., _ | .shape .., _ | .freeze .., _ | .frozen .., _ | .getObj .., _ | .setObj .., _ | .choose .., _ | .sys .., _ | .halt _, _ => rfl

theorem evalPure_underlying {Q : Program} {t : TypeId} {d : TypeDesc} (h : Q.underlying t = some d) : evalPure Q (underlying t) = some d := by
  have : evalPure Q (underlying t) = evalPure Q (match Q.underlying t with | some d => (pure d : Sem TypeDesc) | none => stuck "no such type") := rfl
  rw [this, h]
  rfl

theorem evalPure_equal_bool {Q : Program} {t : TypeId} (h : Q.underlying t = some .bool) (a b : Bool) : evalPure Q (Op.equal t (.bool a) (.bool b)) = some (a == b) := by
  have e : Op.equal t (.bool a) (.bool b) = Op.equalIn (9999 + 1) t (.bool a) (.bool b) := rfl
  rw [e, Op.equalIn, evalPure_bind, evalPure_underlying h]
  rfl

theorem evalPure_sizeOf {Q : Program} {t : TypeId} {k : Nat} (h : sz Q t = some k) : evalPure Q (Go.sizeOf t) = some k := by
  obtain ⟨i, d, hi, _, rfl⟩ := sz_spec h
  have e : evalPure Q (typeInfo t) = some i := by
    have : evalPure Q (typeInfo t) = evalPure Q (match Q.info? t with | some i => (pure i : Sem TypeInfo) | none => stuck "no such type") := rfl
    rw [this, hi]
    rfl
  unfold Go.sizeOf
  rw [evalPure_bind, e]
  rfl
theorem evalPure_isAgg {Q : Program} {t : TypeId} {d : TypeDesc} (h : Q.underlying t = some d) : evalPure Q (Go.isAgg t) = some (isAg Q t) := by
  unfold Go.isAgg isAg
  rw [evalPure_bind, evalPure_underlying h, h]
  cases d <;> rfl

theorem toVs_len : ∀ {xs : List D} {vs : List Value}, D.toVs xs = some vs → vs.length = xs.length
  | [], vs, h => by simp [D.toVs] at h; subst h; rfl
  | x :: r, vs, h => by
    unfold D.toVs at h
    split at h
    · rename_i v us h1 h2
      simp at h; subst h
      simp [toVs_len h2]
    · cases h
theorem toVs_get : ∀ {xs : List D} {vs : List Value} {i : Nat} {x : D}, D.toVs xs = some vs → xs[i]? = some x → ∃ v, vs[i]? = some v ∧ x.toVc = some v
  | [], vs, i, x, h, hx => by simp at hx
  | y :: r, vs, i, x, h, hx => by
    unfold D.toVs at h
    split at h
    · rename_i v us h1 h2
      simp at h; subst h
      cases i with
      | zero => simp at hx; subst hx; exact ⟨v, rfl, h1⟩
      | succ i => simpa using toVs_get h2 (by simpa using hx)
    · cases h
theorem toVs_drop : ∀ {xs : List D} {vs : List Value} (a : Nat), D.toVs xs = some vs → D.toVs (xs.drop a) = some (vs.drop a)
  | xs, vs, 0, h => h
  | [], vs, a + 1, h => by simp [D.toVs] at h; subst h; rfl
  | y :: r, vs, a + 1, h => by
    unfold D.toVs at h
    split at h
    · rename_i v us h1 h2
      simp at h; subst h
      exact toVs_drop a h2
    · cases h
theorem toVs_take : ∀ {xs : List D} {vs : List Value} (a : Nat), D.toVs xs = some vs → D.toVs (xs.take a) = some (vs.take a)
  | xs, vs, 0, h => rfl
  | [], vs, a + 1, h => by simp [D.toVs] at h; subst h; rfl
  | y :: r, vs, a + 1, h => by
    unfold D.toVs at h
    split at h
    · rename_i v us h1 h2
      simp at h; subst h
      simp only [List.take_succ_cons]
      unfold D.toVs
      rw [h1, toVs_take a h2]
    · cases h

theorem evalPure_part {Q : Program} {t : TypeId} {xs : List D} {vs : List Value} {off : Nat} {x : D} (hv : D.toVs xs = some vs) (h : partD Q t xs off = some x) :
    ∃ v, evalPure Q (Go.part t ⟨vs⟩ off) = some v ∧ x.toV = some v := by
  unfold partD at h
  split at h
  · cases h
  · rename_i k hk
    obtain ⟨_, d, _, hd, _⟩ := sz_spec hk
    unfold Go.part
    rw [evalPure_bind, evalPure_isAgg hd]
    cases hag : isAg Q t with
    | true =>
      rw [hag] at h
      simp only [if_true] at h
      split at h
      · rename_i hle
        simp only [Option.some.injEq] at h
        subst h
        refine ⟨.agg ⟨(vs.drop off).take k⟩, ?_, by simp [D.toV, toVs_take k (toVs_drop off hv)]⟩
        simp only [Option.bind_some, if_true]
        rw [evalPure_bind, evalPure_sizeOf hk]
        simp only [Option.bind_some]
        show some (Value.agg ((⟨vs⟩ : Array Value).extract off (off + k))) = _
        congr 2
        rw [← Array.toList_inj]
        simp
      · cases h
    | false =>
      rw [hag] at h
      simp only [Bool.false_eq_true, if_false] at h
      obtain ⟨v, h1, h2⟩ := toVs_get hv h
      refine ⟨v, ?_, ?_⟩
      · simp only [Option.bind_some, Bool.false_eq_true, if_false]
        have : (⟨vs⟩ : Array Value)[off]? = some v := by simpa using h1
        rw [this]
        rfl
      · cases x <;> first | exact h2 | simp [D.toVc] at h2

theorem evalPure_pure {α : Type} (Q : Program) (a : α) : evalPure Q (pure a : Sem α) = some a := rfl
theorem evalPure_program (Q : Program) : evalPure Q program = some Q := rfl

theorem evalPure_eqFs {Q : Program} {go : TypeId → D → D → Option Bool} {ev : TypeId → Value → Value → Sem Bool} (hgo : ∀ t x y c u v, go t x y = some c → x.toV = some u → y.toV = some v → evalPure Q (ev t u v) = some c)
    {xs ys : List D} {us vs : List Value} (hx : D.toVs xs = some us) (hy : D.toVs ys = some vs) : ∀ (fs : List Field) (c : Bool), eqFs Q go fs xs ys = some c →
    evalPure Q (do
      for f in fs do
        if f.name ≠ "_" then
          if !(← ev f.type (← Go.part f.type ⟨us⟩ f.offset) (← Go.part f.type ⟨vs⟩ f.offset)) then return false
      pure true) = some c
  | [], c, h => by
    simp only [eqFs, Option.some.injEq] at h
    subst h
    rfl
  | f :: r, c, h => by
    have ih := evalPure_eqFs hgo hx hy r
    unfold eqFs at h
    simp only [List.forIn_cons, bind_assoc] at ih ⊢
    split at h
    · rename_i hn
      have hn : ¬ f.name ≠ "_" := by simpa using hn
      rw [if_neg hn]
      simp only [pure_bind]
      exact ih c h
    · rename_i hn
      have hn : f.name ≠ "_" := by simpa using hn
      rw [if_pos hn]
      split at h
      · rename_i x y hpx hpy
        split at h
        · rename_i a b ha hb
          simp only [Option.some.injEq] at h
          subst h
          obtain ⟨u, e1, h1⟩ := evalPure_part hx hpx
          obtain ⟨v, e2, h2⟩ := evalPure_part hy hpy
          have e3 := hgo _ _ _ _ _ _ ha h1 h2
          simp only [bind_assoc]
          rw [evalPure_bind, e1, Option.bind_some, evalPure_bind, e2, Option.bind_some, evalPure_bind, e3, Option.bind_some]
          cases a with
          | false => rfl
          | true =>
            simp only [Bool.not_true, Bool.false_eq_true, if_false, pure_bind, Bool.true_and]
            exact ih b hb
        · cases h
      · cases h

theorem evalPure_eqD {Q : Program} : ∀ (n d : Nat) (t : TypeId) (x y : D) (c : Bool) (u v : Value), n ≤ d → eqD Q n t x y = some c → x.toV = some u → y.toV = some v → evalPure Q (Op.equalIn d t u v) = some c
  | 0, _, _, _, _, _, _, _, _, h, _, _ => by simp [eqD] at h
  | n + 1, 0, _, _, _, _, _, _, hd, _, _, _ => by omega
  | n + 1, d + 1, t, x, y, c, u, v, hd, h, hu, hv => by
    unfold eqD at h
    split at h
    · rename_i hq
      split at h
      · rename_i a b
        simp [D.toV, D.toVc] at hu hv
        subst hu hv
        rw [Op.equalIn, evalPure_bind, evalPure_underlying hq]
        exact h
      · cases h
    · rename_i k0 hq
      split at h
      · rename_i k a k' b
        simp [D.toV, D.toVc] at hu hv
        subst hu hv
        split at h
        · rename_i hk
          have hk : k = k' := by simpa using hk
          subst hk
          rw [Op.equalIn, evalPure_bind, evalPure_underlying hq]
          simp only [Option.bind_some, if_true]
          exact h
        · cases h
      · cases h
    · rename_i hq
      split at h
      · rename_i a b
        simp [D.toV, D.toVc] at hu hv
        subst hu hv
        rw [Op.equalIn, evalPure_bind, evalPure_underlying hq]
        simp only [Option.some.injEq] at h
        subst h
        show some _ = some _
        congr 1
        rw [Bool.eq_iff_iff]
        show ((⟨a⟩ : Array UInt8) == ⟨b⟩) = true ↔ (a == b) = true
        simp
      · cases h
    · rename_i fs hq
      split at h
      · rename_i xs ys
        split at h
        · cases h
        · rename_i hst
          simp only [D.toV] at hu hv
          split at hu
          · rename_i us hus
            simp only [Option.some.injEq] at hu
            subst hu
            split at hv
            · rename_i vs hvs
              simp only [Option.some.injEq] at hv
              subst hv
              have key := evalPure_eqFs (ev := Op.equalIn d) (fun t x y c u v h1 h2 h3 => evalPure_eqD n d t x y c u v (by omega) h1 h2 h3) hus hvs fs.toList c h
              rw [Op.equalIn, evalPure_bind, evalPure_underlying hq]
              simp only [Option.bind_some]
              rw [evalPure_bind, evalPure_program, Option.bind_some, hst]
              simp only [Bool.false_eq_true, if_false]
              rw [← Array.forIn_toList]
              exact key
            · cases hv
          · cases hu
      · cases h
    · cases h

theorem evalPure_guard {Q : Program} {op : BinOp} {t : TypeId} {x y : Operand} {us vs : Array Value} (h : Q.eqGuardType Q.depth t = false) (ho : op = .eql ∨ op = .neq) : evalPure Q (eqGuard op t x y (.agg us) (.agg vs)) = some () := by
  rcases ho with rfl | rfl
  · show evalPure Q (do if !(← program).eqGuardType (← program).depth t then return
                        if ← Op.eqGuardIn Op.maxDepth t (.agg us) (.agg vs) then unsupported (.noEntry "binop/eql: two nil values of an interface type with methods, in a part of a struct or an array")) = _
    rw [evalPure_bind, evalPure_program, Option.bind_some, evalPure_bind, evalPure_program, Option.bind_some, h]
    rfl
  · show evalPure Q (do if !(← program).eqGuardType (← program).depth t then return
                        if ← Op.eqGuardIn Op.maxDepth t (.agg us) (.agg vs) then unsupported (.noEntry "binop/eql: two nil values of an interface type with methods, in a part of a struct or an array")) = _
    rw [evalPure_bind, evalPure_program, Option.bind_some, evalPure_bind, evalPure_program, Option.bind_some, h]
    rfl
theorem arith_ok (k : IntKind) (n : Int) : KW (arith k n) (fun z => z = .int k (k.wrap n)) := by
  unfold arith
  split
  · refine KW.obl fun hb => ?_
    simp only [decide_eq_true_eq] at hb
    rw [IntWalk.i64_in n hb]
  · exact KW.ret rfl

theorem binK_ok {Q : Program} {s : S} {op : BinOp} {t : TypeId} {x y : Operand} {p q : D} {m : K D} (h : binK Q op t p q = some m) : KW m (fun z => binP Q s op t x y (.d p) (.d q) = some (.d z)) := by
  cases p with
  | int k a =>
    cases q with
    | int k' b =>
      simp only [binK] at h
      have keyI : ∀ (n : Int), evalPure Q (do eqGuard op t x y (.int k a) (.int k' b); binOp op t (.int k a) (.int k' b)) = some (.int k n) → binP Q s op t x y (.d (.int k a)) (.d (.int k' b)) = some (.d (.int k n)) := by
        intro n hv
        simp only [binP, P.toV, D.toV, D.toVc, pureV, hv, D.ofV, D.ofVc]
      have keyB : ∀ (c : Bool), evalPure Q (do eqGuard op t x y (.int k a) (.int k' b); binOp op t (.int k a) (.int k' b)) = some (.bool c) → binP Q s op t x y (.d (.int k a)) (.d (.int k' b)) = some (.d (.bool c)) := by
        intro n hv
        simp only [binP, P.toV, D.toV, D.toVc, pureV, hv, D.ofV, D.ofVc]
      split at h
      · simp only [Option.some.injEq] at h; subst h
        refine KW.bind (p := fun _ => ¬ b < 0) (KW.obl fun hb => by simpa using hb) fun _ hb => (arith_ok _ _).mono fun z hz => ?_
        subst hz
        refine keyI _ ?_
        show evalPure Q (if b < 0 then _ else _) = _
        rw [if_neg hb]; rfl
      · simp only [Option.some.injEq] at h; subst h
        refine KW.obl fun hb => keyI _ ?_
        have hb : ¬ b < 0 := by simpa using hb
        show evalPure Q (if b < 0 then _ else _) = _
        rw [if_neg hb]; rfl
      · split at h
        · rename_i hk
          have hk : k = k' := by simpa using hk
          subst hk
          split at h <;> simp only [Option.some.injEq, reduceCtorEq] at h <;> subst h
          · exact (arith_ok _ _).mono fun z hz => by subst hz; exact keyI _ (by cases k <;> rfl)
          · exact (arith_ok _ _).mono fun z hz => by subst hz; exact keyI _ (by cases k <;> rfl)
          · exact (arith_ok _ _).mono fun z hz => by subst hz; exact keyI _ (by cases k <;> rfl)
          · refine KW.bind (p := fun _ => ¬ b = 0) (KW.obl fun hb => by simpa using hb) fun _ hb => (arith_ok _ _).mono fun z hz => ?_
            subst hz
            refine keyI _ ?_
            have : evalPure Q (Op.intDiv .quo k a b) = some (.int k (k.wrap (a.tdiv b))) := by unfold Op.intDiv; rw [if_neg hb]; rfl
            rw [← this]
            cases k <;> rfl
          · refine KW.obl fun hb => keyI _ ?_
            have hb : ¬ b = 0 := by simpa using hb
            have : evalPure Q (Op.intDiv .rem k a b) = some (.int k (a.tmod b)) := by unfold Op.intDiv; rw [if_neg hb]; rfl
            rw [← this]
            cases k <;> rfl
          · exact KW.ret (keyI _ (by cases k <;> rfl))
          · exact KW.ret (keyI _ (by cases k <;> rfl))
          · exact KW.ret (keyI _ (by cases k <;> rfl))
          · exact KW.ret (keyI _ (by cases k <;> rfl))
          all_goals exact KW.ret (keyB _ (by cases k <;> rfl))
        · cases h
    | _ => simp [binK] at h
  | str a =>
    cases q with
    | str b =>
      have keyB : ∀ (c : Bool), evalPure Q (do eqGuard op t x y (.string ⟨⟨a⟩⟩) (.string ⟨⟨b⟩⟩); binOp op t (.string ⟨⟨a⟩⟩) (.string ⟨⟨b⟩⟩)) = some (.bool c) → binP Q s op t x y (.d (.str a)) (.d (.str b)) = some (.d (.bool c)) := by
        intro c hv
        simp only [binP, P.toV, D.toV, D.toVc, pureV, hv, D.ofV, D.ofVc]
      have e1 : (ByteArray.mk ⟨a⟩).toList = a := by rw [ByteArray.toList_eq]
      have e2 : (ByteArray.mk ⟨b⟩).toList = b := by rw [ByteArray.toList_eq]
      simp only [binK] at h
      split at h <;> simp only [Option.some.injEq, reduceCtorEq] at h <;> subst h
      · refine KW.obl fun hb => ?_
        have hb : a.length + b.length ≤ 9223372036854775807 := by simpa using hb
        have hv : evalPure Q (do eqGuard .add t x y (.string ⟨⟨a⟩⟩) (.string ⟨⟨b⟩⟩); binOp .add t (.string ⟨⟨a⟩⟩) (.string ⟨⟨b⟩⟩)) = some (.string (⟨⟨a⟩⟩ ++ ⟨⟨b⟩⟩)) := by
          show evalPure Q (if ((a.length + b.length : Nat) : Int) > IntKind.i64.max then _ else _) = _
          rw [if_neg (by have : IntKind.i64.max = 9223372036854775807 := by decide
                         omega)]
          rfl
        simp only [binP, P.toV, D.toV, D.toVc, pureV, hv, D.ofV, D.ofVc]
        simp
      · refine KW.ret (keyB _ ?_)
        have : evalPure Q (do eqGuard .eql t x y (.string ⟨⟨a⟩⟩) (.string ⟨⟨b⟩⟩); binOp .eql t (.string ⟨⟨a⟩⟩) (.string ⟨⟨b⟩⟩)) = some (.bool ((ByteArray.mk ⟨a⟩).toList == (ByteArray.mk ⟨b⟩).toList)) := rfl
        rw [this, e1, e2]
      · refine KW.ret (keyB _ ?_)
        have : evalPure Q (do eqGuard .neq t x y (.string ⟨⟨a⟩⟩) (.string ⟨⟨b⟩⟩); binOp .neq t (.string ⟨⟨a⟩⟩) (.string ⟨⟨b⟩⟩)) = some (.bool (!((ByteArray.mk ⟨a⟩).toList == (ByteArray.mk ⟨b⟩).toList))) := rfl
        rw [this, e1, e2]
      · refine KW.ret (keyB _ ?_)
        have : evalPure Q (do eqGuard .lss t x y (.string ⟨⟨a⟩⟩) (.string ⟨⟨b⟩⟩); binOp .lss t (.string ⟨⟨a⟩⟩) (.string ⟨⟨b⟩⟩)) = some (.bool (Op.bytesLess (ByteArray.mk ⟨a⟩).toList (ByteArray.mk ⟨b⟩).toList)) := rfl
        rw [this, e1, e2]
      · refine KW.ret (keyB _ ?_)
        have : evalPure Q (do eqGuard .leq t x y (.string ⟨⟨a⟩⟩) (.string ⟨⟨b⟩⟩); binOp .leq t (.string ⟨⟨a⟩⟩) (.string ⟨⟨b⟩⟩)) = some (.bool (Op.bytesLess (ByteArray.mk ⟨a⟩).toList (ByteArray.mk ⟨b⟩).toList || (ByteArray.mk ⟨a⟩).toList == (ByteArray.mk ⟨b⟩).toList)) := rfl
        rw [this, e1, e2]
      · refine KW.ret (keyB _ ?_)
        have : evalPure Q (do eqGuard .gtr t x y (.string ⟨⟨a⟩⟩) (.string ⟨⟨b⟩⟩); binOp .gtr t (.string ⟨⟨a⟩⟩) (.string ⟨⟨b⟩⟩)) = some (.bool (!(Op.bytesLess (ByteArray.mk ⟨a⟩).toList (ByteArray.mk ⟨b⟩).toList || (ByteArray.mk ⟨a⟩).toList == (ByteArray.mk ⟨b⟩).toList))) := rfl
        rw [this, e1, e2]
      · refine KW.ret (keyB _ ?_)
        have : evalPure Q (do eqGuard .geq t x y (.string ⟨⟨a⟩⟩) (.string ⟨⟨b⟩⟩); binOp .geq t (.string ⟨⟨a⟩⟩) (.string ⟨⟨b⟩⟩)) = some (.bool (!(Op.bytesLess (ByteArray.mk ⟨a⟩).toList (ByteArray.mk ⟨b⟩).toList))) := rfl
        rw [this, e1, e2]
    | _ => simp [binK] at h
  | bool a =>
    cases q with
    | bool b =>
      simp only [binK] at h
      have keyB : ∀ (c : Bool), evalPure Q (do eqGuard op t x y (.bool a) (.bool b); binOp op t (.bool a) (.bool b)) = some (.bool c) → binP Q s op t x y (.d (.bool a)) (.d (.bool b)) = some (.d (.bool c)) := by
        intro c hv
        simp only [binP, P.toV, D.toV, D.toVc, pureV, hv, D.ofV, D.ofVc]
      split at h
      · rename_i hu
        simp only [Option.some.injEq] at h; subst h
        refine KW.ret (keyB _ ?_)
        have : evalPure Q (do eqGuard .eql t x y (.bool a) (.bool b); binOp .eql t (.bool a) (.bool b)) = evalPure Q (do pure (.bool (← Op.equal t (.bool a) (.bool b)))) := rfl
        rw [this, evalPure_bind, evalPure_equal_bool hu]
        rfl
      · rename_i hu
        simp only [Option.some.injEq] at h; subst h
        refine KW.ret (keyB _ ?_)
        have : evalPure Q (do eqGuard .neq t x y (.bool a) (.bool b); binOp .neq t (.bool a) (.bool b)) = evalPure Q (do pure (.bool (!(← Op.equal t (.bool a) (.bool b))))) := rfl
        rw [this, evalPure_bind, evalPure_equal_bool hu]
        rfl
      · cases h
    | _ => simp [binK] at h
  | agg a =>
    cases q with
    | agg b =>
      simp only [binK] at h
      have keyB : ∀ (us vs : List Value) (c : Bool), D.toVs a = some us → D.toVs b = some vs → evalPure Q (do eqGuard op t x y (.agg ⟨us⟩) (.agg ⟨vs⟩); binOp op t (.agg ⟨us⟩) (.agg ⟨vs⟩)) = some (.bool c) → binP Q s op t x y (.d (.agg a)) (.d (.agg b)) = some (.d (.bool c)) := by
        intro us vs c h1 h2 hv
        simp only [binP, P.toV, D.toV, h1, h2, pureV, hv, D.ofV, D.ofVc]
      split at h
      · split at h
        · rename_i us vs c h1 h2 h3 h4
          simp only [Option.some.injEq] at h; subst h
          refine KW.ret (keyB us vs _ h1 h2 ?_)
          have e : evalPure Q (binOp .eql t (.agg ⟨us⟩) (.agg ⟨vs⟩)) = evalPure Q (do pure (.bool (← Op.equalIn 10000 t (.agg ⟨us⟩) (.agg ⟨vs⟩)))) := rfl
          rw [evalPure_bind, evalPure_guard h3 (.inl rfl), Option.bind_some, e, evalPure_bind, evalPure_eqD 20 10000 t _ _ _ _ _ (by omega) h4 (by simp [D.toV, h1]) (by simp [D.toV, h2])]
          rfl
        · cases h
      · split at h
        · rename_i us vs c h1 h2 h3 h4
          simp only [Option.some.injEq] at h; subst h
          refine KW.ret (keyB us vs _ h1 h2 ?_)
          have e : evalPure Q (binOp .neq t (.agg ⟨us⟩) (.agg ⟨vs⟩)) = evalPure Q (do pure (.bool (!(← Op.equalIn 10000 t (.agg ⟨us⟩) (.agg ⟨vs⟩))))) := rfl
          rw [evalPure_bind, evalPure_guard h3 (.inr rfl), Option.bind_some, e, evalPure_bind, evalPure_eqD 20 10000 t _ _ _ _ _ (by omega) h4 (by simp [D.toV, h1]) (by simp [D.toV, h2])]
          rfl
        · cases h
      · cases h
    | _ => simp [binK] at h
  | _ => simp [binK] at h
end Pi

