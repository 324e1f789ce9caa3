/- The text PiEq. -/
import Derived.Test.YtccffeofkhkbcaaGreatDoorPiPure
import Derived.Laws.Strings
/- Equality of data, as the machine takes it. -/
namespace Pi
open Go

/-! operators -/
theorem evalPure_bind {α β : Type} (Q : Program) : ∀ (m : Sem α) (f : α → Sem β), evalPure Q (m >>= f) = (evalPure Q m).bind fun a => evalPure Q (f a)
  | .pure _, _ => rfl
  | .program k, f => evalPure_bind Q (k Q) f
  | .mark _ k, f => evalPure_bind Q k f
  | .load .., _ | .store .., _ | .new .., _ | .shape .., _ | .freeze .., _ | .frozen .., _ | .getObj .., _ | .setObj .., _ | .choose .., _ | .sys .., _ | .halt _, _ => rfl

theorem evalPure_underlying {Q : Program} {t : TypeId} {d : TypeDesc} (h : Q.underlying t = some d) : evalPure Q (underlying t) = some d := by
  have : evalPure Q (underlying t) = evalPure Q (match Q.underlying t with | some d => (pure d : Sem TypeDesc) | none => stuck "no such type") := rfl
  rw [this, h]
  rfl

theorem evalPure_equal_bool {Q : Program} {t : TypeId} (h : Q.underlying t = some .bool) (a b : Bool) : evalPure Q (Op.equal t (.bool a) (.bool b)) = some (a == b) := by
  have e : Op.equal t (.bool a) (.bool b) = Op.equalIn (9999 + 1) t (.bool a) (.bool b) := rfl
  rw [e, Op.equalIn, evalPure_bind, evalPure_underlying h]
  rfl

theorem evalPure_sizeOf {Q : Program} {t : TypeId} {k : Nat} (h : sz Q t = some k) : evalPure Q (Go.sizeOf t) = some k := by
  obtain ⟨i, d, hi, _, rfl⟩ := sz_spec h
  have e : evalPure Q (typeInfo t) = some i := by
    have : evalPure Q (typeInfo t) = evalPure Q (match Q.info? t with | some i => (pure i : Sem TypeInfo) | none => stuck "no such type") := rfl
    rw [this, hi]
    rfl
  unfold Go.sizeOf
  rw [evalPure_bind, e]
  rfl
theorem evalPure_isAgg {Q : Program} {t : TypeId} {d : TypeDesc} (h : Q.underlying t = some d) : evalPure Q (Go.isAgg t) = some (isAg Q t) := by
  unfold Go.isAgg isAg
  rw [evalPure_bind, evalPure_underlying h, h]
  cases d <;> rfl

theorem toVs_len : ∀ {xs : List D} {vs : List Value}, D.toVs xs = some vs → vs.length = xs.length
  | [], vs, h => by simp [D.toVs] at h; subst h; rfl
  | x :: r, vs, h => by
    unfold D.toVs at h
    split at h
    · rename_i v us h1 h2
      simp at h; subst h
      simp [toVs_len h2]
    · cases h
theorem toVs_get : ∀ {xs : List D} {vs : List Value} {i : Nat} {x : D}, D.toVs xs = some vs → xs[i]? = some x → ∃ v, vs[i]? = some v ∧ x.toVc = some v
  | [], vs, i, x, h, hx => by simp at hx
  | y :: r, vs, i, x, h, hx => by
    unfold D.toVs at h
    split at h
    · rename_i v us h1 h2
      simp at h; subst h
      cases i with
      | zero => simp at hx; subst hx; exact ⟨v, rfl, h1⟩
      | succ i => simpa using toVs_get h2 (by simpa using hx)
    · cases h
theorem toVs_drop : ∀ {xs : List D} {vs : List Value} (a : Nat), D.toVs xs = some vs → D.toVs (xs.drop a) = some (vs.drop a)
  | xs, vs, 0, h => h
  | [], vs, a + 1, h => by simp [D.toVs] at h; subst h; rfl
  | y :: r, vs, a + 1, h => by
    unfold D.toVs at h
    split at h
    · rename_i v us h1 h2
      simp at h; subst h
      exact toVs_drop a h2
    · cases h
theorem toVs_take : ∀ {xs : List D} {vs : List Value} (a : Nat), D.toVs xs = some vs → D.toVs (xs.take a) = some (vs.take a)
  | xs, vs, 0, h => rfl
  | [], vs, a + 1, h => by simp [D.toVs] at h; subst h; rfl
  | y :: r, vs, a + 1, h => by
    unfold D.toVs at h
    split at h
    · rename_i v us h1 h2
      simp at h; subst h
      simp only [List.take_succ_cons]
      unfold D.toVs
      rw [h1, toVs_take a h2]
    · cases h

theorem evalPure_part {Q : Program} {t : TypeId} {xs : List D} {vs : List Value} {off : Nat} {x : D} (hv : D.toVs xs = some vs) (h : partD Q t xs off = some x) :
    ∃ v, evalPure Q (Go.part t ⟨vs⟩ off) = some v ∧ x.toV = some v := by
  unfold partD at h
  split at h
  · cases h
  · rename_i k hk
    obtain ⟨_, d, _, hd, _⟩ := sz_spec hk
    unfold Go.part
    rw [evalPure_bind, evalPure_isAgg hd]
    cases hag : isAg Q t with
    | true =>
      rw [hag] at h
      simp only [if_true] at h
      split at h
      · rename_i hle
        simp only [Option.some.injEq] at h
        subst h
        refine ⟨.agg ⟨(vs.drop off).take k⟩, ?_, by simp [D.toV, toVs_take k (toVs_drop off hv)]⟩
        simp only [Option.bind_some, if_true]
        rw [evalPure_bind, evalPure_sizeOf hk]
        simp only [Option.bind_some]
        show some (Value.agg ((⟨vs⟩ : Array Value).extract off (off + k))) = _
        congr 2
        rw [← Array.toList_inj]
        simp
      · cases h
    | false =>
      rw [hag] at h
      simp only [Bool.false_eq_true, if_false] at h
      obtain ⟨v, h1, h2⟩ := toVs_get hv h
      refine ⟨v, ?_, ?_⟩
      · simp only [Option.bind_some, Bool.false_eq_true, if_false]
        have : (⟨vs⟩ : Array Value)[off]? = some v := by simpa using h1
        rw [this]
        rfl
      · cases x <;> first | exact h2 | simp [D.toVc] at h2

theorem evalPure_program (Q : Program) : evalPure Q program = some Q := rfl

theorem evalPure_eqFs {Q : Program} {go : TypeId → D → D → Option Bool} {ev : TypeId → Value → Value → Sem Bool} (hgo : ∀ t x y c u v, go t x y = some c → x.toV = some u → y.toV = some v → evalPure Q (ev t u v) = some c)
    {xs ys : List D} {us vs : List Value} (hx : D.toVs xs = some us) (hy : D.toVs ys = some vs) : ∀ (fs : List Field) (c : Bool), eqFs Q go fs xs ys = some c →
    evalPure Q (do
      for f in fs do
        if f.name ≠ "_" then
          if !(← ev f.type (← Go.part f.type ⟨us⟩ f.offset) (← Go.part f.type ⟨vs⟩ f.offset)) then return false
      pure true) = some c
  | [], c, h => by
    simp only [eqFs, Option.some.injEq] at h
    subst h
    rfl
  | f :: r, c, h => by
    have ih := evalPure_eqFs hgo hx hy r
    unfold eqFs at h
    simp only [List.forIn_cons, bind_assoc] at ih ⊢
    split at h
    · rename_i hn
      have hn : ¬ f.name ≠ "_" := by simpa using hn
      rw [if_neg hn]
      simp only [pure_bind]
      exact ih c h
    · rename_i hn
      have hn : f.name ≠ "_" := by simpa using hn
      rw [if_pos hn]
      split at h
      · rename_i x y hpx hpy
        split at h
        · rename_i a b ha hb
          simp only [Option.some.injEq] at h
          subst h
          obtain ⟨u, e1, h1⟩ := evalPure_part hx hpx
          obtain ⟨v, e2, h2⟩ := evalPure_part hy hpy
          have e3 := hgo _ _ _ _ _ _ ha h1 h2
          simp only [bind_assoc]
          rw [evalPure_bind, e1, Option.bind_some, evalPure_bind, e2, Option.bind_some, evalPure_bind, e3, Option.bind_some]
          cases a with
          | false => rfl
          | true =>
            simp only [Bool.not_true, Bool.false_eq_true, if_false, pure_bind, Bool.true_and]
            exact ih b hb
        · cases h
      · cases h

theorem evalPure_eqD {Q : Program} : ∀ (n d : Nat) (t : TypeId) (x y : D) (c : Bool) (u v : Value), n ≤ d → eqD Q n t x y = some c → x.toV = some u → y.toV = some v → evalPure Q (Op.equalIn d t u v) = some c
  | 0, _, _, _, _, _, _, _, _, h, _, _ => by simp [eqD] at h
  | n + 1, 0, _, _, _, _, _, _, hd, _, _, _ => by omega
  | n + 1, d + 1, t, x, y, c, u, v, hd, h, hu, hv => by
    unfold eqD at h
    split at h
    · rename_i hq
      split at h
      · rename_i a b
        simp [D.toV, D.toVc] at hu hv
        subst hu hv
        rw [Op.equalIn, evalPure_bind, evalPure_underlying hq]
        exact h
      · cases h
    · rename_i k0 hq
      split at h
      · rename_i k a k' b
        simp [D.toV, D.toVc] at hu hv
        subst hu hv
        split at h
        · rename_i hk
          have hk : k = k' := by simpa using hk
          subst hk
          rw [Op.equalIn, evalPure_bind, evalPure_underlying hq]
          simp only [Option.bind_some, if_true]
          exact h
        · cases h
      · cases h
    · rename_i hq
      split at h
      · rename_i a b
        simp [D.toV, D.toVc] at hu hv
        subst hu hv
        rw [Op.equalIn, evalPure_bind, evalPure_underlying hq]
        simp only [Option.some.injEq] at h
        subst h
        show some _ = some _
        congr 1
        rw [Bool.eq_iff_iff]
        show ((⟨a⟩ : Array UInt8) == ⟨b⟩) = true ↔ (a == b) = true
        simp
      · cases h
    · rename_i fs hq
      split at h
      · rename_i xs ys
        split at h
        · cases h
        · rename_i hst
          simp only [D.toV] at hu hv
          split at hu
          · rename_i us hus
            simp only [Option.some.injEq] at hu
            subst hu
            split at hv
            · rename_i vs hvs
              simp only [Option.some.injEq] at hv
              subst hv
              have key := evalPure_eqFs (ev := Op.equalIn d) (fun t x y c u v h1 h2 h3 => evalPure_eqD n d t x y c u v (by omega) h1 h2 h3) hus hvs fs.toList c h
              rw [Op.equalIn, evalPure_bind, evalPure_underlying hq]
              simp only [Option.bind_some]
              rw [evalPure_bind, evalPure_program, Option.bind_some, hst]
              simp only [Bool.false_eq_true, if_false]
              rw [← Array.forIn_toList]
              exact key
            · cases hv
          · cases hu
      · cases h
    · cases h

theorem evalPure_guard {Q : Program} {op : BinOp} {t : TypeId} {x y : Operand} {us vs : Array Value} (h : Q.eqGuardType Q.depth t = false) (ho : op = .eql ∨ op = .neq) : evalPure Q (eqGuard op t x y (.agg us) (.agg vs)) = some () := by
  rcases ho with rfl | rfl
  · show evalPure Q (do if !(← program).eqGuardType (← program).depth t then return
                        if ← Op.eqGuardIn Op.maxDepth t (.agg us) (.agg vs) then unsupported (.noEntry "binop/eql: two nil values of an interface type with methods, in a part of a struct or an array")) = _
    rw [evalPure_bind, evalPure_program, Option.bind_some, evalPure_bind, evalPure_program, Option.bind_some, h]
    rfl
  · show evalPure Q (do if !(← program).eqGuardType (← program).depth t then return
                        if ← Op.eqGuardIn Op.maxDepth t (.agg us) (.agg vs) then unsupported (.noEntry "binop/eql: two nil values of an interface type with methods, in a part of a struct or an array")) = _
    rw [evalPure_bind, evalPure_program, Option.bind_some, evalPure_bind, evalPure_program, Option.bind_some, h]
    rfl
end Pi

