/- The text PiMap. -/
import Derived.Test.YtccffeofkhkbcaaGreatDoorPiEq
import Derived.MapKept
/- Maps: keys, looking up, changing an entry. -/
namespace Pi
open Go

mutual
theorem D.eqB_iff : ∀ (x y : D), D.eqB x y = true ↔ x = y
  | .bool a, y => by cases y <;> simp [D.eqB]
  | .int k a, y => by cases y <;> simp [D.eqB]
  | .str a, y => by cases y <;> simp [D.eqB]
  | .agg a, y => by cases y <;> simp [D.eqB, D.eqBs_iff a]
  | .sl k a, y => by cases y <;> simp [D.eqB, D.eqBs_iff a]
  | .nils, y => by cases y <;> simp [D.eqB]
  | .nilp, y => by cases y <;> simp [D.eqB]
  | .nilm, y => by cases y <;> simp [D.eqB]
  | .nilf, y => by cases y <;> simp [D.eqB]
  | .nili, y => by cases y <;> simp [D.eqB]
theorem D.eqBs_iff : ∀ (x y : List D), D.eqBs x y = true ↔ x = y
  | [], y => by cases y <;> simp [D.eqBs]
  | x :: xs, y => by
    cases y with
    | nil => simp [D.eqBs]
    | cons y ys => simp [D.eqBs, D.eqB_iff x, D.eqBs_iff xs]
end
theorem updD_same (k v : D) (get : D → Option D) : updD k v get k = some v := by
  unfold updD; rw [(D.eqB_iff k k).2 rfl]; rfl
theorem updD_ne {k k' : D} (v : D) (get : D → Option D) (h : k ≠ k') : updD k v get k' = get k' := by
  unfold updD
  cases hb : D.eqB k k' with
  | false => rfl
  | true => exact absurd ((D.eqB_iff k k').1 hb) h

theorem cellsOf_sz {Q : Program} {t : TypeId} {k : Nat} (h : sz Q t = some k) : Q.cellsOf t = k := by
  obtain ⟨i, d, hi, _, rfl⟩ := sz_spec h
  unfold Program.cellsOf
  rw [hi]
  rfl

/-- The part of cells says what stands there. -/
theorem partD_eq {Q : Program} {t : TypeId} {xs ys : List D} {off : Nat} {x y : D} (hsh : (isAg Q t || Nat.beq (Q.cellsOf t) 1) = true) (h1 : partD Q t xs off = some x) (h2 : partD Q t ys off = some y) :
    x = y ↔ (xs.drop off).take (Q.cellsOf t) = (ys.drop off).take (Q.cellsOf t) := by
  unfold partD at h1 h2
  cases hk : sz Q t with
  | none => rw [hk] at h1; cases h1
  | some k =>
    rw [hk] at h1 h2
    have e := cellsOf_sz hk
    rw [e] at hsh ⊢
    simp only at h1 h2
    cases ha : isAg Q t with
    | true =>
      rw [ha] at h1 h2
      simp only [if_true] at h1 h2
      split at h1
      · split at h2
        · cases h1; cases h2; simp
        · cases h2
      · cases h1
    | false =>
      rw [ha] at h1 h2 hsh
      simp only [Bool.false_eq_true, if_false] at h1 h2
      have hk1 : k = 1 := by simpa using hsh
      subst hk1
      have l1 := (List.getElem?_eq_some_iff.1 h1).1
      have l2 := (List.getElem?_eq_some_iff.1 h2).1
      have e1 : (xs.drop off).take 1 = [x] := by
        rw [List.drop_eq_getElem_cons l1]
        simp [(List.getElem?_eq_some_iff.1 h1).2]
      have e2 : (ys.drop off).take 1 = [y] := by
        rw [List.drop_eq_getElem_cons l2]
        simp [(List.getElem?_eq_some_iff.1 h2).2]
      rw [e1, e2]
      simp

theorem eqFs_shape {Q : Program} {go : TypeId → D → D → Option Bool} {xs ys : List D} {tot : Nat} (hx : xs.length = tot) (hy : ys.length = tot)
    {sh : TypeId → D → Bool} (hgo : ∀ t x y, sh t x = true → sh t y = true → ∃ c, go t x y = some c ∧ (c = true ↔ x = y)) : ∀ (fs : List Field) (off : Nat), tileB Q off fs tot = true → off ≤ tot →
    (∀ f ∈ fs, (!(f.name == "_") && (isAg Q f.type || Nat.beq (Q.cellsOf f.type) 1) && (match partD Q f.type xs f.offset with | some y => sh f.type y | none => false)) = true) →
    (∀ f ∈ fs, (!(f.name == "_") && (isAg Q f.type || Nat.beq (Q.cellsOf f.type) 1) && (match partD Q f.type ys f.offset with | some y => sh f.type y | none => false)) = true) →
    ∃ c, eqFs Q go fs xs ys = some c ∧ (c = true ↔ xs.drop off = ys.drop off)
  | [], off, ht, hle, _, _ => by
    have : off = tot := Nat.eq_of_beq_eq_true ht
    refine ⟨true, rfl, ?_⟩
    rw [List.drop_eq_nil_of_le (by omega), List.drop_eq_nil_of_le (by omega)]
    simp
  | f :: r, off, ht, hle, h1, h2 => by
    simp only [tileB, Bool.and_eq_true] at ht
    have ho : f.offset = off := Nat.eq_of_beq_eq_true ht.1
    have hle2 : off + Q.cellsOf f.type ≤ tot := by
      have : ∀ (fs : List Field) (o : Nat), tileB Q o fs tot = true → o ≤ tot := by
        intro fs
        induction fs with
        | nil => intro o h; exact Nat.le_of_eq (Nat.eq_of_beq_eq_true h)
        | cons g gs ih =>
          intro o h
          simp only [tileB, Bool.and_eq_true] at h
          have := ih _ h.2
          omega
      exact this r _ ht.2
    obtain ⟨c, hc, hcc⟩ := eqFs_shape hx hy hgo r _ ht.2 hle2 (fun g hg => h1 g (by simp [hg])) (fun g hg => h2 g (by simp [hg]))
    have a1 := h1 f (by simp)
    have a2 := h2 f (by simp)
    simp only [Bool.and_eq_true] at a1 a2
    obtain ⟨⟨hn, hsh⟩, b1⟩ := a1
    obtain ⟨_, b2⟩ := a2
    have hn : (f.name == "_") = false := by simpa using hn
    unfold eqFs
    rw [hn]
    simp only
    cases p1 : partD Q f.type xs f.offset with
    | none => rw [p1] at b1; cases b1
    | some x =>
      cases p2 : partD Q f.type ys f.offset with
      | none => rw [p2] at b2; cases b2
      | some y =>
        rw [p1] at b1
        rw [p2] at b2
        obtain ⟨a, ha, haa⟩ := hgo f.type x y b1 b2
        simp only [ha, hc]
        refine ⟨a && c, rfl, ?_⟩
        rw [Bool.and_eq_true, haa, hcc, partD_eq hsh p1 p2, ho]
        have split1 : ∀ l : List D, l.drop off = (l.drop off).take (Q.cellsOf f.type) ++ l.drop (off + Q.cellsOf f.type) := fun l => by
          rw [← List.drop_drop, List.take_append_drop]
        constructor
        · rintro ⟨e1, e2⟩
          rw [split1 xs, split1 ys, e1, e2]
        · intro e
          refine ⟨by rw [e], ?_⟩
          rw [← List.drop_drop, ← List.drop_drop, e]

theorem eqD_shape {Q : Program} : ∀ (n : Nat) (t : TypeId) (x y : D), kshape Q n t x = true → kshape Q n t y = true → ∃ c, eqD Q n t x y = some c ∧ (c = true ↔ x = y)
  | 0, _, _, _, h, _ => by simp [kshape] at h
  | n + 1, t, x, y, h1, h2 => by
    unfold kshape at h1 h2
    unfold eqD
    cases hd : Q.underlying t with
    | none => rw [hd] at h1; simp at h1
    | some d =>
      rw [hd] at h1 h2
      cases d with
      | bool =>
        cases x <;> try (simp at h1; done)
        cases y <;> try (simp at h2; done)
        exact ⟨_, rfl, by simp⟩
      | int k =>
        cases x <;> try (simp at h1; done)
        cases y <;> try (simp at h2; done)
        rename_i k1 a k2 b
        have e1 : k = k1 := by simpa using h1
        have e2 : k = k2 := by simpa using h2
        subst e1 e2
        exact ⟨a == b, by simp, by simp⟩
      | string =>
        cases x <;> try (simp at h1; done)
        cases y <;> try (simp at h2; done)
        exact ⟨_, rfl, by simp⟩
      | struct fs =>
        cases x <;> try (simp at h1; done)
        cases y <;> try (simp at h2; done)
        rename_i xs ys
        simp only [Bool.and_eq_true] at h1 h2
        obtain ⟨⟨⟨l1, t1⟩, s1⟩, f1⟩ := h1
        obtain ⟨⟨⟨l2, _⟩, _⟩, f2⟩ := h2
        have s1 : Q.stoodInHeld t = false := by simpa using s1
        obtain ⟨c, hc, hcc⟩ := eqFs_shape (Q := Q) (go := eqD Q n) (xs := xs) (ys := ys) (Nat.eq_of_beq_eq_true l1) (Nat.eq_of_beq_eq_true l2) (sh := kshape Q n) (fun t x y a b => eqD_shape n t x y a b) fs.toList 0 t1 (Nat.zero_le _)
          (fun f hf => List.all_eq_true.1 f1 f hf) (fun f hf => List.all_eq_true.1 f2 f hf)
        refine ⟨c, by simp only [s1]; exact hc, ?_⟩
        rw [hcc]
        simp
      | _ => simp at h1
theorem keyB_shape {Q : Program} {kt : TypeId} {k : D} (h : keyB Q kt k = true) : kshape Q 20 kt k = true ∧ (∀ c ∈ k.cells, c.litB = true) ∧ ∃ v, k.toV = some v ∧ ∀ em, ∃ u, evalPure Q (Instr.checkKey em 10000 kt v) = some u := by
  simp only [keyB, Bool.and_eq_true] at h
  refine ⟨h.1.1, List.all_eq_true.1 h.1.2, ?_⟩
  have h2 := h.2
  split at h2
  · rename_i v hv
    split at h2
    · rename_i a b ha hb
      exact ⟨v, hv, fun em => by cases em; exact ⟨_, ha⟩; exact ⟨_, hb⟩⟩
    · cases h2
  · cases h2

/-- What is found at a key. -/
theorem find_asking {Q : Program} {kt : TypeId} {k : D} {v : Value} (hs : kshape Q 20 kt k = true) (hv : k.toV = some v) : ∀ (ks : List (D × D)) (es : List MapEntry) (i0 : Nat), ks.length = es.length →
    (∀ (i : Nat) (p : D × D) (e : MapEntry), ks[i]? = some p → es[i]? = some e → kshape Q 20 kt p.1 = true ∧ p.1.toV = some e.key) →
    ∃ r, evalPure Q (Instr.findAsking kt v es i0) = some r ∧ ((r = none ∧ ∀ p ∈ ks, p.1 ≠ k) ∨ ∃ i p e, r = some (i0 + i, e.val) ∧ ks[i]? = some p ∧ es[i]? = some e ∧ p.1 = k)
  | [], [], i0, _, _ => ⟨none, rfl, .inl ⟨rfl, by simp⟩⟩
  | [], e :: es, i0, h, _ => by simp at h
  | p :: ks, [], i0, h, _ => by simp at h
  | p :: ks, e :: es, i0, hl, h => by
    obtain ⟨h1, h2⟩ := h 0 p e rfl rfl
    obtain ⟨c, hc, hcc⟩ := eqD_shape 20 kt k p.1 hs h1
    have he := evalPure_eqD 20 10000 kt k p.1 c v e.key (by omega) hc hv h2
    unfold Instr.findAsking
    have eq : Op.equal kt v e.key = Op.equalIn 10000 kt v e.key := rfl
    rw [evalPure_bind, eq, he, Option.bind_some]
    cases c with
    | true => exact ⟨_, rfl, .inr ⟨0, p, e, rfl, rfl, rfl, (hcc.1 rfl).symm⟩⟩
    | false =>
      obtain ⟨r, hr, hrr⟩ := find_asking hs hv ks es (i0 + 1) (by simpa using hl) fun i p e hp he => h (i + 1) p e (by simpa using hp) (by simpa using he)
      refine ⟨r, hr, ?_⟩
      have hne : p.1 ≠ k := fun e => by
        have := hcc.2 e.symm
        cases this
      rcases hrr with ⟨rfl, hall⟩ | ⟨i, p', e', rfl, a, b, c⟩
      · exact .inl ⟨rfl, fun q hq => by
          rcases List.mem_cons.1 hq with rfl | hq
          · exact hne
          · exact hall q hq⟩
      · exact .inr ⟨i + 1, p', e', by rw [show i0 + (i + 1) = i0 + 1 + i by omega], by simpa using a, by simpa using b, c⟩

theorem same_now {Q : Program} {kt : TypeId} {d : TypeDesc} (hd : Q.underlying kt = some d) {v u : Value} {c : Bool} (h : Instr.sameNow d v u = some c) : evalPure Q (Op.equal kt v u) = some c := by
  have eq : Op.equal kt v u = Op.equalIn (9999 + 1) kt v u := rfl
  unfold Instr.sameNow at h
  split at h
  · split at h
    · rename_i hk
      subst hk
      rw [eq, Op.equalIn, evalPure_bind, evalPure_underlying hd]
      simp only [Option.bind_some, if_true]
      exact h
    · cases h
  · rw [eq, Op.equalIn, evalPure_bind, evalPure_underlying hd]
    exact h
  · rw [eq, Op.equalIn, evalPure_bind, evalPure_underlying hd]
    exact h
  · cases h
theorem now_asking {Q : Program} {kt : TypeId} {d : TypeDesc} (hd : Q.underlying kt = some d) {v : Value} : ∀ (es : List MapEntry) (i : Nat) (r : Option (Nat × Value)), Instr.findNow d v es i = some r → evalPure Q (Instr.findAsking kt v es i) = some r
  | [], i, r, h => by simp [Instr.findNow] at h; subst h; rfl
  | e :: es, i, r, h => by
    unfold Instr.findNow at h
    unfold Instr.findAsking
    split at h
    · rename_i hs
      simp only [Option.some.injEq] at h
      subst h
      rw [evalPure_bind, same_now hd hs]
      rfl
    · rename_i hs
      rw [evalPure_bind, same_now hd hs]
      exact now_asking hd es (i + 1) r h
    · cases h
/-- What is found at a key, as the machine finds it. -/
theorem find_key {Q : Program} {kt : TypeId} {k : D} {v : Value} (hs : kshape Q 20 kt k = true) (hv : k.toV = some v) {ks : List (D × D)} {es : List MapEntry} (hl : ks.length = es.length)
    (h : ∀ (i : Nat) (p : D × D) (e : MapEntry), ks[i]? = some p → es[i]? = some e → kshape Q 20 kt p.1 = true ∧ p.1.toV = some e.key) (w : World) :
    ∃ r, (Instr.findKey kt v es).run Q w = .ok r w ∧ ((r = none ∧ ∀ p ∈ ks, p.1 ≠ k) ∨ ∃ i p e, r = some (i, e.val) ∧ ks[i]? = some p ∧ es[i]? = some e ∧ p.1 = k) := by
  obtain ⟨r, hr, hrr⟩ := find_asking hs hv ks es 0 hl h
  refine ⟨r, ?_, ?_⟩
  · have hd : ∃ d, Q.underlying kt = some d := by
      unfold kshape at hs
      cases hd : Q.underlying kt with
      | none => rw [hd] at hs; simp at hs
      | some d => exact ⟨d, rfl⟩
    obtain ⟨d, hd⟩ := hd
    refine evalPure_run ?_ w
    unfold Instr.findKey
    rw [evalPure_bind, evalPure_underlying hd, Option.bind_some]
    cases hn : Instr.findNow d v es 0 with
    | none => exact hr
    | some r' =>
      have := now_asking hd es 0 r' hn
      rw [hr] at this
      cases this
      rfl
  · simpa using hrr
theorem same_self : ∀ (x : D) (v : Value), (∀ c ∈ x.cells, c.litB = true) → x.toV = some v → Instr.sameBits 10000 v v = true := by
  have cell : ∀ (n : Nat) (x : D) (v : Value), x.litB = true → x.toVc = some v → Instr.sameBits (n + 1) v v = true := by
    intro n x v hl h
    cases x <;> simp [D.toVc] at h <;> simp [D.litB] at hl <;> subst h
    · simp [Instr.sameBits]
    · simp [Instr.sameBits]
    · rename_i s
      show ((⟨⟨s⟩⟩ : ByteArray) == ⟨⟨s⟩⟩) = true
      show ((⟨s⟩ : Array UInt8) == ⟨s⟩) = true
      simp
  intro x v hlit h
  cases x with
  | agg cs =>
    simp only [D.toV] at h
    split at h
    · rename_i vs hvs
      simp only [Option.some.injEq] at h
      subst h
      simp only [Instr.sameBits, beq_self_eq_true, Bool.true_and]
      rw [List.all_eq_true]
      intro p hp
      have : ∀ (l : List Value) (p : Value × Value), p ∈ l.zip l → p.1 = p.2 ∧ p.1 ∈ l := by
        intro l
        induction l with
        | nil => intro p hp; cases hp
        | cons y l ih =>
          intro p hp
          rcases List.mem_cons.1 hp with rfl | hp
          · exact ⟨rfl, by simp⟩
          · have := ih p hp
            exact ⟨this.1, by simp [this.2]⟩
      obtain ⟨e1, e2⟩ := this vs p hp
      obtain ⟨a, b⟩ := p
      simp only at e1 e2 ⊢
      subst e1
      obtain ⟨i, hi, rfl⟩ := List.getElem_of_mem e2
      have hl := toVs_len hvs
      obtain ⟨u, h1, h2⟩ := toVs_get (i := i) (x := cs[i]'(by omega)) hvs (by simp)
      rw [List.getElem?_eq_getElem hi] at h1
      cases h1
      exact cell 9998 _ _ (hlit _ (by simp [D.cells])) h2
    · cases h
  | bool b => exact cell 9999 (.bool b) _ rfl h
  | int k n => exact cell 9999 (.int k n) _ rfl h
  | str s => exact cell 9999 (.str s) _ rfl h
  | _ => simp [D.cells, D.litB] at hlit

section
variable {Q : Program} {T : Tg} {F : Nat → Prop} {G : Nat → Value} {w : World} {a : Act} {s : S}
theorem run_zero {t : TypeId} {z : D} (hz : zeroD Q t = some z) (w : World) : ∃ zv, (zeroValue t).run Q w = .ok zv w ∧ DRep F w zv z := by
  unfold zeroD at hz
  split at hz
  · rename_i i hi
    split at hz
    · rename_i zv hzv
      exact ⟨zv, by simp [zeroValue, typeInfo, hi, hzv], DRep.ofV F w hz⟩
    · cases hz
  · cases hz


theorem mapTy_spec {t kt e : TypeId} (h : mapTy Q t = some (kt, e)) : Q.underlying t = some (.map kt e) := by
  unfold mapTy at h
  split at h
  · simp only [Option.some.injEq, Prod.mk.injEq] at h
    obtain ⟨rfl, rfl⟩ := h
    assumption
  · cases h

/-- What a map says of a key. -/
theorem MRep.look {kt : TypeId} {get : D → Option D} {n : Int} {es : List MapEntry} {clock : Nat} (h : MRep Q F w kt get n es clock) {k : D} {v : Value} (hk : keyB Q kt k = true) (hv : k.toV = some v) :
    ∃ r, (Instr.findKey kt v es).run Q w = .ok r w ∧ ((r = none ∧ get k = none) ∨ ∃ i e y, r = some (i, e.val) ∧ es[i]? = some e ∧ e.key = v ∧ get k = some y ∧ DRep F w e.val y) := by
  obtain ⟨ks, h1, h2, h3, h4, h5, h6, h7⟩ := h
  obtain ⟨r, hr, hrr⟩ := find_key (keyB_shape hk).1 hv h1 (fun i p e hp he => ⟨(keyB_shape (h3 i p e hp he).1).1, (h3 i p e hp he).2.1⟩) w
  refine ⟨r, hr, ?_⟩
  rcases hrr with ⟨rfl, hall⟩ | ⟨i, p, e, rfl, hp, he, hpk⟩
  · refine .inl ⟨rfl, ?_⟩
    cases hg : get k with
    | none => rfl
    | some y => exact absurd rfl (hall _ ((h5 k y).1 hg))
  · obtain ⟨_, a2, a3⟩ := h3 i p e hp he
    refine .inr ⟨i, e, p.2, rfl, he, ?_, (h5 k p.2).2 ?_, a3⟩
    · rw [hpk, hv] at a2
      exact (Option.some.inj a2).symm
    · rw [← hpk]
      exact List.mem_of_getElem? hp

theorem mp_at (h : SRel Q T F G w a s) {n ver : Nat} {v : Value} {kt : Nat} {get : D → Option D} {c : Int} {last : Bool} (hv : PRep F w G s.rg v (.mp n ver)) (ho : s.obj n ver = some (.map kt get c last)) :
    ∃ e, lk s.rg n = some e ∧ e.ver = ver ∧ e.obj = .map kt get c last ∧ v = G n ∧ ∃ b es clock, G n = .map (some b) ∧ w.heap[b]? = some (.map es clock) ∧ MRep Q F w kt get c es.toList clock := by
  obtain ⟨e, he, hev, heo⟩ := S.obj_spec ho
  cases hv with
  | mp _ _ _ _ hr =>
    obtain ⟨e', he', hle, hc⟩ := hr
    rw [he] at he'
    cases he'
    have hv := hc hev.symm (by rw [heo]; rfl)
    have := h.rg n e he
    rw [heo] at this
    obtain ⟨b, es, clock, h1, h2, h3, _⟩ := this
    exact ⟨e, he, hev, heo, hv, b, es, clock, h1, h2, h3⟩

theorem mpE_at (h : SRel Q T F G w a s) {n ver : Nat} {v : Value} {kt : Nat} {get : D → Option D} {c : Int} {p : P} {kd : D} (hv : PRep F w G s.rg v (.mp n ver)) (ho : s.obj n ver = some (.mapE kt get c p kd)) :
    ∃ e, lk s.rg n = some e ∧ e.ver = ver ∧ e.obj = .mapE kt get c p kd ∧ v = G n ∧ ∃ b es clock, G n = .map (some b) ∧ w.heap[b]? = some (.map es clock) ∧ MRep Q F w kt get c es.toList clock ∧ ∃ (i : Nat) (en : MapEntry), es[i]? = some en ∧ PRep F w G s.rg (.int .i64 (en.born : Int)) p ∧ kd.toV = some en.key ∧ (get kd).isSome = true := by
  obtain ⟨e, he, hev, heo⟩ := S.obj_spec ho
  cases hv with
  | mp _ _ _ _ hr =>
    obtain ⟨e', he', hle, hc⟩ := hr
    rw [he] at he'
    cases he'
    have hv := hc hev.symm (by rw [heo]; rfl)
    have := h.rg n e he
    rw [heo] at this
    obtain ⟨b, es, clock, h1, h2, h3, h4⟩ := this
    exact ⟨e, he, hev, heo, hv, b, es, clock, h1, h2, h3, h4⟩

theorem lookupP_ok (h : SRel Q T F G w a s) {t kt e : TypeId} {p i q : P} {ok : Bool} {z : D} (ht : mapTy Q t = some (kt, e)) (hz : zeroD Q e = some z) {v u : Value} (hv : PRep F w G s.rg v p) (hu : PRep F w G s.rg u i)
    (hq : lookupP Q s t p i ok z = some q) : ∃ r, (Instr.lookup t v u ok).run Q w = .ok r w ∧ PRep F w G s.rg r q := by
  have hun := mapTy_spec ht
  obtain ⟨zv, hzr, hzd⟩ := run_zero (F := F) hz w
  have two : ∀ (v1 : Value) (x : D) (b : Bool), DRep F w v1 x → PRep F w G s.rg (.tuple #[v1, .bool b]) (.tup [.d x, .d (.bool b)]) := fun v1 x b hx =>
    .tup [v1, .bool b] _ rfl (fun i v c hv hc => by
      match i with
      | 0 => simp at hv hc; subst hv; subst hc; exact .d hx
      | 1 => simp at hv hc; subst hv; subst hc; exact .d (.bool b)
      | i + 2 => simp at hv)
  unfold lookupP at hq
  rw [ht] at hq
  split at hq
  · rename_i kt' e' n ver k hke
    simp only [Option.some.injEq, Prod.mk.injEq] at hke
    obtain ⟨rfl, rfl⟩ := hke
    split at hq
    · rename_i kt2 get c last ho
      split at hq
      · rename_i hc
        simp only [Bool.and_eq_true] at hc
        have hkt := Nat.eq_of_beq_eq_true hc.1
        subst hkt
        obtain ⟨_, _, ⟨kv, hkv, hchk⟩⟩ := keyB_shape hc.2
        have hu' : u = kv := hu.toV (p := .d k) hkv
        subst hu'
        obtain ⟨e0, _, _, _, hvG, b, es, clock, hG, hb, hM⟩ := mp_at h hv ho
        rw [hG] at hvG
        subst hvG
        obtain ⟨ck, hck⟩ := hchk es.isEmpty
        have hck := evalPure_run hck w
        obtain ⟨r, hr, hrr⟩ := hM.look hc.2 hkv
        rcases hrr with ⟨rfl, hg⟩ | ⟨j, en, y, rfl, _, _, hg, hy⟩
        · rw [hg] at hq
          cases ok with
          | true =>
            simp at hq
            subst hq
            exact ⟨.tuple #[zv, .bool false], by simp [Instr.lookup, run_underlying hun, MapKept.run_getObj_map hb, hck, hr, hzr], two _ _ _ hzd⟩
          | false =>
            simp at hq
            subst hq
            exact ⟨zv, by simp [Instr.lookup, run_underlying hun, MapKept.run_getObj_map hb, hck, hr, hzr], .d hzd⟩
        · rw [hg] at hq
          cases ok with
          | true =>
            simp at hq
            subst hq
            exact ⟨.tuple #[en.val, .bool true], by simp [Instr.lookup, run_underlying hun, MapKept.run_getObj_map hb, hck, hr], two _ _ _ hy⟩
          | false =>
            simp at hq
            subst hq
            exact ⟨en.val, by simp [Instr.lookup, run_underlying hun, MapKept.run_getObj_map hb, hck, hr], .d hy⟩
      · cases hq
    · rename_i kt2 get c pE kdE ho
      split at hq
      · rename_i hc
        simp only [Bool.and_eq_true, Bool.not_eq_true'] at hc
        obtain ⟨⟨hok, hkt⟩, hkB⟩ := hc
        have hkt := Nat.eq_of_beq_eq_true hkt
        subst hkt
        subst hok
        obtain ⟨_, _, ⟨kv, hkv, hchk⟩⟩ := keyB_shape hkB
        have hu' : u = kv := hu.toV (p := .d k) hkv
        subst hu'
        obtain ⟨e0, _, _, _, hvG, b, es, clock, hG, hb, hM, _⟩ := mpE_at h hv ho
        rw [hG] at hvG
        subst hvG
        obtain ⟨ck, hck⟩ := hchk es.isEmpty
        have hck := evalPure_run hck w
        obtain ⟨r, hr, hrr⟩ := hM.look hkB hkv
        rcases hrr with ⟨rfl, hg⟩ | ⟨j, en, y, rfl, _, _, hg, hy⟩
        · rw [hg] at hq
          simp at hq
          subst hq
          exact ⟨zv, by simp [Instr.lookup, run_underlying hun, MapKept.run_getObj_map hb, hck, hr, hzr], .d hzd⟩
        · rw [hg] at hq
          simp at hq
          subst hq
          exact ⟨en.val, by simp [Instr.lookup, run_underlying hun, MapKept.run_getObj_map hb, hck, hr], .d hy⟩
      · cases hq
    · cases hq
  · rename_i kt' e' k hke
    simp only [Option.some.injEq, Prod.mk.injEq] at hke
    obtain ⟨rfl, rfl⟩ := hke
    split at hq
    · rename_i hc
      obtain ⟨hsh, _, ⟨kv, hkv, hchk⟩⟩ := keyB_shape hc
      have hu' : u = kv := hu.toV (p := .d k) hkv
      subst hu'
      have hv' : v = .map none := hv.toV (p := .d .nilm) rfl
      subst hv'
      obtain ⟨ck, hck⟩ := hchk true
      have hck := evalPure_run hck w
      obtain ⟨r, hr, hrr⟩ := find_key (ks := []) (es := []) hsh hkv rfl (fun i p e hp => by simp at hp) w
      have hr0 : r = none := by
        rcases hrr with ⟨rfl, _⟩ | ⟨i, p, e, _, hp, _⟩
        · rfl
        · simp at hp
      subst hr0
      cases ok with
      | true =>
        simp at hq
        subst hq
        exact ⟨.tuple #[zv, .bool false], by simp [Instr.lookup, run_underlying hun, hck, hr, hzr], two _ _ _ hzd⟩
      | false =>
        simp at hq
        subst hq
        exact ⟨zv, by simp [Instr.lookup, run_underlying hun, hck, hr, hzr], .d hzd⟩
    · cases hq
  · cases hq
/-- A datum of its value. -/
theorem DRep.of_toVc (F : Nat → Prop) (w : World) {x : D} {v : Value} (h : x.toVc = some v) : DRep F w v x := by
  cases x <;> simp [D.toVc] at h <;> subst h <;> constructor

theorem toVs_at : ∀ (cs : List D) (vs : List Value), D.toVs cs = some vs → vs.length = cs.length ∧ ∀ (i : Nat) (v : Value) (c : D), vs[i]? = some v → cs[i]? = some c → c.toVc = some v
  | [], vs, h => by simp [D.toVs] at h; subst h; exact ⟨rfl, fun i v c hv => by simp at hv⟩
  | x :: r, vs, h => by
    simp only [D.toVs] at h
    split at h
    · rename_i v1 vs1 h1 h2
      simp at h
      subst h
      obtain ⟨k1, k2⟩ := toVs_at r vs1 h2
      refine ⟨by simp [k1], fun i v c hv hc => ?_⟩
      cases i with
      | zero => simp at hv hc; subst hv; subst hc; exact h1
      | succ i => exact k2 i v c (by simpa using hv) (by simpa using hc)
    · cases h

theorem DRep.of_toV (F : Nat → Prop) (w : World) {x : D} {v : Value} (h : x.toV = some v) : DRep F w v x := by
  cases x with
  | agg cs =>
    simp only [D.toV] at h
    split at h
    · rename_i vs hvs
      simp at h
      subst h
      obtain ⟨k1, k2⟩ := toVs_at cs vs hvs
      refine .agg vs cs k1 (fun c hc => ?_) fun i v c hv hc => DRep.of_toVc F w (k2 i v c hv hc)
      obtain ⟨i, hi⟩ := List.getElem?_of_mem hc
      have hlt : i < vs.length := by have := (List.getElem?_eq_some_iff.1 hi).1; omega
      have := k2 i _ c (List.getElem?_eq_getElem hlt) hi
      cases c <;> first | rfl | simp [D.toVc] at this
    · cases h
  | _ => exact DRep.of_toVc F w h

theorem found_born (e : MapEntry) : ∀ l : List MapEntry, e ∈ l → (l.map (·.born)).Nodup → l.find? (fun x => x.born == e.born) = some e
  | [], h, _ => by cases h
  | x :: r, h, hn => by
    rw [List.map_cons, List.nodup_cons] at hn
    rw [List.find?_cons]
    rcases List.mem_cons.1 h with rfl | h
    · simp
    · have hne : x.born ≠ e.born := fun hx => hn.1 (List.mem_map.2 ⟨e, h, hx.symm⟩)
      have : (x.born == e.born) = false := by simpa using hne
      rw [this]
      exact found_born e r h hn.2

theorem run_entry_of {r m since : Nat} {seen : Array Nat} {es : Array MapEntry} {clock : Nat} {e : MapEntry} (hr : w.heap[r]? = some (.mapIter (some m) since (seen.push e.born) clock)) (hm : w.heap[m]? = some (.map es clock)) (he : e ∈ es.toList) (hn : (es.toList.map (·.born)).Nodup) :
    (Instr.entry (.pointer (some ⟨r, 0, none⟩))).run Q w = .ok (.tuple #[e.key, e.val]) w := by
  have hf : es.find? (fun x => x.born == e.born) = some e := by
    rw [← Array.find?_toList]
    exact found_born e _ he hn
  have hc : (clock != clock) = false := by simp
  simp only [Instr.entry, getObj, Sem.run_bind, Sem.run, hr, hm, Result.andThen, Array.back?_push, hc, Bool.false_eq_true, if_false, hf]
  rfl

/-- The entry at which a map's iteration is. -/
theorem entryP_ok (h : SRel Q T F G w a s) {p q : P} {v : Value} (hv : PRep F w G s.rg v p) (hq : entryP s p = some q) : ∃ r, (Instr.entry v).run Q w = .ok r w ∧ PRep F w G s.rg r q := by
  unfold entryP at hq
  split at hq
  · rename_i n ver
    split at hq
    · rename_i kt vt left k x ho
      simp only [Option.some.injEq] at hq
      subst hq
      obtain ⟨e, he, hev, heo⟩ := S.obj_spec ho
      have hO := h.rg n e he
      rw [heo] at hO
      obtain ⟨b, mo, since, seen, last, hg, hh, hO⟩ := hO
      cases hv with
      | ref _ _ _ _ hr h1 =>
        obtain ⟨b', hg', rfl⟩ := hr.at he hev (by rw [heo]; rfl)
        rw [hg] at hg'
        simp at hg'
        subst hg'
        rcases hO with ⟨_, _, hc⟩ | ⟨m, es, rfl, hF, hm, hlast, ⟨ks, g1, g3, g4, g5, g6, g7⟩, hc⟩
        · cases hc
        · subst hlast
          obtain ⟨en, hen, hback, hk, hx⟩ := hc k x rfl
          obtain ⟨sn, rfl⟩ := Array.back?_eq_some_iff.1 hback
          refine ⟨_, run_entry_of hh hm hen g6, .tup [en.key, en.val] _ rfl fun i v c hv hc => ?_⟩
          match i with
          | 0 => simp at hv hc; subst hv; subst hc; exact .d (DRep.of_toV F w hk)
          | 1 => simp at hv hc; subst hv; subst hc; exact .d hx
          | i + 2 => simp at hv
    · cases hq
  · cases hq
end
end Pi

