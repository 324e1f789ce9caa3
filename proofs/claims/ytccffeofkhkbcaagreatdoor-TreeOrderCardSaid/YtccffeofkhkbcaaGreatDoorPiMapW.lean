/- The text PiMapW. -/
import Derived.Test.YtccffeofkhkbcaaGreatDoorPiMk
/- Maps: making one, changing an entry. -/
namespace Pi
open Go

section
variable {Q : Program} {T : Tg} {F : Nat → Prop} {G : Nat → Value} {w : World} {a : Act} {s : S}

theorem makeMapP_ok (h : SRel Q T F G w a s) {dst : Option Nat} {t : TypeId} {s' : S} (hs : makeMapP Q s dst t = some s') :
    ∃ v w' G', (Instr.makeMap t none).run Q w = .ok v w' ∧ SRel Q T F G' w' (a.put dst v) s' ∧ Ext (Own G s.rg) (Own G' s'.rg) F F w w' := by
  unfold makeMapP at hs
  split at hs
  · rename_i kt e hmt
    split at hs
    · rename_i s1 v hn
      have hkeep : ∀ b, b < w.heap.size → (w.alloc (.map #[] 0)).heap[b]? = w.heap[b]? := fun b hb => heap_alloc_old w _ b hb
      obtain ⟨b1, b2, b3, b4⟩ := new_ok h hn (g1 := .map (some w.heap.size)) (w' := w.alloc (.map #[] 0)) hkeep (by simp) rfl rfl rfl (fun b hb => by simp [ownB, blockOf] at hb; omega)
        ⟨w.heap.size, #[], 0, upd_same _ _ _, heap_alloc_new w _, ⟨[], rfl, rfl, by simp, by simp, by simp, by simp, by simp⟩, fun hl => by cases hl⟩
      obtain ⟨c1, c2⟩ := put_ok b1 hs (v := .map (some w.heap.size)) (TRep.of (.mp (site dst) v _ rfl ⟨_, b4, Nat.le_refl _, fun _ _ => (upd_same _ _ _).symm⟩))
      refine ⟨.map (some w.heap.size), _, _, by simp [Instr.makeMap], c1, ?_⟩
      rw [c2]
      exact b2
    · cases hs
  · cases hs

theorem nodup_key {ks : List (D × D)} (hd : (ks.map (·.1)).Nodup) {i j : Nat} {p q : D × D} (hi : ks[i]? = some p) (hj : ks[j]? = some q) (h : p.1 = q.1) : i = j := by
  obtain ⟨l1, e1⟩ := List.getElem?_eq_some_iff.1 hi
  obtain ⟨l2, e2⟩ := List.getElem?_eq_some_iff.1 hj
  have hp := List.pairwise_iff_getElem.1 hd
  refine Classical.byContradiction fun hne => ?_
  rcases Nat.lt_or_gt_of_ne hne with hlt | hlt
  · exact hp i j (by simpa using l1) (by simpa using l2) hlt (by simp [e1, e2, h])
  · exact hp j i (by simpa using l2) (by simpa using l1) hlt (by simp [e1, e2, h])

/-- The entries behind a change. -/
theorem MRep.set {kt : TypeId} {get : D → Option D} {n : Int} {es : List MapEntry} {clock : Nat} (h : MRep Q F w kt get n es clock) {k y : D} {v : Value} (hk : keyB Q kt k = true) (hv : k.toV = some v) {x : Value} (hx : DRep F w x y) :
    (get k = none → MRep Q F w kt (updD k y get) (n + 1) (es ++ [{ key := v, val := x, born := clock }]) (clock + 1)) ∧
    (∀ i e, es[i]? = some e → e.key = v → get k ≠ none → MRep Q F w kt (updD k y get) n (es.set i { e with key := v, val := x }) clock) := by
  obtain ⟨ks, h1, h2, h3, h4, h5, h6, h7⟩ := h
  constructor
  · intro hg
    have hnk : ∀ p ∈ ks, p.1 ≠ k := fun p hp e => by
      have := (h5 p.1 p.2).2 hp
      rw [e, hg] at this
      cases this
    refine ⟨ks ++ [(k, y)], by simp [h1], by simp [h2], fun i p e hp he => ?_, ?_, fun k' v' => ?_, fun e he => ?_, ?_⟩
    · by_cases hi : i < ks.length
      · rw [List.getElem?_append_left hi] at hp
        rw [List.getElem?_append_left (by omega)] at he
        exact h3 i p e hp he
      · have hik : i = ks.length := by
          have := (List.getElem?_eq_some_iff.1 hp).1
          simp at this
          omega
        subst hik
        rw [List.getElem?_append_right (by omega)] at hp
        rw [List.getElem?_append_right (by omega), h1] at he
        simp at hp he
        subst hp he
        exact ⟨hk, hv, hx⟩
    · rw [List.map_append, List.nodup_append]
      refine ⟨h4, by simp, fun a ha b hb e => ?_⟩
      simp at hb
      subst hb
      obtain ⟨p, hp, rfl⟩ := List.mem_map.1 ha
      exact hnk p hp e
    · by_cases e : k = k'
      · subst e
        rw [updD_same]
        simp only [Option.some.injEq, List.mem_append, List.mem_singleton, Prod.mk.injEq, true_and]
        constructor
        · intro e; exact .inr e.symm
        · rintro (hm | e)
          · exact absurd rfl (hnk _ hm)
          · exact e.symm
      · rw [updD_ne _ _ e, h5]
        simp only [List.mem_append, List.mem_singleton, Prod.mk.injEq]
        constructor
        · exact .inl
        · rintro (hm | ⟨e', _⟩)
          · exact hm
          · exact absurd e'.symm e
    · rcases List.mem_append.1 he with he | he
      · have := h6 e he; omega
      · simp at he; subst he; simp
    · rw [List.map_append, List.nodup_append]
      refine ⟨h7, by simp, fun a ha b hb e => ?_⟩
      simp at hb
      subst hb
      obtain ⟨p, hp, rfl⟩ := List.mem_map.1 ha
      have := h6 p hp
      omega
  · intro i e he hek hg
    have hi : i < es.length := (List.getElem?_eq_some_iff.1 he).1
    have hik : i < ks.length := by omega
    obtain ⟨p, hp⟩ : ∃ p, ks[i]? = some p := ⟨ks[i], List.getElem?_eq_getElem hik⟩
    obtain ⟨a1, a2, a3⟩ := h3 i p e hp he
    -- the key at i is k
    have hpk : p.1 = k := by
      obtain ⟨y0, hy0⟩ : ∃ y0, get k = some y0 := by
        cases hgk : get k with
        | none => exact absurd hgk hg
        | some y0 => exact ⟨y0, rfl⟩
      have hm := (h5 k y0).1 hy0
      obtain ⟨j, hj, hje⟩ := List.getElem_of_mem hm
      obtain ⟨ej, hej⟩ : ∃ ej, es[j]? = some ej := ⟨es[j]'(by omega), List.getElem?_eq_getElem (by omega)⟩
      obtain ⟨_, b2, _⟩ := h3 j (k, y0) ej (by rw [List.getElem?_eq_getElem hj, hje]) hej
      obtain ⟨r, hr, hrr⟩ := find_key (keyB_shape hk).1 hv h1 (fun i p e hp he => ⟨(keyB_shape (h3 i p e hp he).1).1, (h3 i p e hp he).2.1⟩) w
      -- two shaped keys of one value are one
      obtain ⟨c, hc, hcc⟩ := eqD_shape 20 kt p.1 k (keyB_shape a1).1 (keyB_shape hk).1
      obtain ⟨c', hc', hcc'⟩ := eqD_shape 20 kt k k (keyB_shape hk).1 (keyB_shape hk).1
      have e1 := evalPure_eqD 20 10000 kt p.1 k c v v (by omega) hc (by rw [a2, hek]) hv
      have e2 := evalPure_eqD 20 10000 kt k k c' v v (by omega) hc' hv hv
      rw [e1] at e2
      cases e2
      exact hcc.1 (hcc'.2 rfl)
    refine ⟨ks.set i (k, y), by simp [h1], by simpa using h2, fun j q f hq hf => ?_, ?_, fun k' v' => ?_, fun f hf => ?_, ?_⟩
    · by_cases hij : i = j
      · subst hij
        rw [List.getElem?_set_self hik] at hq
        rw [List.getElem?_set_self hi] at hf
        cases hq
        cases hf
        exact ⟨hk, hv, hx⟩
      · rw [List.getElem?_set_ne hij] at hq hf
        exact h3 j q f hq hf
    · have : (ks.set i (k, y)).map (·.1) = ks.map (·.1) := by
        apply List.ext_getElem?
        intro j
        by_cases hij : i = j
        · subst hij
          simp [hik, ← hpk]
          have := List.getElem?_eq_getElem hik
          rw [hp] at this
          cases this
          rfl
        · simp [List.getElem?_set_ne hij]
      rw [this]
      exact h4
    · by_cases e : k = k'
      · subst e
        rw [updD_same]
        constructor
        · intro e
          cases e
          exact List.mem_of_getElem? (i := i) (by rw [List.getElem?_set_self hik])
        · intro hm
          obtain ⟨j, hj⟩ := List.getElem?_of_mem hm
          by_cases hij : i = j
          · subst hij
            rw [List.getElem?_set_self hik] at hj
            cases hj
            rfl
          · rw [List.getElem?_set_ne hij] at hj
            exact absurd (nodup_key h4 hp hj hpk) hij
      · rw [updD_ne _ _ e, h5]
        constructor
        · intro hm
          obtain ⟨j, hj⟩ := List.getElem?_of_mem hm
          have hij : i ≠ j := fun hij => by
            subst hij
            rw [hp] at hj
            cases hj
            exact e hpk.symm
          exact List.mem_of_getElem? (i := j) (by rw [List.getElem?_set_ne hij]; exact hj)
        · intro hm
          obtain ⟨j, hj⟩ := List.getElem?_of_mem hm
          by_cases hij : i = j
          · subst hij
            rw [List.getElem?_set_self hik] at hj
            cases hj
            exact absurd rfl e
          · rw [List.getElem?_set_ne hij] at hj
            exact List.mem_of_getElem? hj
    · rcases List.mem_or_eq_of_mem_set hf with hf | rfl
      · exact h6 f hf
      · exact h6 e (List.mem_of_getElem? he)
    · have : (es.set i { e with key := v, val := x }).map (·.born) = es.map (·.born) := by
        apply List.ext_getElem?
        intro j
        by_cases hij : i = j
        · subst hij
          simp [hi]
          have := List.getElem?_eq_getElem hi
          rw [he] at this
          cases this
          rfl
        · simp [List.getElem?_set_ne hij]
      rw [this]
      exact h7

theorem mapUpdP_ok (h : SRel Q T F G w a s) {dst : Option Nat} {t : TypeId} {p k x : P} {s' : S} (hs : mapUpdP Q s dst t p k x = some s') {vm vk vx : Value} (hm : PRep F w G s.rg vm p) (hk : PRep F w G s.rg vk k) (hx : PRep F w G s.rg vx x) :
    ∃ w' F' G', (Instr.mapUpdate t vm vk vx).run Q w = .ok () w' ∧ SRel Q T F' G' w' (a.put dst undef) s' ∧ Ext (Own G s.rg) (Own G' s'.rg) F F' w w' := by
  unfold mapUpdP at hs
  split at hs
  · rename_i kt e n ver kd hmt
    have hun := mapTy_spec hmt
    split at hs
    · rename_i s1 y hfz
      obtain ⟨F', b1, b2, b3, b4, b5⟩ := frzT_ok h hfz hx
      split at hs
      · rename_i kt2 get c ho
        split at hs
        · rename_i hc
          simp only [Bool.and_eq_true] at hc
          have hkt := Nat.eq_of_beq_eq_true hc.1
          subst hkt
          obtain ⟨hsh, hlit, ⟨kv, hkv, hchk⟩⟩ := keyB_shape hc.2
          have hk' : vk = kv := hk.toV (p := .d kd) hkv
          subst hk'
          have hm1 : PRep F' w G s1.rg vm (.mp n ver) := hm.mono b4 (fun _ _ => rfl) b3
          obtain ⟨en, hen, hever, heo, hvG, b, es, clock, hG, hb, hM⟩ := mp_at b1 hm1 ho
          rw [hG] at hvG
          subst hvG
          obtain ⟨ck, hck⟩ := hchk false
          have hck := evalPure_run hck w
          obtain ⟨r, hr, hrr⟩ := hM.look hc.2 hkv
          have hset := hM.set hc.2 hkv b5
          have hown : ownB (G n) en.obj = some b := by rw [heo, hG]; rfl
          have hlt : b < w.heap.size := (Array.getElem?_eq_some_iff.1 hb).1
          -- whatever the entries become
          have fin : ∀ (es' : Array MapEntry) (clock' : Nat), MRep Q F' w kt (updD kd y get) (bif (get kd).isSome then c else c + 1) es'.toList clock' →
              ∃ F'' G', SRel Q T F'' G' { w with heap := w.heap.setIfInBounds b (.map es' clock') } (a.put dst undef) s' ∧ Ext (Own G s.rg) (Own G' s'.rg) F F'' w { w with heap := w.heap.setIfInBounds b (.map es' clock') } := by
            intro es' clock' hM'
            have hk0 : ∀ b0, b0 ≠ b → (w.heap.setIfInBounds b (.map es' clock'))[b0]? = w.heap[b0]? := fun b0 hne => Array.getElem?_setIfInBounds_ne (Ne.symm hne)
            have hself : (w.heap.setIfInBounds b (.map es' clock'))[b]? = some (.map es' clock') := by rw [Array.getElem?_setIfInBounds_self_of_lt hlt]
            have hs1 : s1.setObj n (.map kt (updD kd y get) (bif (get kd).isSome then c else c + 1) false) = { s1 with rg := ins n ⟨en.ver, en.tag, .map kt (updD kd y get) (bif (get kd).isSome then c else c + 1) false⟩ s1.rg } := by
              unfold S.setObj
              rw [hen]
            rw [hs1] at hs
            have hnew : NewAt G s1.rg n ⟨en.ver, en.tag, .map kt (updD kd y get) (bif (get kd).isSome then c else c + 1) false⟩ (G n) := fun e' he' => by
              rw [hen] at he'
              cases he'
              exact .inr ⟨rfl, fun _ => ⟨by rw [heo]; rfl, rfl⟩⟩
            have hfre : ∀ b0, F' b0 → b0 ≠ b := fun b0 hf e => by
              subst e
              exact b1.fre n en b0 hen hown hf
            obtain ⟨d1, d2⟩ := b1.upd (n := n) (e1 := ⟨en.ver, en.tag, .map kt (updD kd y get) (bif (get kd).isSome then c else c + 1) false⟩) (g1 := G n) (w' := { w with heap := w.heap.setIfInBounds b (.map es' clock') }) hnew
              (fun b0 _ hno => hk0 b0 fun e => by
                subst e
                exact hno ⟨en, hen, hown⟩) (by simp) rfl rfl rfl
              (fun b0 hb0 => .inr ⟨en, hen, by
                have : ownB (G n) (.map kt (updD kd y get) (bif (get kd).isSome then c else c + 1) false) = some b0 := hb0
                rw [heo]
                exact this⟩)
              ⟨b, es', clock', by rw [upd_self]; exact hG, hself, hM'.mono (fun _ h => h) (fun b0 hf => hk0 b0 (hfre b0 hf)), fun hl => by cases hl⟩
              (fun i hi _ => b1.tag n en i hen hi (by rw [heo]; rfl))
            rw [upd_self] at d1 d2
            obtain ⟨c1, c2⟩ := put_ok d1 hs (v := undef) (TRep.of (.bad _))
            refine ⟨F', G, c1, ?_⟩
            rw [c2]
            exact b2.trans d2
          rcases hrr with ⟨rfl, hg⟩ | ⟨i, en0, y0, rfl, hi, hek, hg, _⟩
          · have := hset.1 hg
            obtain ⟨F'', G', e1, e2⟩ := fin (es.push { key := vk, val := vx, born := clock }) (clock + 1) (by rw [hg]; simpa using this)
            refine ⟨_, F'', G', ?_, e1, e2⟩
            simp [Instr.mapUpdate, run_underlying hun, MapKept.run_getObj_map hb, hck, hr, MapKept.run_setObj_map _ hb]
          · have := hset.2 i en0 hi hek (by rw [hg]; simp)
            have hi' : es[i]? = some en0 := by simpa using hi
            have hil : i < es.size := (Array.getElem?_eq_some_iff.1 hi').1
            have hmod : es.modify i (fun e => { e with key := vk, val := vx }) = es.setIfInBounds i { en0 with key := vk, val := vx } := by
              apply Array.ext_getElem?
              intro j
              by_cases hij : i = j
              · subst hij
                rw [Array.getElem?_modify, Array.getElem?_setIfInBounds_self_of_lt hil]
                simp [hi']
              · rw [Array.getElem?_modify, Array.getElem?_setIfInBounds_ne hij]
                simp [hij]
            obtain ⟨F'', G', e1, e2⟩ := fin (es.modify i fun e => { e with key := vk, val := vx }) clock (by
              rw [hg, hmod]
              simpa using this)
            refine ⟨_, F'', G', ?_, e1, e2⟩
            have hst : (Instr.keyThatStays vk vk).run Q w = .ok vk w := by simp [Instr.keyThatStays, same_self kd vk hlit hkv]
            simp [Instr.mapUpdate, run_underlying hun, MapKept.run_getObj_map hb, hck, hr, hi', hek, hst, MapKept.run_setObj_map _ hb]
        · cases hs
      · cases hs
    · cases hs
  · cases hs

theorem mapEntP_ok (h : SRel Q T F G w a s) {dst : Option Nat} {t : TypeId} {p k : P} {s' : S} (hs : mapEntP Q s dst t p k = some s') {vm vk : Value} (hm : PRep F w G s.rg vm p) (hk : PRep F w G s.rg vk k) :
    ∃ v w' F' G', (Instr.mapEntry t vm vk).run Q w = .ok v w' ∧ SRel Q T F' G' w' (a.put dst v) s' ∧ Ext (Own G s.rg) (Own G' s'.rg) F F' w w' := by
  unfold mapEntP at hs
  split at hs
  · rename_i kt e n ver kd hmt
    have hun := mapTy_spec hmt
    split at hs
    · rename_i z hz
      obtain ⟨zv, hzr, hzd⟩ := run_zero (F := F) hz w
      split at hs
      · rename_i kt2 get c ho
        split at hs
        · rename_i hc
          simp only [Bool.and_eq_true, Bool.not_eq_true'] at hc
          obtain ⟨⟨hkt, hkB⟩, hns⟩ := hc
          have hkt := Nat.eq_of_beq_eq_true hkt
          subst hkt
          have hns : n ≠ site dst := fun e => by rw [e, Nat.beq_refl] at hns; cases hns
          split at hs
          · rename_i s1 v1 hn
            obtain ⟨hsh, hlit, ⟨kv, hkv, hchk⟩⟩ := keyB_shape hkB
            have hk' : vk = kv := hk.toV (p := .d kd) hkv
            subst hk'
            obtain ⟨en, hen, hever, heo, hvG, b, es, clock, hG, hb, hM⟩ := mp_at h hm ho
            rw [hG] at hvG
            subst hvG
            obtain ⟨ck, hck⟩ := hchk false
            have hck := evalPure_run hck w
            obtain ⟨r, hr, hrr⟩ := hM.look hkB hkv
            have hown : ownB (G n) en.obj = some b := by rw [heo, hG]; rfl
            have hlt : b < w.heap.size := (Array.getElem?_eq_some_iff.1 hb).1
            have fin : ∀ (es' : Array MapEntry) (clock' : Nat) (i0 : Nat) (e0 : MapEntry) (val : Value), MRep Q F w kt (updD kd (getO (get kd) z) get) (bif (get kd).isSome then c else c + 1) es'.toList clock' → es'[i0]? = some e0 → e0.key = vk → DRep F w val (getO (get kd) z) →
                ∃ F' G', SRel Q T F' G' { w with heap := w.heap.setIfInBounds b (.map es' clock') } (a.put dst (.tuple #[val, .int .i64 (e0.born : Int)])) s' ∧ Ext (Own G s.rg) (Own G' s'.rg) F F' w { w with heap := w.heap.setIfInBounds b (.map es' clock') } := by
              intro es' clock' i0 e0 val hM' hi0 hke0 hval
              obtain ⟨b1, b2, b3, b4⟩ := new_ok h hn (g1 := .int .i64 (e0.born : Int)) (w' := w) (fun _ _ => rfl) (Nat.le_refl _) rfl rfl rfl (fun b hb => by simp [ownB] at hb) trivial
              obtain ⟨hs1, _⟩ := S.new_spec hn
              have hG1 : upd G (site dst) (.int .i64 (e0.born : Int)) n = G n := upd_ne _ hns
              have hen1 : lk s1.rg n = some en := by rw [hs1]; exact (lk_ins_ne _ _ (Ne.symm hns)).trans hen
              have hN1 : upd G (site dst) (.int .i64 (e0.born : Int)) (site dst) = .int .i64 (e0.born : Int) := upd_same _ _ _
              generalize upd G (site dst) (.int .i64 (e0.born : Int)) = G1 at b1 b2 b3 hG1 hN1
              have hb1 : G1 n = .map (some b) := hG1.trans hG
              have hown1 : ownB (G1 n) en.obj = some b := by rw [heo, hb1]; rfl
              have hk0 : ∀ b0, b0 ≠ b → (w.heap.setIfInBounds b (.map es' clock'))[b0]? = w.heap[b0]? := fun b0 hne => Array.getElem?_setIfInBounds_ne (Ne.symm hne)
              have hself : (w.heap.setIfInBounds b (.map es' clock'))[b]? = some (.map es' clock') := by rw [Array.getElem?_setIfInBounds_self_of_lt hlt]
              have hset : s1.setObj n (.mapE kt (updD kd (getO (get kd) z) get) (bif (get kd).isSome then c else c + 1) (.mp (site dst) v1) kd) = { s1 with rg := ins n ⟨en.ver, en.tag, .mapE kt (updD kd (getO (get kd) z) get) (bif (get kd).isSome then c else c + 1) (.mp (site dst) v1) kd⟩ s1.rg } := by
                unfold S.setObj
                rw [hen1]
              rw [hset] at hs
              have hfre : ∀ b0, F b0 → b0 ≠ b := fun b0 hf e => by
                subst e
                exact b1.fre n en b0 hen1 hown1 hf
              have hst : ∀ (w1 : World), PRep F w1 G1 (ins n ⟨en.ver, en.tag, .mapE kt (updD kd (getO (get kd) z) get) (bif (get kd).isSome then c else c + 1) (.mp (site dst) v1) kd⟩ s1.rg) (.int .i64 (e0.born : Int)) (.mp (site dst) v1) := fun w1 =>
                .mp _ _ _ rfl ⟨_, (lk_ins_ne _ _ hns).trans b4, Nat.le_refl _, fun _ _ => hN1.symm⟩
              obtain ⟨d1, d2⟩ := b1.upd (n := n) (e1 := ⟨en.ver, en.tag, .mapE kt (updD kd (getO (get kd) z) get) (bif (get kd).isSome then c else c + 1) (.mp (site dst) v1) kd⟩) (g1 := G1 n) (w' := { w with heap := w.heap.setIfInBounds b (.map es' clock') }) (fun e' he' => by
                  rw [hen1] at he'
                  cases he'
                  exact .inr ⟨rfl, fun _ => ⟨by rw [heo]; rfl, rfl⟩⟩)
                (fun b0 _ hno => hk0 b0 fun e => by
                  subst e
                  exact hno ⟨en, hen1, hown1⟩) (by simp) rfl rfl rfl
                (fun b0 hb0 => .inr ⟨en, hen1, by
                  have : ownB (G1 n) (.mapE kt (updD kd (getO (get kd) z) get) (bif (get kd).isSome then c else c + 1) (.mp (site dst) v1) kd) = some b0 := hb0
                  rw [heo]
                  exact this⟩)
                ⟨b, es', clock', by rw [upd_self]; exact hb1, hself, hM'.mono (fun _ h => h) (fun b0 hf => hk0 b0 (hfre b0 hf)), i0, e0, hi0, by rw [upd_self]; exact hst _, by rw [hke0]; exact hkv, by unfold updD; rw [(D.eqB_iff kd kd).2 rfl]; rfl⟩
                (fun i hi _ => b1.tag n en i hen1 hi (by rw [heo]; rfl))
              rw [upd_self] at d1 d2
              obtain ⟨c1, c2⟩ := put_ok d1 hs (v := .tuple #[val, .int .i64 (e0.born : Int)]) (TRep.of (.tup [val, .int .i64 (e0.born : Int)] _ rfl (fun j v c hv hc => by
                match j with
                | 0 => simp at hv hc; subst hv; subst hc; exact .bad _
                | 1 => simp at hv hc; subst hv; subst hc; exact hst _
                | j + 2 => simp at hv)))
              refine ⟨F, G1, c1, ?_⟩
              rw [c2]
              exact b2.trans d2
            rcases hrr with ⟨rfl, hg⟩ | ⟨i, en0, y0, rfl, hi, hek, hg, hy0⟩
            · have := (hM.set hkB hkv hzd).1 hg
              obtain ⟨F', G', e1, e2⟩ := fin (es.push { key := vk, val := zv, born := clock }) (clock + 1) es.size _ zv (by rw [hg]; simpa [getO] using this) (by simp; rfl) rfl (by rw [hg]; exact hzd)
              refine ⟨_, _, F', G', ?_, e1, e2⟩
              simp [Instr.mapEntry, run_underlying hun, MapKept.run_getObj_map hb, hck, hr, hzr, MapKept.run_setObj_map _ hb, goInt]
            · have hi' : es[i]? = some en0 := by simpa using hi
              have hil : i < es.size := (Array.getElem?_eq_some_iff.1 hi').1
              have := (hM.set hkB hkv hy0).2 i en0 hi hek (by rw [hg]; simp)
              have hmod : es.modify i (fun e => { e with key := vk }) = es.setIfInBounds i { en0 with key := vk, val := en0.val } := by
                apply Array.ext_getElem?
                intro j
                by_cases hij : i = j
                · subst hij
                  rw [Array.getElem?_modify, Array.getElem?_setIfInBounds_self_of_lt hil]
                  simp [hi']
                · rw [Array.getElem?_modify, Array.getElem?_setIfInBounds_ne hij]
                  simp [hij]
              obtain ⟨F', G', e1, e2⟩ := fin (es.modify i fun e => { e with key := vk }) clock i { en0 with key := vk } en0.val (by
                rw [hg, hmod]
                simpa [getO] using this) (by rw [Array.getElem?_modify]; simp [hi']) rfl (by rw [hg]; exact hy0)
              refine ⟨_, _, F', G', ?_, e1, e2⟩
              have hst : (Instr.keyThatStays vk vk).run Q w = .ok vk w := by simp [Instr.keyThatStays, same_self kd vk hlit hkv]
              simp [Instr.mapEntry, run_underlying hun, MapKept.run_getObj_map hb, hck, hr, hi', hek, hst, MapKept.run_setObj_map _ hb, goInt]
          · cases hs
        · cases hs
      · cases hs
    · cases hs
  · cases hs

theorem entStP_ok (h : SRel Q T F G w a s) {dst : Option Nat} {t : TypeId} {p st x : P} {s' : S} (hs : entStP Q s dst p st x = some s') {vm vs vx : Value} (hm : PRep F w G s.rg vm p) (hst : PRep F w G s.rg vs st) (hx : PRep F w G s.rg vx x) :
    ∃ w' F' G', (Instr.entryStore t vm vs vx).run Q w = .ok () w' ∧ SRel Q T F' G' w' (a.put dst undef) s' ∧ Ext (Own G s.rg) (Own G' s'.rg) F F' w w' := by
  unfold entStP at hs
  split at hs
  · rename_i n ver m vm'
    split at hs
    · rename_i s1 y hfz
      obtain ⟨F', b1, b2, b3, b4, b5⟩ := frz_ok h hfz hx
      split at hs
      · rename_i kt get c m2 vm2 kd ho hos
        split at hs
        · rename_i hc
          simp only [Bool.and_eq_true] at hc
          obtain ⟨⟨e1, e2⟩, hkB⟩ := hc
          have e1 := Nat.eq_of_beq_eq_true e1
          have e2 := Nat.eq_of_beq_eq_true e2
          subst e1
          subst e2
          have hm1 : PRep F' w G s1.rg vm (.mp n ver) := hm.mono b4 (fun _ _ => rfl) b3
          have hst1 : PRep F' w G s1.rg vs (.mp m vm') := hst.mono b4 (fun _ _ => rfl) b3
          obtain ⟨en, hen, hever, heo, hvG, b, es, clock, hG, hb, hM, i, e0, hi, hborn, hkd, hsome⟩ := mpE_at b1 hm1 ho
          rw [hG] at hvG
          subst hvG
          -- the number
          obtain ⟨es0, hes0, hev0, heo0⟩ := S.obj_spec hos
          have num : ∀ v, PRep F' w G s1.rg v (.mp m vm') → v = G m := fun v hv => by
            cases hv with
            | mp _ _ _ _ hr =>
              obtain ⟨e', he', hle, hc⟩ := hr
              rw [hes0] at he'
              cases he'
              exact hc hev0.symm (by rw [heo0]; rfl)
          have hvs : vs = .int .i64 (e0.born : Int) := (num _ hst1).trans (num _ hborn).symm
          subst hvs
          have hil : i < es.size := (Array.getElem?_eq_some_iff.1 hi).1
          obtain ⟨_, hlit, _⟩ := keyB_shape hkB
          obtain ⟨ks, h1, h2, h3, h4, h5, h6, h7⟩ := id hM
          have hfind : es.findIdx? (fun e => (e.born : Int) == (e0.born : Int)) = some i := by
            rw [Array.findIdx?_eq_some_iff_getElem]
            have hei : es[i] = e0 := (Array.getElem?_eq_some_iff.1 hi).2
            refine ⟨hil, by rw [hei]; simp, fun j hj => ?_⟩
            simp only [beq_iff_eq, Int.natCast_inj]
            intro hbj
            have hjl : j < es.size := by omega
            have := List.pairwise_iff_getElem.1 h7 j i (by simpa using hjl) (by simpa using hil) hj
            simp only [List.getElem_map, Array.getElem_toList] at this
            exact this (by rw [hei]; exact hbj)
          have hset := hM.set hkB hkd b5
          have hgs : get kd ≠ none := fun e => by rw [e] at hsome; cases hsome
          have hM' := hset.2 i e0 (by simpa using hi) rfl hgs
          have hown : ownB (G n) en.obj = some b := by rw [heo, hG]; rfl
          have hlt : b < w.heap.size := (Array.getElem?_eq_some_iff.1 hb).1
          have hmod : es.modify i (fun e => { e with val := vx }) = es.setIfInBounds i { e0 with key := e0.key, val := vx } := by
            apply Array.ext_getElem?
            intro j
            by_cases hij : i = j
            · subst hij
              rw [Array.getElem?_modify, Array.getElem?_setIfInBounds_self_of_lt hil]
              simp [hi]
            · rw [Array.getElem?_modify, Array.getElem?_setIfInBounds_ne hij]
              simp [hij]
          have hM2 : MRep Q F' w kt (updD kd y get) c (es.modify i fun e => { e with val := vx }).toList clock := by
            rw [hmod]
            simpa using hM'
          have hk0 : ∀ b0, b0 ≠ b → (w.heap.setIfInBounds b (.map (es.modify i fun e => { e with val := vx }) clock))[b0]? = w.heap[b0]? := fun b0 hne => Array.getElem?_setIfInBounds_ne (Ne.symm hne)
          have hself : (w.heap.setIfInBounds b (.map (es.modify i fun e => { e with val := vx }) clock))[b]? = some (.map (es.modify i fun e => { e with val := vx }) clock) := by rw [Array.getElem?_setIfInBounds_self_of_lt hlt]
          have hs1 : s1.setObj n (.map kt (updD kd y get) c false) = { s1 with rg := ins n ⟨en.ver, en.tag, .map kt (updD kd y get) c false⟩ s1.rg } := by
            unfold S.setObj
            rw [hen]
          rw [hs1] at hs
          have hfre : ∀ b0, F' b0 → b0 ≠ b := fun b0 hf e => by
            subst e
            exact b1.fre n en b0 hen hown hf
          obtain ⟨d1, d2⟩ := b1.upd (n := n) (e1 := ⟨en.ver, en.tag, .map kt (updD kd y get) c false⟩) (g1 := G n) (w' := { w with heap := w.heap.setIfInBounds b (.map (es.modify i fun e => { e with val := vx }) clock) }) (fun e' he' => by
              rw [hen] at he'
              cases he'
              exact .inr ⟨rfl, fun _ => ⟨by rw [heo]; rfl, rfl⟩⟩)
            (fun b0 _ hno => hk0 b0 fun e => by
              subst e
              exact hno ⟨en, hen, hown⟩) (by simp) rfl rfl rfl
            (fun b0 hb0 => .inr ⟨en, hen, by
              have : ownB (G n) (.map kt (updD kd y get) c false) = some b0 := hb0
              rw [heo]
              exact this⟩)
            ⟨b, _, clock, by rw [upd_self]; exact hG, hself, hM2.mono (fun _ h => h) (fun b0 hf => hk0 b0 (hfre b0 hf)), fun hl => by cases hl⟩
            (fun i hi _ => b1.tag n en i hen hi (by rw [heo]; rfl))
          rw [upd_self] at d1 d2
          obtain ⟨c1, c2⟩ := put_ok d1 hs (v := undef) (TRep.of (.bad _))
          refine ⟨_, F', G, ?_, c1, ?_⟩
          · simp [Instr.entryStore, MapKept.run_getObj_map hb, asInt, asIntOf, hfind, MapKept.run_setObj_map _ hb]
          · rw [c2]
            exact b2.trans d2
        · cases hs
      · cases hs
    · cases hs
  · cases hs
end
end Pi

