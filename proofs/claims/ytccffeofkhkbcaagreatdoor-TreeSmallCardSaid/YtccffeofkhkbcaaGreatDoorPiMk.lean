/- The text PiMk. -/
import Derived.Test.YtccffeofkhkbcaaGreatDoorPiEfOk4
import Derived.Laws.MakeOwn
/- make, slices written out, copy. -/
namespace Pi
open Go

section
variable {Q : Program} {T : Tg} {F : Nat → Prop} {G : Nat → Value} {w : World} {a : Act} {s : S}

theorem made_get {zc : Array Value} {n k i j : Nat} (hk : zc.size = k) (hj : j < k) (hn : i * k + j < n) : (madeCells zc n).getD (i * k + j) undef = zc.getD j undef := by
  have e : (i * k + j) % zc.size = j := by rw [hk, Nat.mul_comm, Nat.mul_add_mod, Nat.mod_eq_of_lt hj]
  have hj' : j < zc.size := by omega
  simp [madeCells, Array.getD, hn, e, hj']

theorem made_erep {F : Nat → Prop} {w : World} {z : D} {zv : Value} {k l n : Nat} (hz : DRep F w zv z) (hl : z.cells.length = k) (hn : l * k ≤ n) : ERep F w (madeCells zv.cells n) k (List.replicate l z) := by
  obtain ⟨c1, c2, c3⟩ := dcells_ok hz
  have hs : zv.cells.size = k := by rw [← hl, ← c1]; simp
  intro i x hx
  rw [List.getElem?_replicate] at hx
  split at hx
  · rename_i hi
    cases hx
    refine ⟨hl, c2, fun j c hc => ?_⟩
    have hj : j < k := by have := (List.getElem?_eq_some_iff.1 hc).1; omega
    have hlt : i * k + j < n := by
      calc i * k + j < i * k + k := by omega
        _ = (i + 1) * k := by rw [Nat.add_mul, Nat.one_mul]
        _ ≤ l * k := Nat.mul_le_mul_right _ hi
        _ ≤ n := hn
    rw [made_get hs hj hlt]
    have hj' : j < zv.cells.size := by omega
    exact c3 j _ c (by simp [Array.getD, hj']) hc
  · cases hx

theorem makeP_ok (h : SRel Q T F G w a s) {dst : Option Nat} {t : TypeId} {p q : P} {s' : S} (hs : makeP Q s dst t p q = some s') {vx vy : Value} (hx : PRep F w G s.rg vx p) (hy : PRep F w G s.rg vy q) :
    ∃ v w' G', (Instr.makeSlice t vx vy).run Q w = .ok v w' ∧ SRel Q T F G' w' (a.put dst v) s' ∧ Ext (Own G s.rg) (Own G' s'.rg) F F w w' := by
  unfold makeP at hs
  split at hs
  · rename_i e k1 l k2 c het
    have ht := elemTy_spec het
    split at hs
    · rename_i i k z hi hk hz
      obtain ⟨i', _, hi', _, hsize⟩ := sz_spec hk
      rw [hi] at hi'
      cases hi'
      obtain ⟨zv, hzv, hof, hzs⟩ := zeroD_spec hi hz
      split at hs
      · rename_i hcond
        simp only [Bool.and_eq_true, decide_eq_true_eq] at hcond
        obtain ⟨hzl, h0, hlc, h63, hb⟩ := hcond
        have hzl : z.cells.length = k + 1 := by simpa using hzl
        split at hs
        · rename_i s1 v hn
          cases hx with
          | d hx =>
            cases hx
            cases hy with
            | d hy =>
              cases hy
              have hr := run_make (P := Q) w t e i zv ht hi hzv k1 k2 l c h0 hlc hb h63
              have hle : l.toNat ≤ c.toNat := by omega
              obtain ⟨h1, h2, h3, h4⟩ := new_ok h hn (g1 := .slice (some ⟨w.heap.size, 0, none⟩) l.toNat c.toNat) (w' := w.alloc (.cells (madeCells zv.cells (c.toNat * i.size)) e))
                (fun b hb => heap_alloc_old w _ b hb) (by simp) rfl rfl rfl (fun b hb => by simp [ownB, blockOf] at hb; omega)
                (.inr ⟨w.heap.size, c.toNat, madeCells zv.cells (c.toNat * i.size), k + 1, by rw [upd_same, List.length_replicate], heap_alloc_new w _, hk, by omega, by rw [List.length_replicate]; exact hle, by simp only [maxLen]; omega,
                  by rw [size_madeCells, hsize], by simp, made_erep (DRep.ofV _ _ hof) hzl (by rw [hsize]; exact Nat.mul_le_mul_right _ hle)⟩)
              obtain ⟨c1, c2⟩ := put_ok h1 hs (v := .slice (some ⟨w.heap.size, 0, none⟩) l.toNat c.toNat) (TRep.of (.sl (site dst) v l.toNat _ rfl ⟨_, h4, Nat.le_refl _, fun _ _ => ⟨_, l.toNat, c.toNat, upd_same _ _ _, rfl, Nat.le_refl _⟩⟩))
              refine ⟨_, _, _, hr, c1, ?_⟩
              rw [c2]
              exact h2
        · cases hs
      · cases hs
    · cases hs
  · cases hs
/-! slices written out -/
theorem ERep.set {F : Nat → Prop} {w : World} {cs : Array Value} {k i : Nat} {es : List D} {x : D} {v : Value} (hE : ERep F w cs k es) (hsz : cs.size = es.length * k) (hi : i < es.length) (hx : DRep F w v x) (hl : x.cells.length = k) :
    ((v.cells.toList.zipIdx 0).foldl (fun (cs : Array Value) (x : Value × Nat) => cs.setIfInBounds (i * k + x.2) x.1) cs).size = (es.set i x).length * k ∧
    ERep F w ((v.cells.toList.zipIdx 0).foldl (fun (cs : Array Value) (x : Value × Nat) => cs.setIfInBounds (i * k + x.2) x.1) cs) k (es.set i x) := by
  obtain ⟨c1, c2, c3⟩ := dcells_ok hx
  have hle : i * k + k ≤ es.length * k := by
    calc i * k + k = (i + 1) * k := by rw [Nat.add_mul, Nat.one_mul]
      _ ≤ es.length * k := Nat.mul_le_mul_right _ hi
  obtain ⟨h1, h2⟩ := fillOne (i * k) v.cells.toList 0 cs (by rw [c1, hl]; omega)
  refine ⟨by rw [h1, hsz, List.length_set], fun i' y hy => ?_⟩
  by_cases he : i = i'
  · subst he
    rw [List.getElem?_set_self hi] at hy
    cases hy
    refine ⟨hl, c2, fun j c hc => ?_⟩
    have hj : j < k := by have := (List.getElem?_eq_some_iff.1 hc).1; omega
    rw [h2, if_pos (by rw [c1, hl]; omega)]
    have e : i * k + j - (i * k + 0) = j := by omega
    rw [e]
    have hj2 : j < v.cells.toList.length := by omega
    exact c3 j _ c (by rw [List.getD_eq_getElem?_getD, List.getElem?_eq_getElem hj2]; rfl) hc
  · rw [List.getElem?_set_ne he] at hy
    obtain ⟨g1, g2, g3⟩ := hE i' y hy
    refine ⟨g1, g2, fun j c hc => ?_⟩
    have hj : j < k := by have := (List.getElem?_eq_some_iff.1 hc).1; omega
    have hno : ¬ (i * k + 0 ≤ i' * k + j ∧ i' * k + j < i * k + 0 + v.cells.toList.length) := by
      rw [c1, hl]
      rcases Nat.lt_or_gt_of_ne he with h | h
      · have : (i + 1) * k ≤ i' * k := Nat.mul_le_mul_right _ h
        rw [Nat.add_mul, Nat.one_mul] at this
        omega
      · have : (i' + 1) * k ≤ i * k := Nat.mul_le_mul_right _ h
        rw [Nat.add_mul, Nat.one_mul] at this
        omega
    rw [h2, if_neg hno]
    exact g3 j c hc

theorem buildEls_ok {t : TypeId} {k : Nat} (hk : 0 < k) : ∀ (ps : List (Nat × P)) (vs : List (Nat × Value)) (s s' : S) (es es' : List D) (F : Nat → Prop) (cs : Array Value), SRel Q T F G w a s → buildEls Q t k s es ps = some (s', es') →
    vs.length = ps.length → (∀ (i : Nat) x y, vs[i]? = some x → ps[i]? = some y → x.1 = y.1 ∧ PRep F w G s.rg x.2 y.2) → cs.size = es.length * k → ERep F w cs k es →
    ∃ F' cs', SRel Q T F' G w a s' ∧ Ext (Own G s.rg) (Own G s'.rg) F F' w w ∧ es'.length = es.length ∧ cs'.size = es'.length * k ∧ ERep F' w cs' k es' ∧ Instr.fill (fun i => some (i * k, k)) cs vs = some cs'
  | [], vs, s, s', es, es', F, cs, h, hb, hl, _, hsz, hE => by
    simp [buildEls] at hb
    obtain ⟨rfl, rfl⟩ := hb
    have : vs = [] := by simpa using hl
    subst this
    exact ⟨F, cs, h, Ext.refl _ _ _, rfl, hsz, hE, rfl⟩
  | (i, p) :: ps, [], s, s', es, es', F, cs, h, hb, hl, _, hsz, hE => by simp at hl
  | (i, p) :: ps, (i0, v) :: vs, s, s', es, es', F, cs, h, hb, hl, hv, hsz, hE => by
    simp only [buildEls] at hb
    split at hb
    · rename_i s1 x hf
      split at hb
      · rename_i hc
        simp only [Bool.and_eq_true] at hc
        have hxl : x.cells.length = k := by simpa using hc.1
        have hi : i < es.length := by have := hc.2; simp [Nat.blt] at this; omega
        obtain ⟨e0, hp⟩ := hv 0 (i0, v) (i, p) rfl rfl
        simp only at e0 hp
        subst e0
        obtain ⟨F1, g1, g2, g3, g4, g5⟩ := frzT_ok h hf hp
        have hE1 : ERep F1 w cs k es := hE.mono g4 (fun _ _ => rfl)
        obtain ⟨m1, m2⟩ := hE1.set hsz hi g5 hxl
        obtain ⟨F2, cs2, k1, k2, k3, k4, k5, k6⟩ := buildEls_ok hk ps vs s1 s' _ es' F1 _ g1 hb (by simpa using hl) (fun j x y hx hy => by
          obtain ⟨q1, q2⟩ := hv (j + 1) x y (by simpa using hx) (by simpa using hy)
          exact ⟨q1, q2.mono g4 (fun _ _ => rfl) g3⟩) m1 m2
        refine ⟨F2, cs2, k1, g2.trans k2, by rw [k3, List.length_set], k4, k5, ?_⟩
        have hcl : v.cells.size = k := by
          have := (dcells_ok g5).1
          rw [hxl] at this
          simpa using this
        have hle : i0 * k + k ≤ cs.size := by
          rw [hsz]
          calc i0 * k + k = (i0 + 1) * k := by rw [Nat.add_mul, Nat.one_mul]
            _ ≤ es.length * k := Nat.mul_le_mul_right _ hi
        have hcond : (decide (v.cells.size ≠ k) || decide (i0 * k + v.cells.size > cs.size)) = false := by
          rw [hcl]; simp; omega
        simp only [Instr.fill, hcond, Bool.false_eq_true, if_false]
        rw [← k6]
        congr 1
        rw [← Array.foldl_toList]
        simp
      · cases hb
    · cases hb

theorem buildP_ok (h : SRel Q T F G w a s) {dst : Option Nat} {t : TypeId} {len : Nat} {ps : List (Nat × P)} {s' : S} (hs : buildP Q s dst t len ps = some s') {vs : Array (Nat × Value)} (hl : vs.toList.length = ps.length)
    (hv : ∀ (i : Nat) x y, vs.toList[i]? = some x → ps[i]? = some y → x.1 = y.1 ∧ PRep F w G s.rg x.2 y.2) :
    ∃ v w' F' G', (Instr.buildSlice t len vs).run Q w = .ok v w' ∧ SRel Q T F' G' w' (a.put dst v) s' ∧ Ext (Own G s.rg) (Own G' s'.rg) F F' w w' := by
  unfold buildP at hs
  split at hs
  · rename_i e het
    have ht := elemTy_spec het
    split at hs
    · rename_i i k z hi hk hz
      obtain ⟨i', _, hi', _, hsize⟩ := sz_spec hk
      rw [hi] at hi'
      cases hi'
      obtain ⟨zv, hzv, hof, hzs⟩ := zeroD_spec hi hz
      split at hs
      · rename_i hcond
        simp only [Bool.and_eq_true] at hcond
        obtain ⟨⟨hzl, hlim⟩, hbytes⟩ := hcond
        have hzl : z.cells.length = k + 1 := by simpa using hzl
        have hlim : len * (k + 1) ≤ 16777216 := Nat.le_of_ble_eq_true hlim
        split at hs
        · rename_i s1 es hbe
          split at hs
          · rename_i s2 ver hn
            have hcs0 : ∃ cs0 : Array Value, cs0.size = (List.replicate len z).length * (k + 1) ∧ ERep F w cs0 (k + 1) (List.replicate len z) ∧ ((len * (k + 1) = 0 ∧ cs0 = #[]) ∨ (len * (k + 1) ≠ 0 ∧ cs0 = madeCells zv.cells (len * (k + 1)))) := by
              by_cases h0 : len * (k + 1) = 0
              · have : len = 0 := by
                  rcases Nat.mul_eq_zero.1 h0 with h0 | h0
                  · exact h0
                  · omega
                subst this
                exact ⟨#[], by simp, fun i x hx => by simp at hx, .inl ⟨h0, rfl⟩⟩
              · exact ⟨madeCells zv.cells (len * (k + 1)), by rw [size_madeCells, List.length_replicate], made_erep (DRep.ofV _ _ hof) hzl (Nat.le_refl _), .inr ⟨h0, rfl⟩⟩
            obtain ⟨cs0, q1, q2, q3⟩ := hcs0
            obtain ⟨F1, cs1, g1, g2, g3, g4, g5, g6⟩ := buildEls_ok (by omega) ps vs.toList s s1 _ es F cs0 h hbe hl hv q1 q2
            have hlen : es.length = len := by rw [g3, List.length_replicate]
            obtain ⟨h1, h2, h3, h4⟩ := new_ok g1 hn (g1 := .slice (some ⟨w.heap.size, 0, none⟩) len len) (w' := w.alloc (.cells cs1 e))
              (fun b hb => heap_alloc_old w _ b hb) (by simp) rfl rfl rfl (fun b hb => by simp [ownB, blockOf] at hb; omega)
              (.inr ⟨w.heap.size, len, cs1, k + 1, by rw [upd_same, hlen], heap_alloc_new w _, hk, by omega, by omega, by simp only [maxLen]; have : len ≤ len * (k + 1) := Nat.le_mul_of_pos_right _ (by omega); omega,
                by rw [g4, hlen], by simp, g5.mono (fun _ h => h) (fun b hb => heap_alloc_old w _ b (g1.bnd b hb))⟩)
            obtain ⟨c1, c2⟩ := put_ok h1 hs (v := .slice (some ⟨w.heap.size, 0, none⟩) len len) (TRep.of (.sl (site dst) ver len _ rfl ⟨_, h4, Nat.le_refl _, fun _ _ => ⟨_, len, len, upd_same _ _ _, rfl, Nat.le_refl _⟩⟩))
            refine ⟨_, _, _, _, ?_, c1, ?_⟩
            · have hsz : (Go.sizeOf e).run Q w = .ok (k + 1) w := run_sizeOf hk w
              unfold Instr.buildSlice
              simp only [Sem.run_bind, run_underlying ht, Result.andThen_ok, hsz]
              rw [if_neg (by omega)]
              rcases q3 with ⟨h0, rfl⟩ | ⟨h0, rfl⟩
              · have e0 : ((Array.range (len * (k + 1))).map fun x => (#[] : Array Value)[x % (#[] : Array Value).size]!) = #[] := by rw [h0]; simp
                rw [if_pos h0]
                simp only [Sem.run_bind, Sem.run_pure, Result.andThen_ok]
                rw [e0, g6]
                simp [newRow]
              · have e0 : ((Array.range (len * (k + 1))).map fun x => zv.cells[x % zv.cells.size]!) = madeCells zv.cells (len * (k + 1)) := rfl
                rw [if_neg h0]
                have hzr : (zeroValue e).run Q w = .ok zv w := by simp [zeroValue, typeInfo, hi, hzv]
                simp only [Sem.run_bind, Sem.run_pure, Result.andThen_ok, hzr]
                rw [e0, g6]
                simp [newRow]
            · rw [c2]
              exact g2.trans h2
          · cases hs
        · cases hs
      · cases hs
    · cases hs
  · cases hs

/-! copy -/
theorem FRep.drop {F : Nat → Prop} {w : World} {k : Nat} {es : List D} {xs : List Value} (h : FRep F w k es xs) (m : Nat) : FRep F w k (es.drop m) (xs.drop (m * k)) := by
  refine ⟨by rw [List.length_drop, List.length_drop, h.1, Nat.sub_mul], fun i x hx => ?_⟩
  rw [List.getElem?_drop] at hx
  obtain ⟨h1, h2, h3⟩ := h.2 (m + i) x hx
  refine ⟨h1, h2, fun j c hc => ?_⟩
  have := h3 j c hc
  simp only [List.getD_eq_getElem?_getD] at this ⊢
  rw [List.getElem?_drop, ← Nat.add_assoc, ← Nat.add_mul]
  exact this

theorem run_copy_src {t tx ty e : TypeId} {i : TypeInfo} (ht : Q.underlying t = some (.slice e)) (hi : Q.info? e = some i) {b dLen dCap : Nat} {cur : Array Value} (hg : w.heap[b]? = some (.cells cur e (0, 0))) {x : Value} {n : Nat} {news : List Value} (hs : Src Q i.size tx x n news w)
    (hn : n ≤ dLen) (hfit : news.length ≤ cur.size) :
    (Builtin.copy_ #[t, tx] ty #[.slice (some ⟨b, 0, none⟩) dLen dCap, x]).run Q w = .ok (goInt n) (w.setRow b (news ++ cur.toList.drop news.length).toArray) := by
  have hst := run_storeCells_at Q b 0 e news 0 cur w hg (by simpa using hfit) hs.one
  simp only [Nat.add_zero, Nat.zero_add, List.take_zero, List.nil_append] at hst
  have hm : Nat.min n dLen = n := Nat.min_eq_left hn
  simp [Builtin.copy_, run_underlying ht, Go.sizeOf, typeInfo, hi, hs.len, hm, hs.cells, hst]

theorem run_copy_none {t tx ty e : TypeId} {i : TypeInfo} (ht : Q.underlying t = some (.slice e)) (hi : Q.info? e = some i) {dLen dCap : Nat} {x : Value} (hs : Src Q i.size tx x 0 [] w) :
    (Builtin.copy_ #[t, tx] ty #[.slice none dLen dCap, x]).run Q w = .ok (goInt 0) w := by
  have hm : Nat.min 0 dLen = 0 := Nat.zero_min _
  simp [Builtin.copy_, run_underlying ht, Go.sizeOf, typeInfo, hi, hs.len, hm, hs.cells]

theorem copyP_ok (h : SRel Q T F G w a s) {dst : Option Nat} {t t2 ty : TypeId} {p q : P} {s' : S} (hs : copyP Q s dst t t2 p q = some s') {vx vy : Value} (hx : PRep F w G s.rg vx p) (hy : PRep F w G s.rg vy q) :
    ∃ v w' G', (Builtin.copy_ #[t, t2] ty #[vx, vy]).run Q w = .ok v w' ∧ SRel Q T F G' w' (a.put dst v) s' ∧ Ext (Own G s.rg) (Own G' s'.rg) F F w w' := by
  unfold copyP at hs
  split at hs
  · rename_i e n ver len het
    have ht := elemTy_spec het
    split at hs
    · rename_i k hk
      obtain ⟨i, _, hi, _, hsize⟩ := sz_spec hk
      split at hs
      · rename_i ys ty' es hys ho
        split at hs
        · rename_i hc
          simp only [Bool.and_eq_true, decide_eq_true_eq] at hc
          obtain ⟨hty, hle, hyl⟩ := hc
          have hty : ty' = e := by simpa using hty
          subst hty
          obtain ⟨en, hen, hev, heo⟩ := S.obj_spec ho
          obtain ⟨news, hsrc, hfn⟩ := srcP_ok h (by omega) hys hy
          have hsrc' : Src Q i.size t2 vy ys.length news w := by rw [hsize]; exact hsrc
          rw [S.setObj_spec hen] at hs
          have hnew : NewAt G s.rg n ⟨en.ver, en.tag, .arr ty' false (ys ++ es.drop ys.length)⟩ (G n) := fun e' he' => by rw [hen] at he'; cases he'; exact .inr ⟨rfl, fun _ => ⟨by rw [heo]; rfl, rfl⟩⟩
          have fin : ∀ (w' : World) (v : Value), (Builtin.copy_ #[t, t2] ty #[vx, vy]).run Q w = .ok v w' → v = .int .i64 ys.length → (∀ b, b < w.heap.size → ¬ (∃ e, lk s.rg n = some e ∧ ownB (G n) e.obj = some b) → w'.heap[b]? = w.heap[b]?) →
              w.heap.size ≤ w'.heap.size → w'.os = w.os → w'.tape = w.tape → w'.output = w.output → ORep Q F w' G (ins n ⟨en.ver, en.tag, .arr ty' false (ys ++ es.drop ys.length)⟩ s.rg) n (.arr ty' false (ys ++ es.drop ys.length)) →
              ∃ v w' G', (Builtin.copy_ #[t, t2] ty #[vx, vy]).run Q w = .ok v w' ∧ SRel Q T F G' w' (a.put dst v) s' ∧ Ext (Own G s.rg) (Own G' s'.rg) F F w w' := by
            intro w' v hrun hv hkeep hsz hos htp hout horep
            have hO := h.rg n en hen
            obtain ⟨d1, d2⟩ := h.upd (n := n) (e1 := ⟨en.ver, en.tag, .arr ty' false (ys ++ es.drop ys.length)⟩) (g1 := G n) (w' := w') (hdr := sem_drawn _ hrun) hnew hkeep hsz hos htp hout
              (fun b hb => .inr ⟨en, hen, by rw [heo]; exact hb⟩) (by rw [upd_self]; exact horep) (fun i hi' _ => h.tag n en i hen hi' (by rw [heo]; rfl))
            subst hv
            obtain ⟨c1, c2⟩ := put_ok d1 hs (v := .int .i64 ys.length) (TRep.of (.d (.int .i64 ys.length)))
            refine ⟨_, w', _, hrun, c1, ?_⟩
            rw [c2]
            exact d2
          have hO := h.rg n en hen
          rw [heo] at hO
          cases hx with
          | sl _ _ _ _ h1 hr =>
            obtain ⟨a0, N, cap, hG, rfl, hleN⟩ := hr.at hen hev (by rw [heo]; rfl)
            rcases hO with ⟨hg, rfl⟩ | ⟨b, cap', cs, k', hg, hh, hk', hk0', hlc, hcm, hsz, _, hE⟩
            · rw [hG] at hg
              simp at hg
              obtain ⟨rfl, rfl, rfl⟩ := hg
              have h0 : ys = [] := List.eq_nil_of_length_eq_zero (by omega)
              subst h0
              have hn0 : news = [] := by have := hfn.1; simpa using this
              subst hn0
              exact fin w _ (run_copy_none ht hi hsrc') rfl (fun _ _ _ => rfl) (Nat.le_refl _) rfl rfl rfl (.inl ⟨hG, by simp⟩)
            · rw [hk] at hk'
              cases hk'
              rw [hG] at hg
              simp at hg
              obtain ⟨rfl, rfl, rfl⟩ := hg
              have hle2 : ys.length ≤ es.length := by omega
              have hnl : news.length = ys.length * (k + 1) := hfn.1
              have hfit : news.length ≤ cs.size := by
                rw [hnl, hsz]
                exact Nat.mul_le_mul_right _ (by omega)
              have hrun := run_copy_src (ty := ty) (dLen := len) (dCap := cap) ht hi hh hsrc' hyl hfit
              have hlen' : (ys ++ es.drop ys.length).length = es.length := by rw [List.length_append, List.length_drop]; omega
              have hown : ownB (G n) en.obj = some b := by rw [heo, hG]; simp [ownB, blockOf]
              have hnF : ¬ F b := h.fre n en b hen hown
              have hkF : ∀ c, F c → (w.setRow b (news ++ cs.toList.drop news.length).toArray).heap[c]? = w.heap[c]? := fun c hc => setRow_other w b c _ (fun e => hnF (e ▸ hc))
              refine fin _ _ hrun rfl (fun c _ hno => setRow_other w b c _ (fun e' => hno ⟨en, hen, by rw [e']; exact hown⟩)) (by simp) rfl rfl rfl
                (.inr ⟨b, cap, _, k + 1, by rw [hlen']; exact hG, setRow_heap w b cs _ ty' _ hh, hk, by omega, by rw [hlen']; exact hlc, hcm, ?_, by simp, ?_⟩)
              · have hsz2 : cs.size = cap * (k + 1) := hsz
                simp only [List.size_toArray, List.length_append, List.length_drop, Array.length_toList]
                omega
              · refine FRep.toE ?_
                rw [hlen']
                have hf := (FRep.take hE (Nat.le_refl _) (by rw [hsz]; exact Nat.mul_le_mul_right _ hlc)).drop ys.length
                rw [List.take_length] at hf
                have e1 : ((news ++ cs.toList.drop news.length).toArray.toList.take (es.length * (k + 1))) = news ++ (cs.toList.take (es.length * (k + 1))).drop (ys.length * (k + 1)) := by
                  rw [List.take_append, List.take_of_length_le (by rw [hnl]; exact Nat.mul_le_mul_right _ hle2), hnl, List.drop_take]
                rw [e1]
                exact (hfn.append hf).mono (fun _ h => h) hkF
          | _ => rename_i hd; cases hd
        · cases hs
      · cases hs
    · cases hs
  · cases hs
end
end Pi

