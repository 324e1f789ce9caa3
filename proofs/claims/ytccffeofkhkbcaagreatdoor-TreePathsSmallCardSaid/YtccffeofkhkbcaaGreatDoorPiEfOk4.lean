/- The text PiEfOk4. -/
import Derived.Test.YtccffeofkhkbcaaGreatDoorPiSd
namespace Pi
open Go

section
variable {Q : Program} {T : Tg} {F : Nat → Prop} {G : Nat → Value} {w : World} {a : Act} {s : S}

theorem srcP_ok (h : SRel Q T F G w a s) {t2 : TypeId} {k : Nat} (hk0 : 0 < k) {p : P} {ys : List D} (hs : srcP Q s t2 k p = some ys) {v : Value} (hv : PRep F w G s.rg v p) :
    ∃ news, Src Q k t2 v ys.length news w ∧ FRep F w k ys news := by
  unfold srcP at hs
  split at hs
  · rename_i n ver len
    split at hs
    · rename_i ty fz es e' ho ht2
      split at hs
      · rename_i hkk
        have hk : sz Q ty = some k := by simpa using hkk
        simp at hs
        subst hs
        obtain ⟨e, he, hev, heo⟩ := S.obj_spec ho
        have hO := h.rg n e he
        rw [heo] at hO
        cases hv with
        | sl _ _ _ _ h1 hr =>
          obtain ⟨a0, N, cap, hG, rfl, hle⟩ := hr.at he hev (by rw [heo]; rfl)
          rcases hO with ⟨hg, rfl⟩ | ⟨b, cap', cs, k', hg, hh, hk', hk0', hlc, hcm, hsz, _, hE⟩
          · rw [hG] at hg
            simp at hg
            obtain ⟨rfl, rfl, rfl⟩ := hg
            have : len = 0 := by omega
            subst this
            exact ⟨[], by simpa using Src.ofNil w ht2 0, by simpa using FRep.nil F w k⟩
          · rw [hk] at hk'
            cases hk'
            rw [hG] at hg
            simp at hg
            obtain ⟨rfl, rfl, rfl⟩ := hg
            have hsz' : es.length * k ≤ cs.size := by rw [hsz]; exact Nat.mul_le_mul_right _ hlc
            have hf := FRep.take hE hle hsz'
            refine ⟨_, ?_, hf⟩
            have hll : (es.take len).length = len := by simp; omega
            rw [hll]
            refine Src.ofSlice w ht2 ⟨b, 0, none⟩ len cap _ (by rw [hf.1, hll]) (fun j u hu => ?_) (hf.one hk0)
            rw [addr_add, Nat.zero_add, cell_of_row w b j cs ty (0, 0) hh]
            rw [List.getElem?_take] at hu
            split at hu
            · simpa using hu
            · cases hu
      · cases hs
    · cases hs
  · rename_i k' es
    split at hs
    · rename_i e' ht2
      split at hs
      · rename_i hkk
        have hkk : k' = k := by simpa using hkk
        subst hkk
        simp at hs
        subst hs
        cases hv with
        | d hv =>
          cases hv with
          | slE a0 _ cap =>
            refine ⟨[], ?_, FRep.nil F w _⟩
            cases a0 with
            | none => exact Src.ofNil w ht2 cap
            | some ad => exact Src.ofSlice w ht2 ad 0 cap [] (by simp) (fun j u hu => by simp at hu) (fun u hu => by cases hu)
          | slN b off _ cap _ f hcap hb hkk hcell hw hr =>
            have hf : FRep F w k' es ((List.range (es.length * k')).map f) := by
              refine ⟨by simp, fun i x hx => ?_⟩
              have hxm := List.mem_of_getElem? hx
              refine ⟨hkk x hxm, hcell x hxm, fun j c hc => ?_⟩
              have hi : i < es.length := (List.getElem?_eq_some_iff.1 hx).1
              have hj : j < k' := by have h1 := (List.getElem?_eq_some_iff.1 hc).1; have := hkk x hxm; omega
              have hlt : i * k' + j < es.length * k' := by
                calc i * k' + j < i * k' + k' := by omega
                  _ = (i + 1) * k' := by rw [Nat.add_mul, Nat.one_mul]
                  _ ≤ es.length * k' := Nat.mul_le_mul_right _ (by omega)
              have e : ((List.range (es.length * k')).map f).getD (i * k' + j) undef = f (i * k' + j) := by
                simp [List.getD_eq_getElem?_getD, hlt]
              rw [e]
              exact hr i j x c hx hc
            refine ⟨_, ?_, hf⟩
            refine Src.ofSlice w ht2 ⟨b, off, none⟩ es.length cap _ hf.1 (fun j u hu => ?_) (hf.one hk0)
            rw [List.getElem?_map] at hu
            simp only [Option.map_eq_some_iff] at hu
            obtain ⟨m, hm, rfl⟩ := hu
            have hml : j < es.length * k' := by
              have := (List.getElem?_eq_some_iff.1 hm).1
              simpa using this
            rw [List.getElem?_range hml] at hm
            cases hm
            rw [addr_add]
            exact hw j hml
      · cases hs
    · cases hs
  · split at hs
    · rename_i e' ht2
      simp at hs
      subst hs
      cases hv with
      | d hv => cases hv; exact ⟨[], Src.ofNil w ht2 0, FRep.nil F w _⟩
    · cases hs
  · rename_i l
    split at hs
    · rename_i ht2
      split at hs
      · rename_i hk1
        have hk1 : k = 1 := by simpa using hk1
        subst hk1
        simp at hs
        subst hs
        cases hv with
        | d hv =>
          cases hv
          refine ⟨byteCells ⟨⟨l⟩⟩, ?_, ?_, fun i x hx => ?_⟩
          · have := Src.ofString w ht2 ⟨⟨l⟩⟩
            have e : (ByteArray.mk ⟨l⟩).size = (l.map fun b => D.int .u8 b.toNat).length := by simp [ByteArray.size]
            rwa [e] at this
          · rw [byteCells_length]; simp [ByteArray.size]
          · rw [List.getElem?_map] at hx
            simp only [Option.map_eq_some_iff] at hx
            obtain ⟨b, hb, rfl⟩ := hx
            refine ⟨rfl, fun c hc => by simp [D.cells] at hc; subst hc; rfl, fun j c hc => ?_⟩
            cases j with
            | zero =>
              simp [D.cells] at hc
              subst hc
              have e : (byteCells ⟨⟨l⟩⟩).getD (i * 1 + 0) undef = .int .u8 b.toNat := by
                simp [byteCells, List.getD_eq_getElem?_getD, hb]
              rw [e]
              exact .int _ _
            | succ j => simp [D.cells] at hc
      · cases hs
    · cases hs
  · cases hs

theorem zeroD_spec {e : TypeId} {i : TypeInfo} (hi : Q.info? e = some i) {z : D} (hz : zeroD Q e = some z) : ∃ zv, i.zero = some zv ∧ D.ofV zv = some z ∧ zv.cells.size = z.cells.length := by
  unfold zeroD at hz
  rw [hi] at hz
  simp only at hz
  split at hz
  · rename_i zv hzv
    refine ⟨zv, hzv, hz, ?_⟩
    have := (dcells_ok (DRep.ofV (fun _ => False) default hz)).1
    simpa using this
  · cases hz

theorem ownBlock_eq (v : Value) : (∃ a n c, v = .slice a n c) → v.ownBlock = blockOf v := by
  rintro ⟨a, n, c, rfl⟩
  cases a <;> rfl

theorem orep_of_row {F' : Nat → Prop} {G' : Nat → Value} {w' : World} {R' : List (Nat × En)} {n : Nat} {e : TypeId} {k : Nat} (hk : sz Q e = some k) (hk0 : 0 < k) {es : List D} {xs : List Value} (hown : w'.ownsRow 0 e k (G' n) es.length xs) (hf : FRep F' w' k es xs) :
    ORep Q F' w' G' R' n (.arr e false es) := by
  rcases hown.2 with ⟨hv, hn⟩ | ⟨g, cap, cur, hv, _, hg, hnc, hcm, hcs, htake⟩
  · exact .inl ⟨hv, List.eq_nil_of_length_eq_zero hn⟩
  · exact .inr ⟨g, cap, cur, k, hv, hg, hk, hk0, hnc, hcm, hcs, (fun h => by cases h), FRep.toE (by rw [htake]; exact hf)⟩

theorem appendP_ok (h : SRel Q T F G w a s) {dst : Option Nat} {t t2 ty : TypeId} {p q : P} {s' : S} (hs : appendP Q s dst t t2 p q = some s') {vx vy : Value} (hx : PRep F w G s.rg vx p) (hy : PRep F w G s.rg vy q) :
    ∃ v w' G', (Builtin.append_ #[t, t2] ty #[vx, vy]).run Q w = .ok v w' ∧ SRel Q T F G' w' (a.put dst v) s' ∧ Ext (Own G s.rg) (Own G' s'.rg) F F w w' := by
  unfold appendP at hs
  split at hs
  · cases hs
  · rename_i e het
    have ht := elemTy_spec het
    split at hs
    · rename_i i k hi hk
      obtain ⟨i', _, hi', _, hsize⟩ := sz_spec hk
      have hsize : i'.size = k + 1 := hsize
      have hk : sz Q e = some (k + 1) := hk
      rw [hi] at hi'
      cases hi'
      split at hs
      · rename_i ys z hys hz
        obtain ⟨zv, hzv, _, hzs⟩ := zeroD_spec hi hz
        split at hs
        · rename_i hzl
          have hzl : z.cells.length = k + 1 := by simpa using hzl
          obtain ⟨news, hsrc, hfn⟩ := srcP_ok h (by omega) hys hy
          rw [← hsize] at hsrc
          split at hs
          · rename_i n ver len
            split at hs
            · rename_i en hen
              split at hs
              · rename_i ty' es heo
                split at hs
                · rename_i hcond
                  simp only [Bool.and_eq_true, Nat.ble_eq, roomOk] at hcond
                  obtain ⟨⟨⟨hver, hty⟩, hle⟩, hb1, hb2⟩ := hcond
                  have hver : en.ver = ver := by simpa using hver
                  have hty : ty' = e := by simpa using hty
                  subst hty
                  cases hx with
                  | sl _ _ _ _ h1 hr =>
                    obtain ⟨a0, N, cap, hG, rfl, hleN⟩ := hr.at hen hver (by rw [heo]; rfl)
                    have hO := h.rg n en hen
                    rw [heo] at hO
                    have hrow : ∃ xs, w.ownsRow 0 ty' i.size (.slice a0 len cap) len xs ∧ FRep F w (k + 1) (es.take len) xs := by
                      rcases hO with ⟨hg, rfl⟩ | ⟨b, cap', cs, k', hg, hh, hk', hk0', hlc, hcm, hsz, _, hE⟩
                      · rw [hG] at hg
                        simp at hg
                        obtain ⟨rfl, rfl, rfl⟩ := hg
                        have : len = 0 := by omega
                        subst this
                        exact ⟨[], World.ownsRow_nil w 0 ty' i.size, by simpa using FRep.nil F w (k + 1)⟩
                      · rw [hk] at hk'
                        cases hk'
                        rw [hG] at hg
                        simp at hg
                        obtain ⟨rfl, rfl, rfl⟩ := hg
                        have hsz' : es.length * (k + 1) ≤ cs.size := by rw [hsz]; exact Nat.mul_le_mul_right _ hlc
                        have hf := FRep.take hE hle hsz'
                        refine ⟨_, ⟨?_, .inr ⟨b, cap, cs, rfl, Nat.zero_le _, hh, by omega, hcm, by rw [hsize]; exact hsz, by rw [hsize]⟩⟩, hf⟩
                        rw [hf.1, hsize]
                        congr 1
                        simp; omega
                    obtain ⟨xs, hown, hfx⟩ := hrow
                    obtain ⟨v', w', hrun, hown', hgrow, hblk⟩ := run_append_src (ty := ty) ht hi hzv (by rw [hzs, hzl, hsize]) hown hsrc (by simpa [maxLen] using hb2) hb1
                    have hbk : Value.ownBlock (.slice a0 len cap) = blockOf (G n) := by rw [hG]; cases a0 <;> rfl
                    have hownb : ownB (G n) en.obj = blockOf (G n) := by rw [heo]; simp [ownB]
                    have hsl' : ∃ a1 n1 c1, v' = .slice a1 n1 c1 := by
                      rcases hown'.2 with ⟨hv, _⟩ | ⟨g, cap2, cur, hv, _⟩
                      · exact ⟨_, _, _, hv⟩
                      · exact ⟨_, _, _, hv⟩
                    have hlen' : (es.take len ++ ys).length = len + ys.length := by simp; omega
                    have hkeepF : ∀ c, F c → w'.heap[c]? = w.heap[c]? := fun c hc => hgrow.block c (h.bnd c hc) (fun e' => by
                      rw [hbk] at e'
                      exact h.fre n en c hen (by rw [hownb]; exact e'.symm) hc)
                    obtain ⟨d1, d2⟩ := h.upd (n := n) (e1 := ⟨ver + 1, none, .arr ty' false (es.take len ++ ys)⟩) (g1 := v') (w' := w') (hdr := sem_drawn _ hrun) (fun e' he' => by rw [hen] at he'; cases he'; exact .inl (by simp [hver]))
                      (fun c hc hno => hgrow.block c hc (fun e' => hno ⟨en, hen, by rw [hownb, ← hbk]; exact e'.symm⟩)) hgrow.size hgrow.os hgrow.tape hgrow.output
                      (fun c hc => by
                        simp only [ownB] at hc
                        rw [← ownBlock_eq v' hsl'] at hc
                        rcases hblk c (by simpa using hc) with h2 | h2
                        · exact .inl h2
                        · exact .inr ⟨en, hen, by rw [hownb, ← hbk]; exact h2⟩)
                      (orep_of_row hk (by omega) (by rw [upd_same, hlen', ← hsize]; exact hown') ((hfx.mono (fun _ h => h) hkeepF).append (hfn.mono (fun _ h => h) hkeepF)))
                      (fun i hi => by cases hi)
                    have hlive : ∃ a1 c1, v' = .slice a1 (len + ys.length) c1 := by
                      rcases hown'.2 with ⟨hv, hn0⟩ | ⟨g, cap2, cur, hv, _⟩
                      · exact ⟨none, 0, by rw [hv, hn0]⟩
                      · exact ⟨_, _, hv⟩
                    obtain ⟨a1, cp1, hlive⟩ := hlive
                    obtain ⟨c1, c2⟩ := put_ok d1 hs (v := v') (TRep.of (.sl n (ver + 1) (len + ys.length) v' (by rw [hlive]; rfl) ⟨_, lk_ins_same _ _ _, Nat.le_refl _, fun _ _ => ⟨_, _, _, by rw [upd_same]; exact hlive, hlive, Nat.le_refl _⟩⟩))
                    refine ⟨v', w', _, hrun, c1, ?_⟩
                    rw [c2]
                    exact d2
                · cases hs
              · cases hs
            · cases hs
          · split at hs
            · rename_i hroom
              simp only [Bool.and_eq_true, Nat.ble_eq, roomOk] at hroom
              obtain ⟨hb1, hb2⟩ := hroom
              split at hs
              · rename_i s1 v hn
                cases hx with
                | d hx =>
                  cases hx
                  obtain ⟨v', w', hrun, hown', hgrow, hblk⟩ := run_append_src (ty := ty) ht hi hzv (by rw [hzs, hzl, hsize]) (World.ownsRow_nil w 0 e i.size) hsrc (by simpa [maxLen] using hb2) (by simpa using hb1)
                  have hsl' : ∃ a1 n1 c1, v' = .slice a1 n1 c1 := by
                    rcases hown'.2 with ⟨hv, _⟩ | ⟨g, cap2, cur, hv, _⟩
                    · exact ⟨_, _, _, hv⟩
                    · exact ⟨_, _, _, hv⟩
                  have hkeep : ∀ c, c < w.heap.size → w'.heap[c]? = w.heap[c]? := fun c hc => hgrow.block c hc (by simp [Value.ownBlock])
                  have hf := (hfn.mono (F' := F) (w' := w') (fun _ h => h) (fun c hc => hkeep c (h.bnd c hc)))
                  simp only [Nat.zero_add, List.nil_append] at hown'
                  obtain ⟨b1, b2, b3, b4⟩ := new_ok h hn (g1 := v') (w' := w') (hdr := sem_drawn _ hrun) hkeep hgrow.size hgrow.os hgrow.tape hgrow.output
                    (fun c hc => by
                      simp only [ownB] at hc
                      rw [← ownBlock_eq v' hsl'] at hc
                      rcases hblk c (by simpa using hc) with h2 | h2
                      · exact h2
                      · simp [Value.ownBlock] at h2)
                    (orep_of_row hk (by omega) (by rw [upd_same, ← hsize]; exact hown') hf)
                  have hlive : ∃ a1 c1, v' = .slice a1 ys.length c1 := by
                    rcases hown'.2 with ⟨hv, hn0⟩ | ⟨g, cap2, cur, hv, _⟩
                    · exact ⟨none, 0, by rw [hv, hn0]⟩
                    · exact ⟨_, _, hv⟩
                  obtain ⟨a1, cp1, hlive⟩ := hlive
                  obtain ⟨c1, c2⟩ := put_ok b1 hs (v := v') (TRep.of (.sl (site dst) v ys.length v' (by rw [hlive]; rfl) ⟨_, b4, Nat.le_refl _, fun _ _ => ⟨_, _, _, by rw [upd_same]; exact hlive, hlive, Nat.le_refl _⟩⟩))
                  refine ⟨v', w', _, hrun, c1, ?_⟩
                  rw [c2]
                  exact b2
              · cases hs
            · cases hs
          · cases hs
        · cases hs
      · cases hs
    · cases hs
end
end Pi

