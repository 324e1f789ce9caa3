/- The text PiPv. -/
import Derived.Test.YtccffeofkhkbcaaGreatDoorPiStr
namespace Pi
open Go

section
variable {Q : Program} {T : Tg} {F : Nat → Prop} {G : Nat → Value} {w : World} {a : Act} {s : S}

theorem boundsP_spec {len l h : Nat} {lo hi : Option P} (hb : boundsP len lo hi = some (l, h)) : l ≤ h ∧ h ≤ len := by
  unfold boundsP at hb
  split at hb
  · cases hb
  · rename_i h' hh
    have h1 : h' ≤ len := by
      split at hh
      · simp at hh; omega
      · split at hh
        · simp at hh; omega
        · cases hh
      · cases hh
    split at hb
    · simp at hb; omega
    · split at hb
      · simp at hb; omega
      · cases hb
    · cases hb

/-- The bounds of a slice expression over a slice, as the machine takes them. -/
theorem run_bounds {len cap l h : Nat} {lo hi : Option P} {vl vh : Option Value} (hb : boundsP len lo hi = some (l, h)) (hle : hi = none ∨ len ≤ cap)
    (hlo : (lo = none ∧ vl = none) ∨ ∃ p v, lo = some p ∧ vl = some v ∧ PRep F w G s.rg v p) (hhi : (hi = none ∧ vh = none) ∨ ∃ p v, hi = some p ∧ vh = some v ∧ PRep F w G s.rg v p) :
    (Instr.sliceBounds true len cap vl vh none).run Q w = .ok (l, h, cap) w := by
  unfold boundsP at hb
  rcases hhi with ⟨rfl, rfl⟩ | ⟨p, v, rfl, rfl, hp⟩
  · simp only at hb
    rcases hlo with ⟨rfl, rfl⟩ | ⟨p, v, rfl, rfl, hp⟩
    · simp at hb
      obtain ⟨rfl, rfl⟩ := hb
      simp [Instr.sliceBounds]
    · cases p <;> try (simp at hb; done)
      rename_i x
      cases x <;> try (simp at hb; done)
      rename_i k j
      cases hp with
      | d hp =>
        cases hp
        simp only at hb
        split at hb
        · rename_i hj
          simp at hb
          obtain ⟨rfl, rfl⟩ := hb
          simp [Instr.sliceBounds, Instr.sliceBound, asIntOf, hj]
        · cases hb
  · cases p <;> try (simp at hb; done)
    rename_i x
    cases x <;> try (simp at hb; done)
    rename_i k j
    cases hp with
    | d hp =>
      cases hp
      have hle' : len ≤ cap := by rcases hle with h | h; cases h; exact h
      simp only at hb
      by_cases hj : 0 ≤ j ∧ j ≤ (len : Int)
      · have hj2 : 0 ≤ j ∧ j ≤ (cap : Int) := ⟨hj.1, by omega⟩
        rw [if_pos hj] at hb
        simp only at hb
        rcases hlo with ⟨rfl, rfl⟩ | ⟨p, v, rfl, rfl, hp⟩
        · simp at hb
          obtain ⟨rfl, rfl⟩ := hb
          simp [Instr.sliceBounds, Instr.sliceBound, asIntOf, hj2]
        · cases p <;> try (simp at hb; done)
          rename_i x
          cases x <;> try (simp at hb; done)
          rename_i k2 j2
          cases hp with
          | d hp =>
            cases hp
            simp only at hb
            split at hb
            · rename_i hj3
              simp at hb
              obtain ⟨rfl, rfl⟩ := hb
              simp [Instr.sliceBounds, Instr.sliceBound, asIntOf, hj2, hj3]
              intro hc
              omega
            · cases hb
      · rw [if_neg hj] at hb
        cases hb

theorem drep_of_arr {F' : Nat → Prop} {n : Nat} {ty : TypeId} {fz : Bool} {es : List D} {k len : Nat} (hO : ORep Q F w G s.rg n (.arr ty fz es)) (hk : sz Q ty = some k) {v : Value}
    (hv : ∃ a N cap, G n = .slice a N cap ∧ v = .slice a len cap ∧ len ≤ N) (hF : ∀ b, blockOf (G n) = some b → F' b) (hFF : ∀ b, F b → F' b) : DRep F' w v (.sl k (es.take len)) := by
  obtain ⟨a0, N, cap, hG, rfl, hle⟩ := hv
  rcases hO with ⟨hg, rfl⟩ | ⟨b, cap', cs, k', hg, hh, hk', hk0, hlc, hcm, hsz, _, hE⟩
  · rw [hG] at hg
    simp at hg
    obtain ⟨rfl, rfl, rfl⟩ := hg
    have : len = 0 := by omega
    subst this
    exact .slE _ _ _
  · rw [hk] at hk'
    cases hk'
    rw [hG] at hg
    simp at hg
    obtain ⟨rfl, rfl, rfl⟩ := hg
    have hlen : (es.take len).length = len := by simp; omega
    have hget : ∀ i x, (es.take len)[i]? = some x → es[i]? = some x := fun i x hx => by
      rw [List.getElem?_take] at hx
      split at hx
      · exact hx
      · cases hx
    have hmem : ∀ x, x ∈ es.take len → ∃ i, es[i]? = some x := fun x hx => by
      obtain ⟨i, hi⟩ := List.getElem?_of_mem hx
      exact ⟨i, hget i x hi⟩
    have := DRep.slN (F := F') (w := w) b 0 k cap (es.take len) (fun i => cs.getD i undef) (by omega) (hF b (by simp [hG, blockOf])) (fun x hx => by obtain ⟨i, hi⟩ := hmem x hx; exact (hE i x hi).1)
      (fun x hx => by obtain ⟨i, hi⟩ := hmem x hx; exact (hE i x hi).2.1) (fun i hi => by
        rw [hlen] at hi
        have : i < cs.size := by rw [hsz]; exact Nat.lt_of_lt_of_le hi (Nat.mul_le_mul_right _ (by omega))
        rw [Nat.zero_add, cell_of_row w b i cs ty (0, 0) hh]
        simp [Array.getD, this]) (fun i j x c hx hc => ((hE i x (hget i x hx)).2.2 j c hc).mono hFF (fun _ _ => rfl))
    rwa [hlen] at this

/-- The view is one of the same value. -/
theorem viewP_ok (h : SRel Q T F G w a s) {t : TypeId} {v : Value} {p : P} {lo : Option P} (hv : PRep F w G s.rg v p) : PRep F w G s.rg v (viewP Q s t p lo) := by
  unfold viewP
  split
  · rename_i n ver len
    split
    · rename_i x ty es k _ ho hk
      split
      · rename_i k' hk'
        split
        · rename_i hkk
          have hkk := Nat.eq_of_beq_eq_true hkk
          subst hkk
          obtain ⟨e, he, hev, heo⟩ := S.obj_spec ho
          have hO := h.rg n e he
          rw [heo] at hO
          cases hv with
          | sl _ _ _ _ _ hr =>
            have hat := hr.at he hev (by rw [heo]; rfl)
            refine .d (drep_of_arr hO hk' hat (fun b hb => ?_) (fun _ h => h))
            rcases hO with ⟨hg, _⟩ | ⟨b', cap, cs, k2, hg, _, _, _, _, _, _, hf, _⟩
            · rw [hg] at hb; cases hb
            · rw [hg] at hb
              simp [blockOf] at hb
              subst hb
              exact hf rfl
        · exact hv
      · exact hv
    · exact hv
  · exact hv

theorem sliceP_ok (h : SRel Q T F G w a s) {t : TypeId} {v : Value} {p q : P} {lo hi : Option P} {vl vh : Option Value} (hv : PRep F w G s.rg v p)
    (hlo : (lo = none ∧ vl = none) ∨ ∃ p v, lo = some p ∧ vl = some v ∧ PRep F w G s.rg v p) (hhi : (hi = none ∧ vh = none) ∨ ∃ p v, hi = some p ∧ vh = some v ∧ PRep F w G s.rg v p)
    (hq : sliceP Q s t p lo hi = some q) : ∃ x, (Instr.sliceAt t v vl vh none).run Q w = .ok x w ∧ PRep F w G s.rg x q := by
  unfold sliceP at hq
  replace hv := viewP_ok h (t := t) (lo := lo) hv
  generalize viewP Q s t p lo = p at hq hv
  unfold sliceP0 at hq
  split at hq
  · cases hq
  · rename_i e het
    have hun := elemTy_spec het
    split at hq
    · rename_i k hk
      cases hv with
      | d hv =>
        cases hv with
        | slE a0 k' cap =>
          simp only at hq
          split at hq
          · split at hq
            · rename_i l hh hb
              have := boundsP_spec hb
              have hl0 : l = 0 ∧ hh = 0 := by simp at this; omega
              obtain ⟨rfl, rfl⟩ := hl0
              simp at hq
              subst hq
              refine ⟨.slice (if cap = 0 then a0 else a0.map (·.add (0 * (k + 1)))) 0 cap, ?_, .d (.slE _ _ _)⟩
              have hb' := run_bounds (Q := Q) (s := s) (F := F) (w := w) (G := G) (cap := cap) hb (by simp) hlo hhi
              simp only [List.length_nil] at hb'
              simp [Instr.sliceAt, run_underlying hun, Instr.slice, hb', run_sizeOf hk]
            · cases hq
          · cases hq
        | slN b off k' cap es f hcap hb hkk hcell hw hr =>
          simp only at hq
          split at hq
          · rename_i hk'
            have hk' : k' = k + 1 := by simpa using hk'
            subst hk'
            split at hq
            · rename_i l hh hbd
              have hle := boundsP_spec hbd
              simp at hq
              subst hq
              · have hb' := run_bounds (Q := Q) (s := s) (F := F) (w := w) (G := G) (cap := cap) hbd (.inr hcap) hlo hhi
                refine ⟨_, by simp [Instr.sliceAt, run_underlying hun, Instr.slice, hb', run_sizeOf hk]; rfl, ?_⟩
                by_cases h0 : hh - l = 0
                · rw [h0]
                  have e0 : (es.take hh).drop l = [] := List.eq_nil_of_length_eq_zero (by simp; omega)
                  rw [e0]
                  exact .d (.slE _ _ _)
                · have hne : ¬ cap = l := by omega
                  rw [if_neg hne]
                  have hlen : ((es.take hh).drop l).length = hh - l := by simp; omega
                  have hget : ∀ i x, ((es.take hh).drop l)[i]? = some x → es[l + i]? = some x := fun i x hx => by
                    rw [List.getElem?_drop, List.getElem?_take] at hx
                    split at hx
                    · exact hx
                    · cases hx
                  have hmem : ∀ x, x ∈ (es.take hh).drop l → x ∈ es := fun x hx => List.mem_of_mem_take (List.mem_of_mem_drop hx)
                  rw [← hlen, addr_add]
                  refine .d (.slN b (off + l * (k + 1)) (k + 1) (cap - l) _ (fun i => f (l * (k + 1) + i)) (by rw [hlen]; omega) hb (fun x hx => hkk x (hmem x hx)) (fun x hx => hcell x (hmem x hx)) (fun i hi => ?_) (fun i j x c hx hc => ?_))
                  · rw [Nat.add_assoc]
                    refine hw _ ?_
                    rw [hlen] at hi
                    calc l * (k + 1) + i < l * (k + 1) + (hh - l) * (k + 1) := by omega
                      _ = (l + (hh - l)) * (k + 1) := by rw [Nat.add_mul]
                      _ ≤ es.length * (k + 1) := Nat.mul_le_mul_right _ (by omega)
                  · have := hr _ _ _ _ (hget i x hx) hc
                    rw [Nat.add_mul] at this
                    simpa [Nat.add_assoc] using this
            · cases hq
          · cases hq
        | _ => cases hq
      | sl n ver len v h1 hr =>
        simp only at hq
        split at hq
        · rename_i ty fz es ho
          split at hq
          · rename_i l hh hbd
            simp at hq
            subst hq
            obtain ⟨en, he, hev, heo⟩ := S.obj_spec ho
            obtain ⟨a0, N, cap, hG, rfl, hle⟩ := hr.at he hev (by rw [heo]; rfl)
            have hO := h.rg n en he
            rw [heo] at hO
            have hNc : N ≤ cap := by
              rcases hO with ⟨hG', _⟩ | ⟨b', cap', cs, k2, hG', _, _, _, hle', _⟩
              · rw [hG] at hG'; simp at hG'; omega
              · rw [hG] at hG'; simp at hG'; omega
            have hb' := run_bounds (Q := Q) (s := s) (F := F) (w := w) (G := G) (cap := cap) hbd (.inr (by omega)) (.inl ⟨rfl, rfl⟩) hhi
            have hbs := boundsP_spec hbd
            have hl0 : l = 0 := by
              unfold boundsP at hbd
              split at hbd
              · cases hbd
              · simp at hbd; exact hbd.1.symm
            subst hl0
            have hvl : vl = none := by
              rcases hlo with ⟨_, h⟩ | ⟨_, _, h, _⟩
              · exact h
              · cases h
            subst hvl
            refine ⟨.slice a0 hh cap, ?_, .sl n ver hh _ rfl ⟨en, he, by omega, fun _ _ => ⟨a0, N, cap, hG, rfl, by omega⟩⟩⟩
            have hz : ∀ x : Addr, x.add 0 = x := fun x => by simp [Addr.add]
            simp only [Instr.sliceAt, Instr.slice, Sem.run_bind, run_underlying hun, Result.andThen_ok, hb', run_sizeOf hk]
            cases a0 <;> simp [hz]
          · cases hq
        · cases hq
      | _ => cases hq
    · cases hq

theorem run_len_at {t e ty : TypeId} {at' : Array TypeId} (h0 : at'[0]? = some t) (hun : Q.underlying t = some (.slice e)) (b : Option Addr) (n c : Nat) (w : World) : (Builtin.len_ at' ty #[.slice b n c]).run Q w = .ok (goInt n) w := by
  simp [Builtin.len_, h0, run_underlying hun]

theorem lenP_ok {t e : TypeId} {ty : TypeId} {at' : Array TypeId} (h0 : at'[0]? = some t) (het : elemTy Q t = some e) {v : Value} {p q : P} (hv : PRep F w G s.rg v p) (hq : lenP s p = some q) :
    ∃ x, (Builtin.len_ at' ty #[v]).run Q w = .ok x w ∧ PRep F w G s.rg x q := by
  have hun := elemTy_spec het
  unfold lenP at hq
  cases hv with
  | sl n ver len v h1 hr =>
    simp only at hq
    split at hq
    · rename_i hl
      simp at hq
      subst hq
      obtain ⟨en, he, hev, hl⟩ := S.live_spec hl
      obtain ⟨a0, N, cap, hG, rfl, hle⟩ := hr.at he hev hl
      exact ⟨_, run_len_at h0 hun a0 len cap w, .d (.int _ _)⟩
    · cases hq
  | d hv =>
    cases hv with
    | slE a0 k' cap =>
      simp at hq
      subst hq
      exact ⟨_, run_len_at h0 hun a0 0 cap w, .d (.int _ _)⟩
    | slN b off k' cap es f hcap hb hkk hcell hw hr =>
      simp at hq
      subst hq
      exact ⟨_, run_len_at h0 hun _ _ cap w, .d (.int _ _)⟩
    | _ => cases hq
  | _ => cases hq

theorem lenM_ok (h : SRel Q T F G w a s) {t : TypeId} {y : TypeId × TypeId} {ty : TypeId} {at' : Array TypeId} (h0 : at'[0]? = some t) (hmt : mapTy Q t = some y) {v : Value} {p q : P} (hv : PRep F w G s.rg v p) (hq : lenM s p = some q) :
    ∃ x, (Builtin.len_ at' ty #[v]).run Q w = .ok x w ∧ PRep F w G s.rg x q := by
  obtain ⟨kt, e⟩ := y
  have hun := mapTy_spec hmt
  unfold lenM at hq
  split at hq
  · rename_i n ver
    split at hq
    · rename_i kt2 get c last ho
      simp only [Option.some.injEq] at hq
      subst hq
      obtain ⟨e0, _, _, _, hvG, b, es, clock, hG, hb, hM⟩ := mp_at h hv ho
      rw [hG] at hvG
      subst hvG
      obtain ⟨ks, _, hc, _⟩ := hM
      refine ⟨goInt es.size, by simp [Builtin.len_, h0, run_underlying hun, MapKept.run_getObj_map hb], ?_⟩
      rw [hc]
      simp only [Array.length_toList]
      exact .d (.int _ _)
    · cases hq
  · cases hq

theorem nilCmp_ok {x y : Value} {p q : P} {r : Bool} (hx : PRep F w G s.rg x p) (hy : PRep F w G s.rg y q) (hr : nilCmp s p q = some r) :
    r = false ∧ ((∃ b, x = .pointer (some b) ∧ y = .pointer none) ∨ ∃ b, x = .pointer none ∧ y = .pointer (some b)) := by
  unfold nilCmp at hr
  split at hr
  · cases hx with
    | ref n ver off v h h1 =>
      cases hy with | d hy => cases hy; (split at hr) <;> simp at hr; rename_i hl; obtain ⟨e, he, hev, hl⟩ := S.live_spec hl; obtain ⟨b, _, hv⟩ := h.at he hev hl; exact ⟨hr.symm ▸ rfl, .inl ⟨_, hv, rfl⟩⟩
  · cases hx with
    | eref n ver i k off v h1 h =>
      cases hy with | d hy => cases hy; (split at hr) <;> simp at hr; rename_i hl; obtain ⟨e, he, hev, hl⟩ := S.live_spec hl; obtain ⟨b, _, _, _, hv⟩ := h.at he hev hl; exact ⟨hr.symm ▸ rfl, .inl ⟨_, hv, rfl⟩⟩
  · cases hy with
    | ref n ver off v h h1 =>
      cases hx with | d hx => cases hx; (split at hr) <;> simp at hr; rename_i hl; obtain ⟨e, he, hev, hl⟩ := S.live_spec hl; obtain ⟨b, _, hv⟩ := h.at he hev hl; exact ⟨hr.symm ▸ rfl, .inr ⟨_, rfl, hv⟩⟩
  · cases hy with
    | eref n ver i k off v h1 h =>
      cases hx with | d hx => cases hx; (split at hr) <;> simp at hr; rename_i hl; obtain ⟨e, he, hev, hl⟩ := S.live_spec hl; obtain ⟨b, _, _, _, hv⟩ := h.at he hev hl; exact ⟨hr.symm ▸ rfl, .inr ⟨_, rfl, hv⟩⟩
  · cases hx with | fref => cases hy with | d hy => cases hy; simp at hr; exact ⟨hr.symm ▸ rfl, .inl ⟨_, rfl, rfl⟩⟩
  · cases hy with | fref => cases hx with | d hx => cases hx; simp at hr; exact ⟨hr.symm ▸ rfl, .inr ⟨_, rfl, rfl⟩⟩
  · cases hr

theorem run_equalIn_ptr (d : Nat) {t e : TypeId} (ht : Q.underlying t = some (.pointer e)) {x y : Value} (h : (∃ b, x = .pointer (some b) ∧ y = .pointer none) ∨ ∃ b, x = .pointer none ∧ y = .pointer (some b)) (w : World) :
    (Op.equalIn (d + 1) t x y).run Q w = .ok false w := by
  rcases h with ⟨b, rfl, rfl⟩ | ⟨b, rfl, rfl⟩ <;> simp [Op.equalIn, run_underlying ht]

theorem run_ptr_nil {t e : TypeId} (ht : Q.underlying t = some (.pointer e)) {x y : Value} (h : (∃ b, x = .pointer (some b) ∧ y = .pointer none) ∨ ∃ b, x = .pointer none ∧ y = .pointer (some b)) (op : BinOp) (ox oy : Operand) (w : World)
    (hop : op = .eql ∨ op = .neq) : (do eqGuard op t ox oy x y; Go.binOp op t x y : Sem Value).run Q w = .ok (.bool (op matches .neq)) w := by
  have he := run_equalIn_ptr (Q := Q) 9999 ht h w
  rcases h with ⟨b, rfl, rfl⟩ | ⟨b, rfl, rfl⟩ <;> rcases hop with rfl | rfl <;> simp only [eqGuard, Go.binOp, Op.equal, Op.maxDepth] <;> simp [he]

theorem toVs_ok (h : SRel Q T F G w a s) {g : Option (Nat × Bool)} (hg : GuardOK a g) : ∀ (xs : List Operand) (vs : List Value), toVs (xs.map (s.eg g)) = some vs → xs.map a.eval = vs
  | [], vs, hv => by simp [toVs] at hv; simp [hv]
  | x :: xs, vs, hv => by
    simp only [List.map_cons, toVs] at hv
    cases h1 : (s.eg g x).toV with
    | none => simp [h1] at hv
    | some v =>
      cases h2 : toVs (xs.map (s.eg g)) with
      | none => simp [h1, h2] at hv
      | some us =>
        simp [h1, h2] at hv
        subst hv
        rw [List.map_cons, toVs_ok h hg xs us h2, (eg_ok h hg x).toV h1]

theorem aggs_ok {v : Value} {p : P} {ps : List P} (hv : PRep F w G s.rg v p) (h : p.aggs = some ps) : ∃ vs : List Value, v = .agg ⟨vs⟩ ∧ vs.length = ps.length ∧ (∀ u ∈ vs, u.oneCell' = true) ∧ ∀ (i : Nat) (c : P), ps[i]? = some c → PRep F w G s.rg (vs.getD i undef) c := by
  cases hv with
  | agg vs ps' hl hone hc =>
    simp [P.aggs] at h
    subst h
    refine ⟨vs, rfl, hl, hone, fun i c hi => ?_⟩
    have hlt : i < vs.length := by have := (List.getElem?_eq_some_iff.1 hi).1; omega
    have := hc i vs[i] c (List.getElem?_eq_getElem hlt) hi
    simpa [List.getD_eq_getElem?_getD, hlt] using this
  | d hd =>
    cases hd with
    | agg vs cs hl hcell hc =>
      simp [P.aggs] at h
      subst h
      refine ⟨vs, rfl, by simpa using hl, fun u hu => ?_, fun i c hi => ?_⟩
      · obtain ⟨i, hi⟩ := List.getElem?_of_mem hu
        have hlt : i < cs.length := by have := (List.getElem?_eq_some_iff.1 hi).1; omega
        exact (hc i u cs[i] hi (List.getElem?_eq_getElem hlt)).oneCell (hcell _ (List.getElem_mem hlt))
      · rw [List.getElem?_map] at hi
        cases hx : cs[i]? with
        | none => rw [hx] at hi; cases hi
        | some x =>
          rw [hx] at hi
          cases hi
          have hlt : i < vs.length := by have := (List.getElem?_eq_some_iff.1 hx).1; omega
          have := hc i vs[i] x (List.getElem?_eq_getElem hlt) hx
          refine .d ?_
          simpa [List.getD_eq_getElem?_getD, hlt] using this
    | _ => simp [P.aggs] at h
  | _ => simp [P.aggs] at h

theorem part_ok {t : TypeId} {vs : List Value} {ps : List P} {off : Nat} {q : P} (hl : vs.length = ps.length) (hone : ∀ u ∈ vs, u.oneCell' = true) (hc : ∀ (i : Nat) (c : P), ps[i]? = some c → PRep F w G s.rg (vs.getD i undef) c) (hq : partP Q t ps off = some q) :
    ∃ r, (Go.part t ⟨vs⟩ off).run Q w = .ok r w ∧ PRep F w G s.rg r q := by
  obtain ⟨k, hk, hb, hr⟩ := partP_ok (R := s.rg) hq (fun i => vs.getD i undef) (fun i hi => by
    have hlt : i < vs.length := by omega
    simp only [List.getD_eq_getElem?_getD, List.getElem?_eq_getElem hlt, Option.getD_some]
    exact hone _ (List.getElem_mem hlt)) hc
  exact ⟨_, run_part hk vs off (fun j hj => by rw [hl]; exact hb j hj) w, hr⟩

theorem fieldP_ok {t : TypeId} {f : Nat} {v : Value} {p q : P} (hv : PRep F w G s.rg v p) (hq : fieldP Q t f p = some q) : ∃ r, (Instr.field t v f).run Q w = .ok r w ∧ PRep F w G s.rg r q := by
  unfold fieldP at hq
  split at hq
  · rename_i fs ps ht hps
    obtain ⟨vs, rfl, hl, hone, hc⟩ := aggs_ok hv hps
    split at hq
    · rename_i fl hfl
      obtain ⟨r, h1, h2⟩ := part_ok hl hone hc hq
      refine ⟨r, ?_, h2⟩
      simp [Instr.field, run_underlying ht, hfl, asAgg, h1]
    · cases hq
  · cases hq

theorem indexP_ok {t e : TypeId} {n : Nat} {v u : Value} {p i q : P} (ht : Q.underlying t = some (.array n e)) (hv : PRep F w G s.rg v p) (hu : PRep F w G s.rg u i) (hq : indexP Q n e p i = some q) :
    ∃ r, (Instr.index t v u).run Q w = .ok r w ∧ PRep F w G s.rg r q := by
  unfold indexP at hq
  split at hq
  · rename_i ps kk j k hps hk
    obtain ⟨vs, rfl, hl, hone, hc⟩ := aggs_ok hv hps
    cases hu with
    | d hu =>
      cases hu
      split at hq
      · rename_i hj
        obtain ⟨r, h1, h2⟩ := part_ok hl hone hc hq
        refine ⟨r, ?_, h2⟩
        simp [Instr.index, asIntOf, run_underlying ht, hj, run_sizeOf hk, h1]
      · cases hq
  · cases hq

theorem pv_ok (h : SRel Q T F G w a s) {g : Option (Nat × Bool)} (hg : GuardOK a g) {o : Oper} {q : P} (hq : pv Q s o g = some q) :
    ∃ v, (execOp a.eval o).run Q w = .ok (.value v) w ∧ PRep F w G s.rg v q := by
  have up : ∀ {m : Sem Value} {q : P}, pureV Q m = some q → ∃ v, m.run Q w = .ok v w ∧ PRep F w G s.rg v q := fun hh => pureV_run hh F w G s.rg
  unfold pv at hq
  unfold execOp
  split at hq
  · rename_i x hx
    simp at hq
    subst hq
    exact ⟨a.eval x, by simp [hx], eg_ok h hg x⟩
  · rename_i x hx
    simp at hq
    subst hq
    exact ⟨a.eval x, by simp [hx], eg_ok h hg x⟩
  · rename_i c x y ho
    split at hq
    · rename_i r hc
      simp at hq
      subst hq
      have hcv : a.eval c = .bool r := (eg_ok h hg c).toV (by rw [hc]; rfl)
      cases r with
      | true => exact ⟨a.eval x, by simp [ho, hcv, asBool], eg_ok h hg x⟩
      | false => exact ⟨a.eval y, by simp [ho, hcv, asBool], eg_ok h hg y⟩
    · cases hq
  · rename_i x ho
    obtain ⟨rfl, hv⟩ := nilCheckP_val (eg_ok h hg x) hq
    have hr := eg_ok h hg x
    rcases hv with ⟨b, hv⟩ | ⟨f, c1, c2, hv⟩
    · exact ⟨a.eval x, by simp [ho, hv], hr⟩
    · exact ⟨a.eval x, by simp [ho, hv], hr⟩
  · rename_i op t x y yt ho
    unfold binP at hq
    split at hq
    · rename_i u v hu hv
      obtain ⟨r, h1, h2⟩ := up hq
      refine ⟨r, ?_, h2⟩
      simp only [ho]
      rw [(eg_ok h hg x).toV hu, (eg_ok h hg y).toV hv, Sem.run_bind, h1]
      rfl
    · split at hq
      · rename_i hh hcmp
        simp at hq
        subst hq
        obtain ⟨rfl, hcs⟩ := nilCmp_ok (eg_ok h hg x) (eg_ok h hg y) hcmp
        refine ⟨_, ?_, .d (.bool _)⟩
        simp only [ho]
        rw [Sem.run_bind, run_ptr_nil hh hcs .eql x y w (.inl rfl)]
        rfl
      · rename_i hh hcmp
        simp at hq
        subst hq
        obtain ⟨rfl, hcs⟩ := nilCmp_ok (eg_ok h hg x) (eg_ok h hg y) hcmp
        refine ⟨_, ?_, .d (.bool _)⟩
        simp only [ho]
        rw [Sem.run_bind, run_ptr_nil hh hcs .neq x y w (.inr rfl)]
        rfl
      · cases hq
  · rename_i op t x ho
    split at hq
    · rename_i u hu
      obtain ⟨r, h1, h2⟩ := up hq
      refine ⟨r, ?_, h2⟩
      simp only [ho]
      rw [(eg_ok h hg x).toV hu, Sem.run_bind, h1]
      rfl
    · cases hq
  · rename_i t1 t2 x ho
    split at hq
    · rename_i u hu
      obtain ⟨r, h1, h2⟩ := up hq
      refine ⟨r, ?_, h2⟩
      simp only [ho]
      rw [(eg_ok h hg x).toV hu, Sem.run_bind, h1]
      rfl
    · cases hq
  · rename_i t x ho
    obtain ⟨r, h1, h2⟩ := loadP_ok h (eg_ok h hg x) hq
    refine ⟨r, ?_, h2⟩
    simp only [ho]
    rw [Sem.run_bind, h1]
    rfl
  · rename_i t x f ho
    obtain ⟨r, h1, h2⟩ := fieldAddrP_ok (eg_ok h hg x) hq
    refine ⟨r, ?_, h2⟩
    simp only [ho]
    rw [Sem.run_bind, h1]
    rfl
  · rename_i t x i ho
    obtain ⟨r, h1, h2⟩ := indexAddrP_ok h (eg_ok h hg x) (eg_ok h hg i) hq
    refine ⟨r, ?_, h2⟩
    simp only [ho]
    rw [Sem.run_bind, h1]
    rfl
  · rename_i t x i ho
    split at hq
    · rename_i n e ht
      obtain ⟨r, h1, h2⟩ := indexP_ok ht (eg_ok h hg x) (eg_ok h hg i) hq
      refine ⟨r, ?_, h2⟩
      simp only [ho]
      rw [Sem.run_bind, h1]
      rfl
    · split at hq
      · rename_i u v hu hv
        obtain ⟨r, h1, h2⟩ := up hq
        refine ⟨r, ?_, h2⟩
        simp only [ho]
        rw [(eg_ok h hg x).toV hu, (eg_ok h hg i).toV hv, Sem.run_bind, h1]
        rfl
      · cases hq
  · rename_i t x f ho
    obtain ⟨r, h1, h2⟩ := fieldP_ok (eg_ok h hg x) hq
    refine ⟨r, ?_, h2⟩
    simp only [ho]
    rw [Sem.run_bind, h1]
    rfl
  · rename_i x i ho
    split at hq
    · rename_i ps hps
      have hr := eg_ok h hg x
      rw [hps] at hr
      generalize hax : a.eval x = vx at hr
      cases hr with
      | tup vs _ hl hc =>
        have hi : i < ps.length := (List.getElem?_eq_some_iff.1 hq).1
        have hiv : i < vs.length := by omega
        refine ⟨vs[i], ?_, hc i _ _ (List.getElem?_eq_getElem hiv) hq⟩
        simp [ho, hax, Instr.extract, hiv]
    · cases hq
  · rename_i t x i ok ho
    split at hq
    · rename_i z hz
      obtain ⟨y, ht, hz⟩ := Option.bind_eq_some_iff.1 hz
      obtain ⟨kt, e⟩ := y
      obtain ⟨r, h1, h2⟩ := lookupP_ok h ht hz (eg_ok h hg x) (eg_ok h hg i) hq
      refine ⟨r, ?_, h2⟩
      simp only [ho]
      rw [Sem.run_bind, h1]
      rfl
    · cases hq
  · rename_i x ho
    obtain ⟨r, h1, h2⟩ := entryP_ok h (eg_ok h hg x) hq
    refine ⟨r, ?_, h2⟩
    simp only [ho]
    rw [Sem.run_bind, h1]
    rfl
  · rename_i t x lo hi ho
    have hlo : (lo.map (s.eg g) = none ∧ lo.map a.eval = none) ∨ ∃ p v, lo.map (s.eg g) = some p ∧ lo.map a.eval = some v ∧ PRep F w G s.rg v p := by
      cases lo with
      | none => exact .inl ⟨rfl, rfl⟩
      | some l => exact .inr ⟨_, _, rfl, rfl, eg_ok h hg l⟩
    have hhi : (hi.map (s.eg g) = none ∧ hi.map a.eval = none) ∨ ∃ p v, hi.map (s.eg g) = some p ∧ hi.map a.eval = some v ∧ PRep F w G s.rg v p := by
      cases hi with
      | none => exact .inl ⟨rfl, rfl⟩
      | some l => exact .inr ⟨_, _, rfl, rfl, eg_ok h hg l⟩
    split at hq
    · rename_i b hb
      split at hq
      · rename_i l hh hl hhh
        obtain ⟨r, h1, h2⟩ := up hq
        have el : lo.map a.eval = l := by
          cases lo with
          | none => simp at hl; simp [← hl]
          | some x' =>
            simp only [Option.map_eq_some_iff] at hl
            obtain ⟨v, hv, rfl⟩ := hl
            simp [(eg_ok h hg x').toV hv]
        have eh : hi.map a.eval = hh := by
          cases hi with
          | none => simp at hhh; simp [← hhh]
          | some x' =>
            simp only [Option.map_eq_some_iff] at hhh
            obtain ⟨v, hv, rfl⟩ := hhh
            simp [(eg_ok h hg x').toV hv]
        refine ⟨r, ?_, h2⟩
        simp only [ho, Option.map_none]
        rw [(eg_ok h hg x).toV hb, el, eh, Sem.run_bind, h1]
        rfl
      · cases hq
    · obtain ⟨r, h1, h2⟩ := sliceP_ok h (eg_ok h hg x) hlo hhi hq
      refine ⟨r, ?_, h2⟩
      simp only [ho, Option.map_none]
      rw [Sem.run_bind, h1]
      rfl
  · rename_i t parts ho
    split at hq
    · rename_i vs hvs
      obtain ⟨r, h1, h2⟩ := up hq
      have e1 : parts.toList.map (fun x => a.eval x.2) = vs := by
        have := toVs_ok h hg (parts.toList.map (·.2)) vs (by simpa [Function.comp_def] using hvs)
        simpa [Function.comp_def] using this
      have e : (parts.map fun (i, x) => (i, a.eval x)) = ((parts.toList.map (·.1)).zip vs).toArray := by
        rw [← e1]
        apply Array.toList_inj.1
        simp [List.zip_map']
      refine ⟨r, ?_, h2⟩
      simp only [ho]
      rw [e, Sem.run_bind, h1]
      rfl
    · obtain ⟨r, h1, h2⟩ := buildStP_ok (vals := parts.map fun (i, x) => (i, a.eval x)) hq (by simp) (fun i x y hx hy => by
        simp only [Array.toList_map, List.getElem?_map, Option.map_eq_some_iff] at hx hy
        obtain ⟨x1, hx1, rfl⟩ := hx
        obtain ⟨y1, hy1, rfl⟩ := hy
        rw [hx1] at hy1
        cases hy1
        exact ⟨rfl, eg_ok h hg x1.2⟩)
      refine ⟨r, ?_, h2⟩
      simp only [ho]
      rw [Sem.run_bind, h1]
      rfl
  · rename_i f first caps ho
    split at hq
    · rename_i hfirst
      have e1 : first = #[] := by apply Array.toList_inj.1; simpa using hfirst
      subst e1
      simp only [Option.some.injEq] at hq
      subst hq
      refine ⟨.func (.func f) #[] (caps.map a.eval), ?_, ?_⟩
      · simp [ho, Instr.makeFunc]
      · have := PRep.fn (F := F) (w := w) (G := G) (R := s.rg) f (caps.toList.map a.eval) (caps.toList.map (s.eg g)) (by simp) (fun i v c hv hc => by
          simp only [List.getElem?_map, Option.map_eq_some_iff] at hv hc
          obtain ⟨x1, hx1, rfl⟩ := hv
          obtain ⟨y1, hy1, rfl⟩ := hc
          rw [hx1] at hy1
          cases hy1
          exact eg_ok h hg x1)
        have e : caps.map a.eval = ⟨caps.toList.map a.eval⟩ := by apply Array.toList_inj.1; simp
        rw [e]
        exact this
    · cases hq
  · rename_i c ho
    split at hq
    · rename_i hcal
      split at hq
      · rename_i x hargs
        have ea : c.args = #[x] := by apply Array.toList_inj.1; simpa using hargs
        split at hq
        · rename_i u hu
          obtain ⟨r, h1, h2⟩ := up hq
          refine ⟨r, ?_, h2⟩
          have hx := (eg_ok h hg x).toV hu
          simp [ho, resolve, hcal, ea, invoke, builtin, hx, h1]
        · split at hq
          · rename_i e het
            obtain ⟨t0, ht0, het⟩ := Option.bind_eq_some_iff.1 het
            obtain ⟨r, h1, h2⟩ := lenP_ok (ty := o.type) ht0 het (eg_ok h hg x) hq
            refine ⟨r, ?_, h2⟩
            simp [ho, resolve, hcal, ea, invoke, builtin, h1]
          · split at hq
            · rename_i y hmt
              obtain ⟨t0, ht0, hmt⟩ := Option.bind_eq_some_iff.1 hmt
              obtain ⟨r, h1, h2⟩ := lenM_ok (ty := o.type) h ht0 hmt (eg_ok h hg x) hq
              refine ⟨r, ?_, h2⟩
              simp [ho, resolve, hcal, ea, invoke, builtin, h1]
            · cases hq
      · cases hq
    · rename_i hcal
      split at hq
      · rename_i vs hvs
        obtain ⟨r, h1, h2⟩ := up hq
        refine ⟨r, ?_, h2⟩
        have e := toVs_ok h hg _ _ hvs
        have e2 : c.args.map a.eval = vs.toArray := by rw [← e]; apply Array.toList_inj.1; simp
        simp [ho, resolve, hcal, invoke, builtin, e2, h1]
      · cases hq
    · rename_i hcal
      split at hq
      · rename_i vs hvs
        obtain ⟨r, h1, h2⟩ := up hq
        refine ⟨r, ?_, h2⟩
        have e := toVs_ok h hg _ _ hvs
        have e2 : c.args.map a.eval = vs.toArray := by rw [← e]; apply Array.toList_inj.1; simp
        simp [ho, resolve, hcal, invoke, builtin, e2, h1]
      · cases hq
    · cases hq
  · cases hq
end
end Pi

