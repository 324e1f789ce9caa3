/- The text PiEfOk3. -/
import Derived.Test.YtccffeofkhkbcaaGreatDoorPiEfOk2
namespace Pi
open Go

section
variable {Q : Program} {T : Tg} {F : Nat → Prop} {G : Nat → Value} {w : World} {a : Act} {s : S}

/-- Storing a value's cells. -/
theorem run_storeAt {t : TypeId} {k : Nat} (hk : sz Q t = some k) {b o : Nat} {cs : Array Value} {ty : TypeId} (hh : w.heap[b]? = some (.cells cs ty (0, 0))) {v : Value} (hl : v.cells.toList.length = k) (hle : o + k ≤ cs.size) (h1 : ∀ u ∈ v.cells.toList, u.oneCell' = true) :
    (Instr.storeAt t (.pointer (some ⟨b, o, none⟩)) v).run Q w = .ok () (w.setRow b (cs.toList.take o ++ v.cells.toList ++ cs.toList.drop (o + k)).toArray) := by
  have hst := run_storeCells_at Q b o ty v.cells.toList 0 cs w hh (by omega) h1
  simp only [Nat.add_zero, hl] at hst
  have hsz : v.cells.size = k := by simpa using hl
  simp [Instr.storeAt, Instr.sureAddr, storeVar, Sem.run_bind, run_sizeOf hk, hsz, hst]

theorem getD_list (cs : Array Value) (i : Nat) : cs.getD i undef = (cs.toList[i]?).getD undef := by
  simp [Array.getD_eq_getD_getElem?]

theorem setRow_keep (w : World) (b : Nat) (cs : Array Value) (c : Nat) (h : c ≠ b) : (w.setRow b cs).heap[c]? = w.heap[c]? := setRow_other w b c cs h

theorem D.withCells_cells {x : D} {cs : List D} (h : cs.length = x.cells.length) (hc : ∀ c ∈ cs, c.isCell = true) : (x.withCells cs).cells = cs := by
  have one : ∀ (y : D), cs.length = 1 → (cs.headD y).cells = cs := fun y h1 => by
    cases cs with
    | nil => simp at h1
    | cons c r =>
      have : r = [] := List.eq_nil_of_length_eq_zero (by simpa using h1)
      subst this
      have := hc c (by simp)
      cases c <;> simp_all [D.cells, D.isCell]
  cases x <;> first | rfl | exact one _ (by simpa [D.cells] using h)

theorem storeP_ok (h : SRel Q T F G w a s) {t : TypeId} {pa pv : P} {s' : S} (hs : storeP Q s t pa pv = some s') {va v : Value} (ha : PRep F w G s.rg va pa) (hv : PRep F w G s.rg v pv) :
    ∃ w' F' G', (Instr.storeAt t va v).run Q w = .ok () w' ∧ SRel Q T F' G' w' a s' ∧ Ext (Own G s.rg) (Own G' s'.rg) F F' w w' := by
  unfold storeP at hs
  split at hs
  · cases hs
  · rename_i k hk
    split at hs
    · rename_i n ver off
      split at hs
      · rename_i s1 val hown
        split at hs
        · rename_i ty ps ho
          split at hs
          · rename_i hcond
            simp only [Bool.and_eq_true, Nat.ble_eq] at hcond
            obtain ⟨⟨hlen, hle⟩, hall⟩ := hcond
            have hlen : val.cells.length = k := by simpa using hlen
            simp at hs
            subst hs
            obtain ⟨G1, a1, a2, a3, a4⟩ := own1_ok h hown hv
            obtain ⟨e, he, hev, heo⟩ := S.obj_spec ho
            have ha1 := ha.mono (fun _ h => h) (fun _ _ => rfl) a3
            cases ha1 with
            | ref _ _ _ _ hr h1 =>
              obtain ⟨b, hG, rfl⟩ := hr.at he hev (by rw [heo]; rfl)
              have hO := a1.rg n e he
              rw [heo] at hO
              obtain ⟨b', cs, hG', hh, hsz, hcell, hps⟩ := hO
              rw [hG] at hG'
              simp at hG'
              subst hG'
              obtain ⟨c1, c2, hone⟩ := cells_ok a4 hall
              rw [hlen] at c1
              refine ⟨_, F, G1, run_storeAt hk hh c1 (by omega) hone, ?_⟩
              rw [S.setObj_spec he]
              have hblt : b < w.heap.size := (Array.getElem?_eq_some_iff.1 hh).1
              have hnF : ¬ F b := a1.fre n e b he (by rw [heo]; simp [ownB, hG, blockOf])
              have hnew : NewAt G1 s1.rg n ⟨e.ver, e.tag, .box ty (splice ps off val.cells)⟩ (G1 n) := fun e' he' => by rw [he] at he'; cases he'; exact .inr ⟨rfl, fun _ => ⟨by rw [heo]; rfl, rfl⟩⟩
              have hnames := names_upd hnew
              rw [upd_self] at hnames
              have hF : ∀ c, F c → (w.setRow b (cs.toList.take off ++ v.cells.toList ++ cs.toList.drop (off + k)).toArray).heap[c]? = w.heap[c]? := fun c hc => setRow_keep w b _ c (fun e => hnF (e ▸ hc))
              have hbox : off + val.cells.length ≤ ps.length := by omega
              have hval : off + v.cells.toList.length ≤ cs.toList.length := by rw [c1]; simp; omega
              have e2 : cs.toList.drop (off + k) = cs.toList.drop (off + v.cells.toList.length) := by rw [c1]
              obtain ⟨d1, d2⟩ := a1.upd (e1 := ⟨e.ver, e.tag, .box ty (splice ps off val.cells)⟩) (g1 := G1 n) (w' := w.setRow b (cs.toList.take off ++ v.cells.toList ++ cs.toList.drop (off + k)).toArray) hnew
                (fun c hc hno => setRow_keep w b _ c (fun e' => hno ⟨e, he, by rw [e', heo]; simp [ownB, hG, blockOf]⟩)) (by simp) rfl rfl rfl
                (fun c hc => .inr ⟨e, he, by rw [heo]; exact hc⟩)
                (by
                  rw [upd_self]
                  refine ⟨b, _, hG, setRow_heap w b cs _ ty _ hh, ?_, ?_, ?_⟩
                  · simp only [splice, List.size_toArray]
                    rw [e2, splice_len _ _ _ hval, splice_len _ _ _ hbox]
                    simpa using hsz
                  · intro c hc
                    simp only [List.mem_append] at hc
                    rcases hc with (hc | hc) | hc
                    · exact hcell c (List.mem_of_mem_take hc)
                    · exact hone c hc
                    · exact hcell c (List.mem_of_mem_drop hc)
                  · intro i p hp
                    simp only [splice] at hp
                    rw [splice_get _ _ _ _ hbox] at hp
                    rw [getD_list]
                    simp only []
                    rw [e2, splice_get _ _ _ _ hval, c1]
                    rw [hlen] at hp
                    by_cases hi : off ≤ i ∧ i < off + k
                    · rw [if_pos hi] at hp ⊢
                      have hlt : i - off < v.cells.toList.length := by omega
                      rw [List.getElem?_eq_getElem hlt]
                      exact (c2 _ _ p (List.getElem?_eq_getElem hlt) hp).mono (fun _ h => h) hF hnames
                    · rw [if_neg hi] at hp ⊢
                      have := hps i p hp
                      rw [getD_list] at this
                      exact this.mono (fun _ h => h) hF hnames)
                (fun i hi hl => a1.tag n e i he hi (by rw [heo]; rfl))
              rw [upd_self] at d1 d2
              exact ⟨d1, a2.trans d2⟩
          · cases hs
        · cases hs
      · cases hs
    · rename_i n ver i k0 off
      split at hs
      · rename_i s1 x hfz
        split at hs
        · rename_i ty es ho
          split at hs
          · rename_i y k2 hy hk2
            split at hs
            · rename_i hcond
              simp only [Bool.and_eq_true, Nat.ble_eq] at hcond
              obtain ⟨⟨hkk, hxl⟩, hle⟩ := hcond
              have hkk : k0 = k2 := by simpa using hkk
              have hxl : x.cells.length = k := by simpa using hxl
              subst hkk
              simp only [Option.some.injEq] at hs
              subst hs
              obtain ⟨F1, a1, a2, a3, a4, a5⟩ := frzT_ok h hfz hv
              obtain ⟨e, he, hev, heo⟩ := S.obj_spec ho
              have ha1 := ha.mono a4 (fun _ _ => rfl) a3
              cases ha1 with
              | eref _ _ _ _ _ _ h1 hr =>
                obtain ⟨b, N, cap, hG, rfl⟩ := hr.at he hev (by rw [heo]; rfl)
                have hO := a1.rg n e he
                rw [heo] at hO
                rcases hO with ⟨hG', _⟩ | ⟨b', cap', cs, k3, hG', hh, hk3, hk0, hlc, hcm, hsz, _, hE⟩
                · rw [hG] at hG'; cases hG'
                · rw [hk2] at hk3
                  cases hk3
                  rw [hG] at hG'
                  simp at hG'
                  obtain ⟨rfl, rfl, rfl⟩ := hG'
                  obtain ⟨c1, c2, c3⟩ := dcells_ok a5
                  rw [hxl] at c1
                  have hi : i < es.length := (List.getElem?_eq_some_iff.1 hy).1
                  obtain ⟨y1, y2, y3⟩ := hE i y hy
                  have hbnd : i * k0 + k0 ≤ cs.size := by
                    rw [hsz]
                    calc i * k0 + k0 = (i + 1) * k0 := by rw [Nat.add_mul, Nat.one_mul]
                      _ ≤ cap * k0 := Nat.mul_le_mul_right _ (by omega)
                  have hone := dcells_one a5
                  refine ⟨_, F1, G, run_storeAt hk hh c1 (by omega) hone, ?_⟩
                  rw [S.setObj_spec he]
                  have hnF : ¬ F1 b := a1.fre n e b he (by rw [heo]; simp [ownB, hG, blockOf])
                  have hnew : NewAt G s1.rg n ⟨e.ver, e.tag, .arr ty false (es.set i (y.withCells (y.cells.take off ++ x.cells ++ y.cells.drop (off + k))))⟩ (G n) := fun e' he' => by rw [he] at he'; cases he'; exact .inr ⟨rfl, fun _ => ⟨by rw [heo]; rfl, rfl⟩⟩
                  have hF : ∀ c, F1 c → (w.setRow b (cs.toList.take (i * k0 + off) ++ v.cells.toList ++ cs.toList.drop (i * k0 + off + k)).toArray).heap[c]? = w.heap[c]? := fun c hc => setRow_keep w b _ c (fun e => hnF (e ▸ hc))
                  have hyl : off + x.cells.length ≤ y.cells.length := by omega
                  have hval : i * k0 + off + v.cells.toList.length ≤ cs.toList.length := by rw [c1]; simp; omega
                  have e2 : cs.toList.drop (i * k0 + off + k) = cs.toList.drop (i * k0 + off + v.cells.toList.length) := by rw [c1]
                  have e3 : y.cells.drop (off + k) = y.cells.drop (off + x.cells.length) := by rw [hxl]
                  have hnl : (y.cells.take off ++ x.cells ++ y.cells.drop (off + k)).length = y.cells.length := by rw [e3, splice_len _ _ _ hyl]
                  have hnc : ∀ c ∈ y.cells.take off ++ x.cells ++ y.cells.drop (off + k), c.isCell = true := fun c hc => by
                    simp only [List.mem_append] at hc
                    rcases hc with (hc | hc) | hc
                    · exact y2 c (List.mem_of_mem_take hc)
                    · exact c2 c hc
                    · exact y2 c (List.mem_of_mem_drop hc)
                  have hwc := D.withCells_cells (x := y) hnl hnc
                  obtain ⟨d1, d2⟩ := a1.upd (e1 := ⟨e.ver, e.tag, .arr ty false (es.set i (y.withCells (y.cells.take off ++ x.cells ++ y.cells.drop (off + k))))⟩) (g1 := G n)
                    (w' := w.setRow b (cs.toList.take (i * k0 + off) ++ v.cells.toList ++ cs.toList.drop (i * k0 + off + k)).toArray) hnew
                    (fun c hc hno => setRow_keep w b _ c (fun e' => hno ⟨e, he, by rw [e', heo]; simp [ownB, hG, blockOf]⟩)) (by simp) rfl rfl rfl
                    (fun c hc => .inr ⟨e, he, by rw [heo]; exact hc⟩)
                    (by
                      rw [upd_self]
                      refine .inr ⟨b, cap, _, k0, by rw [hG, List.length_set], setRow_heap w b cs _ ty _ hh, hk2, hk0, by rw [List.length_set]; exact hlc, hcm, ?_, (fun h => by cases h), ?_⟩
                      · simp only [List.size_toArray]
                        rw [e2, splice_len _ _ _ hval]
                        simpa using hsz
                      · intro m z hz
                        have hget : ∀ j, (cs.toList.take (i * k0 + off) ++ v.cells.toList ++ cs.toList.drop (i * k0 + off + k)).toArray.getD j undef = if i * k0 + off ≤ j ∧ j < i * k0 + off + k then (v.cells.toList[j - (i * k0 + off)]?).getD undef else cs.getD j undef := fun j => by
                          rw [getD_list]
                          simp only []
                          rw [e2, splice_get _ _ _ _ hval, c1]
                          split
                          · rfl
                          · rw [getD_list]
                        by_cases hm : i = m
                        · subst hm
                          rw [List.getElem?_set_self hi] at hz
                          cases hz
                          rw [hwc]
                          refine ⟨by rw [hnl, y1], hnc, fun j c hc => ?_⟩
                          rw [e3, splice_get _ _ _ _ hyl, hxl] at hc
                          rw [hget]
                          by_cases hj : off ≤ j ∧ j < off + k
                          · rw [if_pos hj] at hc
                            rw [if_pos (by omega)]
                            have hjl : j - off < v.cells.toList.length := by omega
                            have e4 : i * k0 + j - (i * k0 + off) = j - off := by omega
                            rw [e4, List.getElem?_eq_getElem hjl]
                            exact (c3 _ _ c (List.getElem?_eq_getElem hjl) hc).mono (fun _ h => h) hF
                          · rw [if_neg hj] at hc
                            rw [if_neg (by omega)]
                            exact (y3 j c hc).mono (fun _ h => h) hF
                        · rw [List.getElem?_set_ne hm] at hz
                          obtain ⟨z1, z2, z3⟩ := hE m z hz
                          refine ⟨z1, z2, fun j c hc => ?_⟩
                          rw [hget]
                          have hj : j < k0 := by have := (List.getElem?_eq_some_iff.1 hc).1; omega
                          have hne : ¬ (i * k0 + off ≤ m * k0 + j ∧ m * k0 + j < i * k0 + off + k) := by
                            intro hh2
                            rcases Nat.lt_or_gt_of_ne hm with hlt | hgt
                            · have : (i + 1) * k0 ≤ m * k0 := Nat.mul_le_mul_right _ (by omega)
                              rw [Nat.add_mul, Nat.one_mul] at this
                              omega
                            · have : (m + 1) * k0 ≤ i * k0 := Nat.mul_le_mul_right _ (by omega)
                              rw [Nat.add_mul, Nat.one_mul] at this
                              omega
                          rw [if_neg hne]
                          exact (z3 j c hc).mono (fun _ h => h) hF)
                    (fun i hi hl => a1.tag n e i he hi (by rw [heo]; rfl))
                  rw [upd_self] at d1 d2
                  exact ⟨d1, a2.trans d2⟩
            · cases hs
          · cases hs
        · cases hs
      · cases hs
    · cases hs
end
end Pi

