/- The text PiTop. -/
import Derived.Test.YtccffeofkhkbcaaGreatDoorPiCodeOk
import Derived.ProofKit
/- From a reading of the arguments to the run. -/
namespace Pi
open Go

/-- Types of plain data. -/
def plainT (Q : Program) : Nat → TypeId → Bool
  | 0, _ => false
  | n + 1, t => match Q.underlying t with
    | some .bool | some (.int _) | some .string => true
    | some (.slice e) => plainT Q n e && Nat.blt 0 (Q.cellsOf e)
    | some (.struct fs) => tileB Q 0 fs.toList (Q.cellsOf t) && fs.toList.all fun f => plainT Q n f.type
    | _ => false

/-- Cells that a type's value may have. -/
def Fit (Q : Program) : Nat → TypeId → List D → Prop
  | 0, _, _ => False
  | n + 1, t, xs => match Q.underlying t with
    | some .bool => ∃ b, xs = [.bool b]
    | some (.int k) => ∃ m, xs = [.int k m] ∧ (Lit.int k m).wf = true
    | some .string => ∃ l, xs = [.str l] ∧ l.length ≤ maxLen
    | some (.slice e) => ∃ es, xs = [.sl (Q.cellsOf e) es] ∧ es.length ≤ maxLen ∧ ∀ y ∈ es, Fit Q n e y.cells ∧ ((isAg Q e = true ∧ ∃ cs, y = .agg cs) ∨ (isAg Q e = false ∧ y.isCell = true))
    | some (.struct fs) => xs.length = Q.cellsOf t ∧ ∀ f ∈ fs.toList, Fit Q n f.type ((xs.drop f.offset).take (Q.cellsOf f.type))
    | _ => False

section
variable {H : Type} {enc : TypeId × Value → H} {Q : Program} {w : World}

def Reps (w : World) (cs : List Value) (xs : List D) : Prop :=
  xs.length = cs.length ∧ (∀ c ∈ xs, c.isCell = true) ∧ ∀ (i : Nat) (v : Value) (c : D), cs[i]? = some v → xs[i]? = some c → DRep (· < w.heap.size) w v c

theorem reps_fields {n : Nat} (tot : Nat) (cs : List Value) (hcs : cs.length = tot) : ∀ (fs : List Field) (off : Nat), tileB Q off fs tot = true → off ≤ tot →
    (∀ f ∈ fs, ∃ xs, Reps w ((cs.drop f.offset).take (Q.cellsOf f.type)) xs ∧ Fit Q n f.type xs) →
    ∃ xs, Reps w (cs.drop off) xs ∧ ∀ f ∈ fs, off ≤ f.offset ∧ Fit Q n f.type ((xs.drop (f.offset - off)).take (Q.cellsOf f.type))
  | [], off, ht, hle, _ => by
    have : off = tot := Nat.eq_of_beq_eq_true ht
    refine ⟨[], ⟨by simp; omega, by simp, fun i v c h1 h2 => by simp at h2⟩, by simp⟩
  | f :: r, off, ht, hle, hf => by
    simp only [tileB, Bool.and_eq_true] at ht
    have ho : f.offset = off := Nat.eq_of_beq_eq_true ht.1
    have hle2 : off + Q.cellsOf f.type ≤ tot := by
      have : ∀ (fs : List Field) (o : Nat), tileB Q o fs tot = true → o ≤ tot := by
        intro fs
        induction fs with
        | nil => intro o h; exact Nat.le_of_eq (Nat.eq_of_beq_eq_true h)
        | cons g gs ih =>
          intro o h
          simp only [tileB, Bool.and_eq_true] at h
          have := ih _ h.2
          omega
      exact this r _ ht.2
    obtain ⟨xs, ⟨h1, h2, h3⟩, h4⟩ := hf f (by simp)
    obtain ⟨ys, ⟨g1, g2, g3⟩, g4⟩ := reps_fields tot cs hcs r _ ht.2 hle2 (fun g hg => hf g (by simp [hg]))
    rw [ho] at h1 h3
    have hl : xs.length = Q.cellsOf f.type := by rw [h1]; simp; omega
    refine ⟨xs ++ ys, ⟨?_, ?_, ?_⟩, ?_⟩
    · simp [g1, hl]; omega
    · intro c hc
      rcases List.mem_append.1 hc with h | h
      · exact h2 c h
      · exact g2 c h
    · intro i v c hv hc
      by_cases hi : i < xs.length
      · rw [List.getElem?_append_left hi] at hc
        refine h3 i v c ?_ hc
        rw [List.getElem?_take_of_lt (by omega)]
        exact hv
      · rw [List.getElem?_append_right (by omega)] at hc
        refine g3 (i - xs.length) v c ?_ hc
        rw [List.getElem?_drop] at hv ⊢
        rw [← hv]
        congr 1
        omega
    · intro g hg
      rcases List.mem_cons.1 hg with rfl | hg
      · refine ⟨by omega, ?_⟩
        rw [ho]
        simp only [Nat.sub_self, List.drop_zero]
        rw [← hl, List.take_left']
        · exact h4
        · rfl
      · obtain ⟨k1, k2⟩ := g4 g hg
        refine ⟨by omega, ?_⟩
        have e : (xs ++ ys).drop (g.offset - off) = ys.drop (g.offset - (off + Q.cellsOf f.type)) := by
          rw [List.drop_append, List.drop_eq_nil_of_le (by omega), List.nil_append]
          congr 1
          omega
        rw [e]
        exact k2

theorem isAg_of {t : TypeId} : isAg Q t = match Q.underlying t with | some (.struct _) | some (.array _ _) => true | _ => false := rfl

theorem fit_cell {m : Nat} {t : TypeId} {xs : List D} (h : Fit Q m t xs) (ha : isAg Q t = false) : ∃ c, xs = [c] := by
  cases m with
  | zero => exact h.elim
  | succ m =>
    unfold Fit at h
    rw [isAg_of] at ha
    split at h
    · obtain ⟨b, rfl⟩ := h; exact ⟨_, rfl⟩
    · obtain ⟨b, rfl, _⟩ := h; exact ⟨_, rfl⟩
    · obtain ⟨b, rfl, _⟩ := h; exact ⟨_, rfl⟩
    · obtain ⟨es, rfl, _⟩ := h; exact ⟨_, rfl⟩
    · rename_i hu; rw [hu] at ha; simp at ha
    · exact h.elim

theorem trod_rep : ∀ (m : Nat) (n : Nat) (t : TypeId) (cs : List Value) (x : DataW H × List MemPlace), DataW.trod enc Q w 0 (fun _ => true) true n t cs = some x → plainT Q m t = true → ∃ xs, Reps w cs xs ∧ Fit Q m t xs := by
  intro m
  induction m with
  | zero => intro n t cs x _ h; simp [plainT] at h
  | succ m ih =>
    intro n t cs x hx hp
    have one : ∀ (v : Value) (c : D), c.isCell = true → DRep (· < w.heap.size) w v c → Reps w [v] [c] := fun v c hc hr => ⟨rfl, by simpa using hc, fun i v' c' h1 h2 => by
      cases i with
      | zero => simp at h1 h2; subst h1; subst h2; exact hr
      | succ i => simp at h1⟩
    unfold plainT at hp
    split at hp
    · rename_i hu
      obtain ⟨b, rfl, _⟩ := DataW.trod_bool hu hx
      exact ⟨[.bool b], one _ _ rfl (.bool b), by unfold Fit; rw [hu]; exact ⟨b, rfl⟩⟩
    · rename_i k hu
      obtain ⟨b, rfl, _, hw⟩ := DataW.trod_int hu hx
      exact ⟨[.int k b], one _ _ rfl (.int k b), by unfold Fit; rw [hu]; exact ⟨b, rfl, hw⟩⟩
    · rename_i hu
      obtain ⟨b, rfl, _, hw⟩ := DataW.trod_string hu hx
      exact ⟨[.str b.data.toList], one _ _ rfl (.str b.data.toList), by unfold Fit; rw [hu]; exact ⟨_, rfl, hw⟩⟩
    · rename_i e hu
      simp only [Bool.and_eq_true] at hp
      have hk : 0 < Q.cellsOf e := by have := hp.2; simp [Nat.blt] at this; omega
      rcases DataW.trod_slice hu hx with ⟨rfl, _⟩ | ⟨a, len, cap, elems, rest, n', rfl, rfl, _, hb, hlc, hcm, hel, hget, _, _⟩
      · exact ⟨[.sl (Q.cellsOf e) []], one _ _ rfl (.slE none _ 0), by unfold Fit; rw [hu]; exact ⟨[], rfl, by simp, by simp⟩⟩
      · -- the elements, one by one
        have each : ∀ i, i < len → ∃ (cs' : List Value) (xs : List D), w.cells? 0 (a.add (i * Q.cellsOf e)) (Q.cellsOf e) = some cs' ∧ Reps w cs' xs ∧ Fit Q m e xs := fun i hi => by
          have h1 := hget i hi
          have hlt : i < elems.length := by omega
          rw [List.getElem?_eq_getElem hlt, Option.bind_eq_some_iff] at h1
          obtain ⟨cs', h2, h3⟩ := h1
          obtain ⟨xs, h4, h5⟩ := ih _ _ _ _ h3 hp.1
          exact ⟨cs', xs, h2, h4, h5⟩
        have mk : ∀ l, l ≤ len → ∃ es : List D, es.length = l ∧ ∀ i, i < l → ∃ (cs' : List Value) (y : D), es[i]? = some y ∧ w.cells? 0 (a.add (i * Q.cellsOf e)) (Q.cellsOf e) = some cs' ∧ Reps w cs' y.cells ∧ Fit Q m e y.cells ∧
            ((isAg Q e = true ∧ ∃ cs, y = .agg cs) ∨ (isAg Q e = false ∧ y.isCell = true)) := by
          intro l
          induction l with
          | zero => intro _; exact ⟨[], rfl, fun i hi => by omega⟩
          | succ l ihl =>
            intro hl
            obtain ⟨es, h1, h2⟩ := ihl (by omega)
            obtain ⟨cs', xs, h3, h4, h5⟩ := each l (by omega)
            have hy : ∃ y : D, y.cells = xs ∧ ((isAg Q e = true ∧ ∃ cs, y = .agg cs) ∨ (isAg Q e = false ∧ y.isCell = true)) := by
              cases ha : isAg Q e with
              | true => exact ⟨.agg xs, rfl, .inl ⟨rfl, _, rfl⟩⟩
              | false =>
                obtain ⟨c, rfl⟩ := fit_cell h5 ha
                have hc := h4.2.1 c (by simp)
                refine ⟨c, ?_, .inr ⟨rfl, hc⟩⟩
                cases c <;> first | rfl | simp [D.isCell] at hc
            obtain ⟨y, hy1, hy2⟩ := hy
            refine ⟨es ++ [y], by simp [h1], fun i hi => ?_⟩
            by_cases hil : i < l
            · obtain ⟨cs'', y', k1, k2⟩ := h2 i hil
              exact ⟨cs'', y', by rw [List.getElem?_append_left (by omega)]; exact k1, k2⟩
            · have e1 : i = l := by omega
              subst e1
              exact ⟨cs', y, by rw [List.getElem?_append_right (by omega)]; simp [h1], h3, by rw [hy1]; exact h4, by rw [hy1]; exact h5, hy2⟩
        obtain ⟨es, hes, hall⟩ := mk len (Nat.le_refl _)
        have hfit : Fit Q (m + 1) t [.sl (Q.cellsOf e) es] := by
          unfold Fit
          rw [hu]
          refine ⟨es, rfl, by omega, fun y hy => ?_⟩
          obtain ⟨i, hi, rfl⟩ := List.getElem_of_mem hy
          obtain ⟨cs', y', k1, _, _, k4, k5⟩ := hall i (by omega)
          rw [List.getElem?_eq_getElem hi] at k1
          cases k1
          exact ⟨k4, k5⟩
        refine ⟨[.sl (Q.cellsOf e) es], one _ _ rfl ?_, hfit⟩
        by_cases h0 : len = 0
        · subst h0
          have : es = [] := List.eq_nil_of_length_eq_zero hes
          subst this
          exact .slE _ _ _
        · -- a plain address
          obtain ⟨cs0, y0, _, hc0, hr0, hf0, _⟩ := hall 0 (by omega)
          obtain ⟨_, hlen0, hcell0⟩ := World.cells?_some hc0
          have hblk : a.block < w.heap.size := by
            have := World.cells?_block hc0 hk
            simpa [Addr.add] using this
          have hspot : a.spot = none := by
            have h1 := hcell0 0 hk
            have h2 : w.cell? ((a.add (0 * Q.cellsOf e)).add 0) = some cs0[0] := by rw [h1]; simp [hlen0, hk]
            have := World.cell?_spot h2
            simpa [Addr.add] using this
          obtain ⟨b, off, spot⟩ := a
          simp only at hspot hblk
          subst hspot
          have hsz : ∀ i, i < es.length → ∀ x, es[i]? = some x → x.cells.length = Q.cellsOf e := fun i hi x hx => by
            obtain ⟨cs', y', k1, k2, k3, _, _⟩ := hall i (by omega)
            rw [hx] at k1
            cases k1
            rw [k3.1]
            exact (World.cells?_some k2).2.1
          have hnum : ∀ q, q < es.length * Q.cellsOf e → ∃ cs' y, es[q / Q.cellsOf e]? = some y ∧ w.cells? 0 ((⟨b, off, none⟩ : Addr).add (q / Q.cellsOf e * Q.cellsOf e)) (Q.cellsOf e) = some cs' ∧ Reps w cs' y.cells ∧ w.cell? ⟨b, off + q, none⟩ = cs'[q % Q.cellsOf e]? ∧ cs'.length = Q.cellsOf e := fun q hq => by
            have hdiv : q / Q.cellsOf e < es.length := by rw [Nat.div_lt_iff_lt_mul hk]; exact hq
            obtain ⟨cs', y', k1, k2, k3, _, _⟩ := hall (q / Q.cellsOf e) (by omega)
            obtain ⟨_, hl2, hc2⟩ := World.cells?_some k2
            refine ⟨cs', y', k1, k2, k3, ?_, hl2⟩
            have := hc2 (q % Q.cellsOf e) (Nat.mod_lt _ hk)
            rw [← this]
            have e := Nat.div_add_mod q (Q.cellsOf e)
            rw [Nat.mul_comm] at e
            rw [addr_add, addr_add, Nat.add_assoc, e]
          rw [← hes]
          refine .slN b off (Q.cellsOf e) cap es (fun q => (w.cell? ⟨b, off + q, none⟩).getD undef) (by omega) hblk (fun x hx => ?_) (fun x hx => ?_) (fun q hq => ?_) (fun i j x c hx hc => ?_)
          · obtain ⟨i, hi, rfl⟩ := List.getElem_of_mem hx
            exact hsz i hi _ (List.getElem?_eq_getElem hi)
          · obtain ⟨i, hi, rfl⟩ := List.getElem_of_mem hx
            obtain ⟨cs', y', k1, _, k3, _, _⟩ := hall i (by omega)
            rw [List.getElem?_eq_getElem hi] at k1
            cases k1
            exact k3.2.1
          · obtain ⟨cs', y, _, _, _, k4, k5⟩ := hnum q hq
            have hm := Nat.mod_lt q hk
            rw [k4]
            simp [k5, hm]
          · have hi : i < es.length := (List.getElem?_eq_some_iff.1 hx).1
            have hj : j < Q.cellsOf e := by
              have h1 := hsz i hi x hx
              have h2 := (List.getElem?_eq_some_iff.1 hc).1
              omega
            have hq : i * Q.cellsOf e + j < es.length * Q.cellsOf e := by
              calc i * Q.cellsOf e + j < i * Q.cellsOf e + Q.cellsOf e := by omega
                _ = (i + 1) * Q.cellsOf e := by rw [Nat.add_mul, Nat.one_mul]
                _ ≤ es.length * Q.cellsOf e := Nat.mul_le_mul_right _ hi
            obtain ⟨cs', y, k1, _, k3, k4, k5⟩ := hnum _ hq
            have e1 : (i * Q.cellsOf e + j) / Q.cellsOf e = i := by
              rw [Nat.mul_comm, Nat.mul_add_div hk, Nat.div_eq_of_lt hj, Nat.add_zero]
            have e2 : (i * Q.cellsOf e + j) % Q.cellsOf e = j := by
              rw [Nat.mul_comm, Nat.mul_add_mod, Nat.mod_eq_of_lt hj]
            rw [e1, hx] at k1
            cases k1
            rw [e2] at k4
            show DRep _ w ((w.cell? ⟨b, off + (i * Q.cellsOf e + j), none⟩).getD undef) c
            rw [k4]
            have hj' : j < cs'.length := by omega
            refine k3.2.2 j _ c ?_ hc
            simp [hj']
    · rename_i fs hu
      simp only [Bool.and_eq_true] at hp
      obtain ⟨xs, n', rfl, rfl, hl, hn, hf⟩ := DataW.trod_struct hu hx
      have key : ∀ f ∈ fs.toList, ∃ ys, Reps w ((cs.drop f.offset).take (Q.cellsOf f.type)) ys ∧ Fit Q m f.type ys := fun f hf' => by
        obtain ⟨i, hi, rfl⟩ := List.getElem_of_mem hf'
        have hi' : i < fs.size := by simpa using hi
        have h1 := hf i fs[i] (Array.getElem?_eq_getElem hi')
        have hlt : i < xs.length := by omega
        rw [List.getElem?_eq_getElem hlt] at h1
        have hpl := List.all_eq_true.1 hp.2 _ hf'
        simp only [Array.getElem_toList] at hpl ⊢
        exact ih _ _ _ _ h1 hpl
      obtain ⟨ys, h1, h2⟩ := reps_fields (Q := Q) (n := m) (Q.cellsOf t) cs hl fs.toList 0 hp.1 (Nat.zero_le _) key
      simp only [List.drop_zero] at h1
      refine ⟨ys, h1, ?_⟩
      unfold Fit
      rw [hu]
      exact ⟨by rw [h1.1, hl], fun f hf' => by simpa using (h2 f hf').2⟩
    · cases hp
end
end Pi

