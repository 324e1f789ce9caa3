/- The text PiLoc2. -/
import Derived.Test.YtccffeofkhkbcaaGreatDoorPiLoc
namespace Pi
open Go

theorem ef_loc (Q : Program) {s s2 : S} {o : Oper} (h : Alike s s2 o.op.operands.toList) (g : Option (Nat × Bool)) : ∃ c, ef Q s o g = fin s o.dst c ∧ ef Q s2 o g = fin s2 o.dst c := by
  have hs := h.wt
  unfold ef
  split
  · rename_i t ho
    split
    · rename_i z hz; exact loc2 h (newBox_loc Q s o.dst t _)
    · exact ⟨none, rfl, rfl⟩
  · rename_i t x ho
    rw [h.eg (x := x) (by simp [ho, Op.operands])]
    split
    · exact loc2 h (newBox_loc Q s o.dst t _)
    · exact ⟨none, rfl, rfl⟩
  · rename_i t ad x ho
    rw [h.eg (x := ad) (by simp [ho, Op.operands]), h.eg (x := x) (by simp [ho, Op.operands])]
    refine loc2 (f := fun s' => match storeP Q s' t (s.eg g ad) (s.eg g x) with | some s1 => s1.put o.dst .bad | none => none) h ?_
    cases h1 : storeP Q s t (s.eg g ad) (s.eg g x) with
    | none => exact ⟨none, fun m => by simp only [storeP_wt, h1]; rfl⟩
    | some s1 => exact ⟨some (s1.rg, .bad), fun m => by simp only [storeP_wt, h1]; exact fin_of m (storeP_n h1)⟩
  · rename_i t1 t2 x ho
    rw [h.eg (x := x) (by simp [ho, Op.operands])]
    refine loc2 (f := fun s' => match Q.underlying t1, Q.underlying t2 with
      | some (.slice e), some .string => match Q.underlying e, srcP Q s' t1 1 (s.eg g x) with
        | some (.int .u8), some ys => match bytesD ys with | some l => s'.put o.dst (.d (.str l)) | none => none
        | _, _ => none
      | _, _ => none) h ?_
    split
    · rename_i e h1 h2
      simp only [Loc, srcP_wt]
      split
      · split
        · exact ⟨some (s.rg, _), fun m => rfl⟩
        · exact ⟨none, fun m => rfl⟩
      · exact ⟨none, fun m => rfl⟩
    · exact ⟨none, fun m => rfl⟩
  · rename_i c ho
    have hm : ∀ y ∈ c.args.toList, y ∈ o.op.operands.toList := fun y hy => by
      simp only [ho, Op.operands, Call.operands]
      simp at hy
      simp [hy]
    split
    · split
      · rename_i x y t t2 hargs htys
        rw [h.eg (x := x) (hm x (by rw [hargs]; simp)), h.eg (x := y) (hm y (by rw [hargs]; simp))]
        exact loc2 h (appendP_loc Q s o.dst t t2 _ _)
      · exact ⟨none, rfl, rfl⟩
    · split
      · rename_i x y t t2 hargs htys
        rw [h.eg (x := x) (hm x (by rw [hargs]; simp)), h.eg (x := y) (hm y (by rw [hargs]; simp))]
        exact loc2 h (copyP_loc Q s o.dst t t2 _ _)
      · exact ⟨none, rfl, rfl⟩
    · exact ⟨none, rfl, rfl⟩
  · rename_i t x y ho
    rw [h.eg (x := x) (by simp [ho, Op.operands]), h.eg (x := y) (by simp [ho, Op.operands])]
    exact loc2 h (makeP_loc Q s o.dst t _ _)
  · rename_i t ho
    exact loc2 h (makeMapP_loc Q s o.dst t)
  · rename_i t m k x ho
    rw [h.eg (x := m) (by simp [ho, Op.operands]), h.eg (x := k) (by simp [ho, Op.operands]), h.eg (x := x) (by simp [ho, Op.operands])]
    exact loc2 h (mapUpdP_loc Q s o.dst t _ _ _)
  · rename_i t m k x ho
    rw [h.eg (x := m) (by simp [ho, Op.operands]), h.eg (x := k) (by simp [ho, Op.operands]), h.eg (x := x) (by simp [ho, Op.operands])]
    exact loc2 h (mapUpdP_loc Q s o.dst t _ _ _)
  · rename_i t x ho
    rw [h.eg (x := x) (by simp [ho, Op.operands])]
    exact loc2 h (rangeP_loc Q s o.dst t _)
  · rename_i t m k ho
    rw [h.eg (x := m) (by simp [ho, Op.operands]), h.eg (x := k) (by simp [ho, Op.operands])]
    exact loc2 h (mapEntP_loc Q s o.dst t _ _)
  · rename_i t m st x ho
    rw [h.eg (x := m) (by simp [ho, Op.operands]), h.eg (x := st) (by simp [ho, Op.operands]), h.eg (x := x) (by simp [ho, Op.operands])]
    exact loc2 h (entStP_loc Q s o.dst _ _ _)
  · rename_i t len parts ho
    have e : parts.toList.map (fun x => (x.1, s2.eg g x.2)) = parts.toList.map (fun x => (x.1, s.eg g x.2)) := List.map_congr_left fun x hx => by
      have := h.eg (x := x.2) (by
        simp only [ho, Op.operands]
        exact List.mem_map_of_mem (f := fun x : Nat × Operand => x.2) hx) g
      rw [this]
    rw [e]
    exact loc2 h (buildP_loc Q s o.dst t len _)
  · exact ⟨none, rfl, rfl⟩

theorem exec_loc (Q : Program) {s s2 : S} {o : Oper} (h : Alike s s2 o.op.operands.toList) (g : Option (Nat × Bool)) : ∃ c, exec Q s o g = fin s o.dst c ∧ exec Q s2 o g = fin s2 o.dst c := by
  unfold exec
  split
  · rename_i e he
    refine loc2 (f := fun s' => match s'.new (site o.dst) (.arr e false []) with | some (s1, v) => s1.put o.dst (.sl (site o.dst) v 0) | none => none) h ?_
    cases h1 : s.new (site o.dst) (.arr e false []) with
    | none => exact ⟨none, fun m => by simp only [new_wt, h1]; rfl⟩
    | some r => exact ⟨some (r.1.rg, _), fun m => by simp only [new_wt, h1]; exact fin_of m (new_n h1)⟩
  · rw [pv_alike h g]
    split
    · rename_i p hp
      exact ⟨some (s.rg, p), rfl, by unfold fin; rw [← h.rg]⟩
    · exact ef_loc Q h g

theorem callOp_loc (Q : Program) (cf : CF) (s : S) (dst : Option Nat) (f : P) (args : List P) : Loc (fun s => callOp Q cf s dst f args) s dst := by
  unfold callOp
  cases f with
  | fn fid caps =>
    cases h1 : handArgs Q s fid (args ++ caps) with
    | none => exact ⟨none, fun m => by simp only [handArgs_wt, h1]; rfl⟩
    | some r =>
      obtain ⟨s1, qs⟩ := r
      have hn := handArgs_n _ _ _ _ h1
      have e0 : ∀ m, (s1.wt m).rg = s1.rg := fun _ => rfl
      unfold Loc
      simp only [handArgs_wt, h1, Option.map_some, e0]
      split
      · split
        · exact ⟨none, fun m => rfl⟩
        · split
          · exact ⟨none, fun m => rfl⟩
          · split
            · split
              · exact ⟨none, fun m => rfl⟩
              · split
                · exact ⟨none, fun m => rfl⟩
                · rename_i R3 h3
                  exact ⟨some (R3, _), fun m => by unfold fin S.wt; rw [hn]⟩
            · exact ⟨none, fun m => rfl⟩
      · exact ⟨none, fun m => rfl⟩
  | _ => exact ⟨none, fun m => rfl⟩

theorem actOp_loc (Q : Program) (cf : CF) {s s2 : S} {o : Oper} (h : Alike s s2 o.op.operands.toList) (g : Option (Nat × Bool)) : ∃ c, actOp Q cf s o g = fin s o.dst c ∧ actOp Q cf s2 o g = fin s2 o.dst c := by
  unfold actOp
  split
  · rename_i f xs hc
    have hf : f ∈ o.op.operands.toList ∧ ∀ y ∈ xs, y ∈ o.op.operands.toList := by
      unfold isCall at hc
      split at hc
      · rename_i c ho
        split at hc
        · rename_i f' hcal
          simp at hc
          obtain ⟨rfl, rfl⟩ := hc
          simp [ho, Op.operands, Call.operands, hcal]
          intro y hy
          exact .inr hy
        · cases hc
      · cases hc
    rw [h.eg hf.1, h.egs hf.2]
    exact loc2 h (callOp_loc Q cf s o.dst _ _)
  · exact exec_loc Q h g

/-! ### what is left alone -/
def inW (W : List Nat × Nat × Nat) (n : Nat) : Prop := n ∈ W.1 ∨ (W.2.1 ≤ n ∧ n < W.2.2)

theorem new_frame {s s' : S} {n v : Nat} {o : Obj} (h : s.new n o = some (s', v)) {m : Nat} (hm : m ≠ n) : lk s'.rg m = lk s.rg m := by
  obtain ⟨rfl, _⟩ := S.new_spec h
  exact lk_ins_ne _ _ (Ne.symm hm)
theorem setObj_frame (s : S) (n : Nat) (o : Obj) {m : Nat} (hm : m ≠ n) : lk (s.setObj n o).rg m = lk s.rg m := by
  unfold S.setObj
  split
  · exact lk_ins_ne _ _ (Ne.symm hm)
  · rfl
theorem put_frame {s s' : S} {dst : Option Nat} {p : P} (h : s.put dst p = some s') : s'.rg = s.rg := by
  unfold S.put at h
  split at h
  · simp at h; rw [h]
  · split at h
    · simp at h; rw [← h]
    · cases h
theorem own1_frame {s : S} {n : Nat} {p q : P} {t : Option TypeId} {s' : S} (h : own1 s n p t = some (s', q)) {m : Nat} (hm : m ≠ n) : lk s'.rg m = lk s.rg m := by
  unfold own1 at h
  split at h
  · split at h
    · rename_i hn; simp at h; rw [← h.1]; exact new_frame hn hm
    · cases h
  · simp at h; rw [← h.1]
theorem ownCells_frame : ∀ (ps : List P) (ts : List (Option TypeId)) (n : Nat) (s s' : S) (qs : List P), ownCells s n ps ts = some (s', qs) → ∀ m, (m < n ∨ n + ps.length ≤ m) → lk s'.rg m = lk s.rg m
  | [], _, _, s, s', qs, h, m, hm => by simp [ownCells] at h; rw [← h.1]
  | p :: ps, ts, n, s, s', qs, h, m, hm => by
    simp only [ownCells] at h
    simp only [List.length_cons] at hm
    split at h
    · cases h
    · rename_i s1 q h1
      split at h
      · rename_i s2 qs2 h2
        simp at h
        rw [← h.1, ownCells_frame ps _ _ _ _ _ h2 m (by omega), own1_frame h1 (by omega)]
      · cases h
theorem frz1_frame {Q : Program} {s s' : S} {p : P} {x : D} (h : frz1 Q s p = some (s', x)) {m : Nat} (hm : m ∉ slNames [p]) : lk s'.rg m = lk s.rg m := by
  unfold frz1 at h
  split at h
  · simp at h; rw [← h.1]
  · split at h
    · split at h
      · simp at h; rw [← h.1]; exact setObj_frame _ _ _ (by simpa [slNames] using hm)
      · cases h
    · cases h
  · cases h
theorem slNames_cons (p : P) (ps : List P) : slNames (p :: ps) = slNames [p] ++ slNames ps := by cases p <;> simp [slNames]
theorem frzs_frame {Q : Program} : ∀ (ps : List P) (s s' : S) (xs : List D), frzs Q s ps = some (s', xs) → ∀ m, m ∉ slNames ps → lk s'.rg m = lk s.rg m
  | [], s, s', xs, h, m, hm => by simp [frzs] at h; rw [← h.1]
  | p :: ps, s, s', xs, h, m, hm => by
    rw [slNames_cons] at hm
    simp only [List.mem_append, not_or] at hm
    simp only [frzs] at h
    split at h
    · cases h
    · rename_i s1 x h1
      split at h
      · rename_i s2 xs2 h2; simp at h; rw [← h.1, frzs_frame ps _ _ _ h2 m hm.2, frz1_frame h1 hm.1]
      · cases h
theorem frz_frame {Q : Program} {s s' : S} {p : P} {x : D} (h : frz Q s p = some (s', x)) {m : Nat} (hm : m ∉ slNames p.cells) : lk s'.rg m = lk s.rg m := by
  unfold frz at h
  split at h
  · split at h
    · rename_i h1; simp at h; rw [← h.1]; exact frzs_frame _ _ _ _ h1 m hm
    · cases h
  · cases p with
    | sl n v len => exact frz1_frame h hm
    | d x => simp [frz1] at h; rw [← h.1]
    | _ => simp [frz1] at h
theorem slNames_append : ∀ (a b : List P), slNames (a ++ b) = slNames a ++ slNames b
  | [], _ => rfl
  | p :: a, b => by rw [List.cons_append, slNames_cons, slNames_append a b, slNames_cons p a, List.append_assoc]
theorem frzT_frame {Q : Program} {s s' : S} {t : TypeId} {p : P} {x : D} (h : frzT Q s t p = some (s', x)) {m : Nat} (hm : m ∉ slNames p.cells) : lk s'.rg m = lk s.rg m := by
  obtain ⟨y, h1, _⟩ := frzT_spec h
  exact frz_frame h1 hm
theorem frzAgg_frame {Q : Program} {s s' : S} {t : TypeId} {p q : P} (h : frzAgg Q s t p = some (s', q)) {m : Nat} (hm : m ∉ slNames p.cells) : lk s'.rg m = lk s.rg m := by
  unfold frzAgg at h
  split at h
  · split at h
    · split at h
      · rename_i hf; simp at h; rw [← h.1]; exact frzT_frame hf hm
      · cases h
    · simp at h; rw [← h.1]
  · split at h
    · rw [D.force_eq] at h; simp at h; rw [← h.1]
    · simp at h; rw [← h.1]
  · simp at h; rw [← h.1]
theorem frzArgs_frame {Q : Program} : ∀ (ps : List P) (ts : List TypeId) (s s' : S) (xs : List P), frzArgs Q s ts ps = some (s', xs) → ∀ m, m ∉ slNames (ps.flatMap P.cells) → lk s'.rg m = lk s.rg m
  | [], ts, s, s', xs, h, m, hm => by simp [frzArgs] at h; rw [← h.1]
  | p :: ps, ts, s, s', xs, h, m, hm => by
    rw [List.flatMap_cons, slNames_append] at hm
    simp only [List.mem_append, not_or] at hm
    simp only [frzArgs] at h
    split at h
    · cases h
    · rename_i s1 x h1
      have e1 : lk s1.rg m = lk s.rg m := by
        unfold frzArg at h1
        split at h1
        · split at h1
          · rename_i hf; simp at h1; rw [← h1.1]; exact frz1_frame hf hm.1
          · cases h1
        · exact frzAgg_frame h1 hm.1
      split at h
      · rename_i s2 xs2 h2; simp at h; rw [← h.1, frzArgs_frame ps _ _ _ _ h2 m hm.2, e1]
      · cases h

theorem handArgs_frame {Q : Program} {f : FuncId} (ps : List P) (s s' : S) (xs : List P) (h : handArgs Q s f ps = some (s', xs)) (m : Nat) (hm : m ∉ slNames (ps.flatMap P.cells)) : lk s'.rg m = lk s.rg m := by
  unfold handArgs at h
  split at h
  · simp only [Option.some.injEq, Prod.mk.injEq] at h; rw [h.1]
  · exact frzArgs_frame ps _ s s' xs h m hm

def storeKeeps (m : Nat) (q : P) : P → Prop
  | .ref n _ off => m ≠ n ∧ m ≠ 2000000 + n * 1000 + off
  | .eref n _ _ _ _ => m ≠ n ∧ m ∉ slNames q.cells
  | _ => True
def appendKeeps (m : Nat) (dst : Option Nat) : P → Prop
  | .sl n _ _ => m ≠ n
  | _ => m ≠ site dst

theorem storeP_frame {Q : Program} {s s' : S} {t : TypeId} {p q : P} (h : storeP Q s t p q = some s') {m : Nat} (hm : storeKeeps m q p) : lk s'.rg m = lk s.rg m := by
  unfold storeP at h
  split at h
  · cases h
  · split at h
    · split at h
      · rename_i h1
        split at h
        · split at h
          · simp at h; rw [← h, setObj_frame _ _ _ hm.1, own1_frame h1 hm.2]
          · cases h
        · cases h
      · cases h
    · split at h
      · rename_i h1
        split at h
        · split at h
          · split at h
            · simp only [Option.some.injEq] at h; rw [← h, setObj_frame _ _ _ hm.1, frzT_frame h1 hm.2]
            · cases h
          · cases h
        · cases h
      · cases h
    · cases h

theorem newBox_frame {Q : Program} {s s' : S} {dst : Option Nat} {t : TypeId} {ps : List P} (h : newBox Q s dst t ps = some s') {m : Nat} (h1 : m ≠ site dst) (h2 : m < site dst * 1000 ∨ site dst * 1000 + ps.length ≤ m) : lk s'.rg m = lk s.rg m := by
  unfold newBox at h
  split at h
  · cases h
  · rename_i s1 qs g1
    split at h
    · rename_i s2 v g2
      rw [put_frame h, new_frame g2 h1, ownCells_frame _ _ _ _ _ _ g1 m h2]
    · cases h

theorem appendP_frame {Q : Program} {s s' : S} {dst : Option Nat} {t t2 : TypeId} {p q : P} (h : appendP Q s dst t t2 p q = some s') {m : Nat} (hm : appendKeeps m dst p) : lk s'.rg m = lk s.rg m := by
  unfold appendP at h
  split at h
  · cases h
  · split at h
    · split at h
      · split at h
        · split at h
          · split at h
            · split at h
              · split at h
                · rw [put_frame h]; exact lk_ins_ne _ _ (Ne.symm hm)
                · cases h
              · cases h
            · cases h
          · split at h
            · split at h
              · rename_i g2; rw [put_frame h, new_frame g2 hm]
              · cases h
            · cases h
          · cases h
        · cases h
      · cases h
    · cases h

theorem makeP_frame {Q : Program} {s s' : S} {dst : Option Nat} {t : TypeId} {p q : P} (h : makeP Q s dst t p q = some s') {m : Nat} (hm : m ≠ site dst) : lk s'.rg m = lk s.rg m := by
  unfold makeP at h
  split at h
  · split at h
    · split at h
      · split at h
        · rename_i hn
          rw [put_frame h, new_frame hn hm]
        · cases h
      · cases h
    · cases h
  · cases h

theorem makeMapP_frame {Q : Program} {s s' : S} {dst : Option Nat} {t : TypeId} (h : makeMapP Q s dst t = some s') {m : Nat} (hm : m ≠ site dst) : lk s'.rg m = lk s.rg m := by
  unfold makeMapP at h
  split at h
  · split at h
    · rename_i hn
      rw [put_frame h, new_frame hn hm]
    · cases h
  · cases h

def mapKeeps (m : Nat) : P → Prop
  | .mp n _ => m ≠ n
  | _ => True

theorem mapUpdP_frame {Q : Program} {s s' : S} {dst : Option Nat} {t : TypeId} {p k x : P} (h : mapUpdP Q s dst t p k x = some s') {m : Nat} (hm : mapKeeps m p) (hx : m ∉ slNames x.cells) : lk s'.rg m = lk s.rg m := by
  unfold mapUpdP at h
  split at h
  · split at h
    · rename_i hf
      split at h
      · split at h
        · rw [put_frame h, setObj_frame _ _ _ hm, frzT_frame hf hx]
        · cases h
      · cases h
    · cases h
  · cases h

theorem mapEntP_frame {Q : Program} {s s' : S} {dst : Option Nat} {t : TypeId} {p k : P} (h : mapEntP Q s dst t p k = some s') {m : Nat} (hd : m ≠ site dst) (hm : mapKeeps m p) : lk s'.rg m = lk s.rg m := by
  unfold mapEntP at h
  split at h
  · split at h
    · split at h
      · split at h
        · split at h
          · rename_i hn
            rw [put_frame h, setObj_frame _ _ _ hm, new_frame hn hd]
          · cases h
        · cases h
      · cases h
    · cases h
  · cases h

theorem entStP_frame {Q : Program} {s s' : S} {dst : Option Nat} {p st x : P} (h : entStP Q s dst p st x = some s') {m : Nat} (hm : mapKeeps m p) (hx : m ∉ slNames x.cells) : lk s'.rg m = lk s.rg m := by
  unfold entStP at h
  split at h
  · split at h
    · rename_i hf
      split at h
      · split at h
        · rw [put_frame h, setObj_frame _ _ _ hm, frz_frame hf hx]
        · cases h
      · cases h
    · cases h
  · cases h

theorem rangeP_frame {Q : Program} {s s' : S} {dst : Option Nat} {t : TypeId} {p : P} (h : rangeP Q s dst t p = some s') {m : Nat} (hd : m ≠ site dst) (hm : mapKeeps m p) : lk s'.rg m = lk s.rg m := by
  unfold rangeP at h
  split at h
  · split at h
    · split at h
      · split at h
        · rename_i hn
          rw [put_frame h, new_frame hn hd, setObj_frame _ _ _ hm]
        · cases h
      · cases h
    · cases h
  · split at h
    · rename_i hn
      rw [put_frame h, new_frame hn hd]
    · cases h
  · cases h

theorem buildEls_frame {Q : Program} {t : TypeId} {k : Nat} : ∀ (ps : List (Nat × P)) (s s' : S) (es es' : List D), buildEls Q t k s es ps = some (s', es') → ∀ m, (∀ x ∈ ps, m ∉ slNames x.2.cells) → lk s'.rg m = lk s.rg m
  | [], s, s', es, es', h, m, _ => by simp [buildEls] at h; rw [h.1]
  | (i, p) :: r, s, s', es, es', h, m, hm => by
    simp only [buildEls] at h
    split at h
    · rename_i s1 x h1
      split at h
      · rw [buildEls_frame r s1 s' _ es' h m (fun x hx => hm x (by simp [hx])), frzT_frame h1 (hm (i, p) (by simp))]
      · cases h
    · cases h

theorem buildP_frame {Q : Program} {s s' : S} {dst : Option Nat} {t : TypeId} {len : Nat} {ps : List (Nat × P)} (h : buildP Q s dst t len ps = some s') {m : Nat} (hm : m ≠ site dst) (hp : ∀ x ∈ ps, m ∉ slNames x.2.cells) : lk s'.rg m = lk s.rg m := by
  unfold buildP at h
  split at h
  · split at h
    · split at h
      · split at h
        · rename_i hb
          split at h
          · rename_i hn
            rw [put_frame h, new_frame hn hm, buildEls_frame _ _ _ _ _ hb m hp]
          · cases h
        · cases h
      · cases h
    · cases h
  · cases h

def copyKeeps (m : Nat) : P → Prop
  | .sl n _ _ => m ≠ n
  | _ => True

theorem copyP_frame {Q : Program} {s s' : S} {dst : Option Nat} {t t2 : TypeId} {p q : P} (h : copyP Q s dst t t2 p q = some s') {m : Nat} (hm : copyKeeps m p) : lk s'.rg m = lk s.rg m := by
  unfold copyP at h
  split at h
  · split at h
    · split at h
      · split at h
        · rw [put_frame h, setObj_frame _ _ _ hm]
        · cases h
      · cases h
    · cases h
  · cases h

theorem putBack_frame (R1 : List (Nat × En)) (σ : Nat → Nat → Option (Nat × Nat)) : ∀ (ns : List Nat) (i0 : Nat) (R R2 : List (Nat × En)), putBack R1 σ i0 ns R = some R2 → ∀ m, m ∉ ns → lk R2 m = lk R m
  | [], i0, R, R2, h, m, hm => by simp [putBack] at h; rw [h]
  | n :: ns, i0, R, R2, h, m, hm => by
    simp only [List.mem_cons, not_or] at hm
    simp only [putBack] at h
    split at h
    · cases h
    · rw [putBack_frame R1 σ ns _ _ _ h m hm.2, lk_ins_ne _ _ (Ne.symm hm.1)]

theorem callOp_frame {Q : Program} {cf : CF} {s s' : S} {dst : Option Nat} {fid : FuncId} {caps args : List P} (h : callOp Q cf s dst (.fn fid caps) args = some s') {s1 : S} {qs : List P} (hf : handArgs Q s fid (args ++ caps) = some (s1, qs)) {m : Nat}
    (h1 : m ∉ slNames ((args ++ caps).flatMap P.cells)) (h2 : m ∉ reach s1.rg 1000 qs []) (h3 : m < site dst * 1000 ∨ site dst * 1000 + 1000 ≤ m) : lk s'.rg m = lk s.rg m := by
  unfold callOp at h
  simp only [hf] at h
  split at h
  · split at h
    · cases h
    · split at h
      · cases h
      · split at h
        · rename_i hmd
          have hle := (Bool.and_eq_true _ _ ▸ hmd : _ ∧ _).2
          simp only [Nat.ble_eq] at hle
          split at h
          · cases h
          · rename_i R2 hb
            split at h
            · cases h
            · rename_i R3 hn
              rw [put_frame h]
              simp only []
              rw [(putNew_lk _ _ _ _ _ _ hn m).2 (by omega), putBack_frame _ _ _ _ _ _ hb m h2, handArgs_frame _ _ _ _ hf m h1]
        · cases h
  · cases h

theorem actOp_frame {Q : Program} {cf : CF} {s s' : S} {o : Oper} {g : Option (Nat × Bool)} (h : actOp Q cf s o g = some s') {m : Nat} (hm : ¬ inW (writes Q s o g) m) : lk s'.rg m = lk s.rg m := by
  unfold actOp at h
  unfold writes at hm
  split at h
  · rename_i f xs hc
    unfold isCall at hc
    split at hc
    · rename_i c ho
      split at hc
      · rename_i f' hcal
        simp at hc
        obtain ⟨rfl, rfl⟩ := hc
        have hna : nilAssign Q o = none := by unfold nilAssign; rw [ho]
        simp only [hna, ho, hcal] at hm
        cases hfe : s.eg g f' with
        | fn fid caps =>
          rw [hfe] at h
          simp only [hfe] at hm
          cases hfz : handArgs Q s fid (c.args.toList.map (s.eg g) ++ caps) with
          | none => unfold callOp at h; simp only [hfz] at h; cases h
          | some r =>
            obtain ⟨s1, qs⟩ := r
            simp only [hfz, inW, List.mem_append, not_or] at hm
            exact callOp_frame h hfz hm.1.1 hm.1.2 (by omega)
        | _ => rw [hfe] at h; simp [callOp] at h
      · cases hc
    · cases hc
  · unfold exec at h
    split at h
    · rename_i e he
      simp only [he] at hm
      split at h
      · rename_i s1 v hn
        rw [put_frame h, new_frame hn (by simpa [inW] using hm)]
      · cases h
    · rename_i he
      simp only [he] at hm
      split at h
      · rw [put_frame h]
      · unfold ef at h
        split at h
        · rename_i t ho
          simp only [ho] at hm
          split at h
          · rename_i z hz
            simp only [hz, inW, List.mem_singleton, not_or] at hm
            refine newBox_frame h hm.1 ?_
            rw [pcells_d]
            simp only [List.length_map]
            omega
          · cases h
        · rename_i t x ho
          simp only [ho, inW, List.mem_singleton, not_or] at hm
          split at h
          · exact newBox_frame h hm.1 (by omega)
          · cases h
        · rename_i t ad x ho
          simp only [ho] at hm
          split at h
          · rename_i s1 h1
            rw [put_frame h]
            refine storeP_frame h1 ?_
            generalize s.eg g ad = pa at hm
            cases pa with
            | ref n v off =>
              simp only [inW, List.mem_cons, not_or] at hm
              exact ⟨hm.1.1, by omega⟩
            | eref n v i k off =>
              simp only [inW, List.mem_cons, not_or] at hm
              exact ⟨hm.1.1, hm.1.2⟩
            | _ => trivial
          · cases h
        · split at h
          · split at h
            · split at h
              · rw [put_frame h]
              · cases h
            · cases h
          · cases h
        · rename_i c ho
          simp only [ho] at hm
          split at h
          · rename_i hcal
            simp only [hcal] at hm
            split at h
            · rename_i x y t t2 hargs htys
              simp only [hargs] at hm
              refine appendP_frame h ?_
              generalize s.eg g x = px at hm
              cases px <;> simpa [appendKeeps, inW] using hm
            · cases h
          · rename_i hcal
            simp only [hcal] at hm
            split at h
            · rename_i x y t t2 hargs htys
              simp only [hargs] at hm
              refine copyP_frame h ?_
              generalize s.eg g x = px at hm
              cases px <;> first | trivial | simpa [copyKeeps, inW] using hm
            · cases h
          · cases h
        · rename_i t x y ho
          simp only [ho, inW, List.mem_singleton, not_or] at hm
          exact makeP_frame h hm.1
        · rename_i t ho
          simp only [ho, inW, List.mem_singleton, not_or] at hm
          exact makeMapP_frame h hm.1
        · rename_i t mo k x ho
          simp only [ho] at hm
          cases hp : s.eg g mo with
          | mp n v =>
            rw [hp] at hm h
            simp only [inW, List.mem_cons, not_or] at hm
            exact mapUpdP_frame h hm.1.1 hm.1.2
          | _ => rw [hp] at h; simp [mapUpdP] at h
        · rename_i t mo k x ho
          simp only [ho] at hm
          cases hp : s.eg g mo with
          | mp n v =>
            rw [hp] at hm h
            simp only [inW, List.mem_cons, not_or] at hm
            exact mapUpdP_frame h hm.1.1 hm.1.2
          | _ => rw [hp] at h; simp [mapUpdP] at h
        · rename_i t x ho
          simp only [ho] at hm
          cases hp : s.eg g x with
          | mp n v =>
            rw [hp] at hm h
            simp only [inW, List.mem_cons, List.not_mem_nil, or_false, not_or] at hm
            exact rangeP_frame h hm.1.1 hm.1.2
          | _ =>
            rw [hp] at hm h
            simp only [inW, List.mem_cons, List.not_mem_nil, or_false, not_or] at hm
            exact rangeP_frame h hm.1 trivial
        · rename_i t mo k ho
          simp only [ho] at hm
          cases hp : s.eg g mo with
          | mp n v =>
            rw [hp] at hm h
            simp only [inW, List.mem_cons, List.not_mem_nil, or_false, not_or] at hm
            exact mapEntP_frame h hm.1.1 hm.1.2
          | _ => rw [hp] at h; simp [mapEntP] at h
        · rename_i t mo st x ho
          simp only [ho] at hm
          cases hp : s.eg g mo with
          | mp n v =>
            rw [hp] at hm h
            simp only [inW, List.mem_cons, not_or] at hm
            exact entStP_frame h hm.1.1 hm.1.2
          | _ => rw [hp] at h; simp [entStP] at h
        · rename_i t len parts ho
          simp only [ho, inW, List.mem_cons, not_or] at hm
          refine buildP_frame h hm.1.1 (fun y hy => ?_)
          obtain ⟨x, hx, rfl⟩ := List.mem_map.1 hy
          exact fun hc => hm.1.2 (List.mem_flatMap.2 ⟨x, hx, hc⟩)
        · cases h
end Pi

