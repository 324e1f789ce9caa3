/- The text PiLoc. -/
import Derived.Test.YtccffeofkhkbcaaGreatDoorPiRegion
/- What an operation looks at, and what it leaves alone. -/
namespace Pi
open Go

/-- The same but for the temporaries. -/
def S.wt (s : S) (m : List (Nat × P)) : S := ⟨s.n, m, s.rg⟩

theorem obj_wt (s : S) (m : List (Nat × P)) (n v : Nat) : (s.wt m).obj n v = s.obj n v := rfl
theorem new_wt (s : S) (m : List (Nat × P)) (n : Nat) (o : Obj) : (s.wt m).new n o = (s.new n o).map fun x => (x.1.wt m, x.2) := by
  unfold S.new S.wt
  simp only
  split
  · rfl
  · split
    · rfl
    · split <;> rfl
theorem setObj_wt (s : S) (m : List (Nat × P)) (n : Nat) (o : Obj) : (s.wt m).setObj n o = (s.setObj n o).wt m := by
  unfold S.setObj S.wt
  simp only
  split <;> rfl

theorem own1_wt (s : S) (m : List (Nat × P)) (n : Nat) (p : P) (t : Option TypeId) : own1 (s.wt m) n p t = (own1 s n p t).map fun x => (x.1.wt m, x.2) := by
  unfold own1
  split
  · rw [new_wt]
    cases s.new n _ <;> rfl
  · rfl

theorem ownCells_wt (m : List (Nat × P)) : ∀ (ps : List P) (ts : List (Option TypeId)) (n : Nat) (s : S), ownCells (s.wt m) n ps ts = (ownCells s n ps ts).map fun x => (x.1.wt m, x.2)
  | [], _, _, _ => rfl
  | p :: ps, ts, n, s => by
    simp only [ownCells]
    rw [own1_wt]
    cases h : own1 s n p (ts.headD none) with
    | none => rfl
    | some r =>
      simp only [Option.map_some]
      rw [ownCells_wt m ps ts.tail (n + 1) r.1]
      cases ownCells r.1 (n + 1) ps ts.tail <;> rfl

theorem frz1_wt (Q : Program) (s : S) (m : List (Nat × P)) (p : P) : frz1 Q (s.wt m) p = (frz1 Q s p).map fun x => (x.1.wt m, x.2) := by
  unfold frz1
  split
  · rfl
  · rw [obj_wt]
    split
    · split
      · rw [setObj_wt]; rfl
      · rfl
    · rfl
  · rfl

theorem frzs_wt (Q : Program) (m : List (Nat × P)) : ∀ (ps : List P) (s : S), frzs Q (s.wt m) ps = (frzs Q s ps).map fun x => (x.1.wt m, x.2)
  | [], _ => rfl
  | p :: ps, s => by
    simp only [frzs]
    rw [frz1_wt]
    cases h : frz1 Q s p with
    | none => rfl
    | some r =>
      simp only [Option.map_some]
      rw [frzs_wt Q m ps r.1]
      cases frzs Q r.1 ps <;> rfl

theorem frz_wt (Q : Program) (s : S) (m : List (Nat × P)) (p : P) : frz Q (s.wt m) p = (frz Q s p).map fun x => (x.1.wt m, x.2) := by
  unfold frz
  split
  · rw [frzs_wt]
    cases frzs Q s _ <;> rfl
  · exact frz1_wt Q s m p

theorem frzT_wt (Q : Program) (s : S) (t : TypeId) (m : List (Nat × P)) (p : P) : frzT Q (s.wt m) t p = (frzT Q s t p).map fun x => (x.1.wt m, x.2) := by
  unfold frzT
  split
  · exact frz_wt Q s m p
  · rw [frz_wt]
    cases frz Q s p with
    | none => rfl
    | some r => simp only [Option.map_some, D.force_eq]
theorem frzAgg_wt (Q : Program) (s : S) (t : TypeId) (m : List (Nat × P)) (p : P) : frzAgg Q (s.wt m) t p = (frzAgg Q s t p).map fun x => (x.1.wt m, x.2) := by
  unfold frzAgg
  split
  · split
    · rw [frzT_wt]
      cases frzT Q s t _ <;> rfl
    · rfl
  · split
    · simp only [D.force_eq]; rfl
    · rfl
  · rfl
theorem frzArg_wt (Q : Program) (s : S) (t : TypeId) (m : List (Nat × P)) (p : P) : frzArg Q (s.wt m) t p = (frzArg Q s t p).map fun x => (x.1.wt m, x.2) := by
  unfold frzArg
  split
  · rw [frz1_wt]
    cases frz1 Q s _ <;> rfl
  · exact frzAgg_wt Q s t m _

theorem frzArgs_wt (Q : Program) (m : List (Nat × P)) : ∀ (ps : List P) (ts : List TypeId) (s : S), frzArgs Q (s.wt m) ts ps = (frzArgs Q s ts ps).map fun x => (x.1.wt m, x.2)
  | [], _, _ => rfl
  | p :: ps, ts, s => by
    simp only [frzArgs]
    rw [frzArg_wt]
    cases h : frzArg Q s (ts.headD 0) p with
    | none => rfl
    | some r =>
      simp only [Option.map_some]
      rw [frzArgs_wt Q m ps ts.tail r.1]
      cases frzArgs Q r.1 ts.tail ps <;> rfl

theorem handArgs_wt (Q : Program) (m : List (Nat × P)) (f : FuncId) (ps : List P) (s : S) : handArgs Q (s.wt m) f ps = (handArgs Q s f ps).map fun x => (x.1.wt m, x.2) := by
  unfold handArgs
  split
  · rfl
  · exact frzArgs_wt Q m ps _ s

theorem storeP_wt (Q : Program) (s : S) (m : List (Nat × P)) (t : TypeId) (p q : P) : storeP Q (s.wt m) t p q = (storeP Q s t p q).map fun x => x.wt m := by
  unfold storeP
  split
  · rfl
  · split
    · rw [own1_wt]
      cases own1 s _ q _ with
      | none => rfl
      | some r =>
        simp only [Option.map_some, obj_wt]
        split
        · split
          · rw [setObj_wt]; rfl
          · rfl
        · rfl
    · rw [frzT_wt]
      cases frzT Q s t q with
      | none => rfl
      | some r =>
        simp only [Option.map_some, obj_wt]
        split
        · split
          · split
            · rw [setObj_wt]; rfl
            · rfl
          · rfl
        · rfl
    · rfl

theorem srcP_wt (Q : Program) (s : S) (m : List (Nat × P)) (t2 : TypeId) (k : Nat) (p : P) : srcP Q (s.wt m) t2 k p = srcP Q s t2 k p := rfl
/-- An operation's outcome: the objects, and what its temporary gets. -/
def fin (s : S) (dst : Option Nat) (c : Option (List (Nat × En) × P)) : Option S :=
  match c with
  | some (R, p) => (⟨s.n, s.tm, R⟩ : S).put dst p
  | none => none

def Loc (f : S → Option S) (s : S) (dst : Option Nat) : Prop := ∃ c, ∀ m, f (s.wt m) = fin (s.wt m) dst c

theorem fin_of {s s1 : S} {dst : Option Nat} {p : P} (m : List (Nat × P)) (hn : s1.n = s.n) : (s1.wt m).put dst p = fin (s.wt m) dst (some (s1.rg, p)) := by
  unfold fin S.wt
  rw [hn]

theorem new_n {s : S} {n v : Nat} {o : Obj} {s' : S} (h : s.new n o = some (s', v)) : s'.n = s.n := by
  obtain ⟨rfl, _⟩ := S.new_spec h; rfl
theorem setObj_n (s : S) (n : Nat) (o : Obj) : (s.setObj n o).n = s.n := by unfold S.setObj; split <;> rfl
theorem own1_n {s : S} {n : Nat} {p q : P} {t : Option TypeId} {s' : S} (h : own1 s n p t = some (s', q)) : s'.n = s.n := by
  unfold own1 at h
  split at h
  · split at h
    · rename_i hn; simp at h; rw [← h.1]; exact new_n hn
    · cases h
  · simp at h; rw [← h.1]
theorem ownCells_n : ∀ (ps : List P) (ts : List (Option TypeId)) (n : Nat) (s s' : S) (qs : List P), ownCells s n ps ts = some (s', qs) → s'.n = s.n
  | [], _, _, s, s', qs, h => by simp [ownCells] at h; rw [← h.1]
  | p :: ps, ts, n, s, s', qs, h => by
    simp only [ownCells] at h
    split at h
    · cases h
    · rename_i s1 q h1
      split at h
      · rename_i s2 qs2 h2
        simp at h
        rw [← h.1, ownCells_n ps _ _ _ _ _ h2, own1_n h1]
      · cases h
theorem frz1_n {Q : Program} {s s' : S} {p : P} {x : D} (h : frz1 Q s p = some (s', x)) : s'.n = s.n := by
  unfold frz1 at h
  split at h
  · simp at h; rw [← h.1]
  · split at h
    · split at h
      · simp at h; rw [← h.1]; exact setObj_n _ _ _
      · cases h
    · cases h
  · cases h
theorem frzs_n {Q : Program} : ∀ (ps : List P) (s s' : S) (xs : List D), frzs Q s ps = some (s', xs) → s'.n = s.n
  | [], s, s', xs, h => by simp [frzs] at h; rw [← h.1]
  | p :: ps, s, s', xs, h => by
    simp only [frzs] at h
    split at h
    · cases h
    · rename_i s1 x h1
      split at h
      · rename_i s2 xs2 h2; simp at h; rw [← h.1, frzs_n ps _ _ _ h2, frz1_n h1]
      · cases h
theorem frz_n {Q : Program} {s s' : S} {p : P} {x : D} (h : frz Q s p = some (s', x)) : s'.n = s.n := by
  unfold frz at h
  split at h
  · split at h
    · rename_i h1; simp at h; rw [← h.1]; exact frzs_n _ _ _ _ h1
    · cases h
  · exact frz1_n h
theorem frzT_n {Q : Program} {s s' : S} {t : TypeId} {p : P} {x : D} (h : frzT Q s t p = some (s', x)) : s'.n = s.n := by
  obtain ⟨y, h1, _⟩ := frzT_spec h
  exact frz_n h1
theorem frzAgg_n {Q : Program} {s s' : S} {t : TypeId} {p q : P} (h : frzAgg Q s t p = some (s', q)) : s'.n = s.n := by
  unfold frzAgg at h
  split at h
  · split at h
    · split at h
      · rename_i hf; simp at h; rw [← h.1]; exact frzT_n hf
      · cases h
    · simp at h; rw [← h.1]
  · split at h
    · rw [D.force_eq] at h; simp at h; rw [← h.1]
    · simp at h; rw [← h.1]
  · simp at h; rw [← h.1]
theorem frzArgs_n {Q : Program} : ∀ (ps : List P) (ts : List TypeId) (s s' : S) (xs : List P), frzArgs Q s ts ps = some (s', xs) → s'.n = s.n
  | [], ts, s, s', xs, h => by simp [frzArgs] at h; rw [← h.1]
  | p :: ps, ts, s, s', xs, h => by
    simp only [frzArgs] at h
    split at h
    · cases h
    · rename_i s1 x h1
      have e1 : s1.n = s.n := by
        unfold frzArg at h1
        split at h1
        · split at h1
          · rename_i hf; simp at h1; rw [← h1.1]; exact frz1_n hf
          · cases h1
        · exact frzAgg_n h1
      split at h
      · rename_i s2 xs2 h2; simp at h; rw [← h.1, frzArgs_n ps _ _ _ _ h2, e1]
      · cases h
theorem storeP_n {Q : Program} {s s' : S} {t : TypeId} {p q : P} (h : storeP Q s t p q = some s') : s'.n = s.n := by
  unfold storeP at h
  split at h
  · cases h
  · split at h
    · split at h
      · rename_i h1
        split at h
        · split at h
          · simp at h; rw [← h, setObj_n, own1_n h1]
          · cases h
        · cases h
      · cases h
    · split at h
      · rename_i h1
        split at h
        · split at h
          · split at h
            · simp only [Option.some.injEq] at h; rw [← h, setObj_n, frzT_n h1]
            · cases h
          · cases h
        · cases h
      · cases h
    · cases h

theorem handArgs_n {Q : Program} {f : FuncId} (ps : List P) (s s' : S) (xs : List P) (h : handArgs Q s f ps = some (s', xs)) : s'.n = s.n := by
  unfold handArgs at h
  split at h
  · simp only [Option.some.injEq, Prod.mk.injEq] at h; rw [h.1]
  · exact frzArgs_n ps _ s s' xs h

theorem newBox_loc (Q : Program) (s : S) (dst : Option Nat) (t : TypeId) (ps : List P) : Loc (fun s => newBox Q s dst t ps) s dst := by
  unfold newBox
  cases h : ownCells s (site dst * 1000) ps (cellTys Q 20 t) with
  | none => exact ⟨none, fun m => by simp only [ownCells_wt, h]; rfl⟩
  | some r =>
    cases h2 : r.1.new (site dst) (.box t r.2) with
    | none => exact ⟨none, fun m => by simp only [ownCells_wt, h, Option.map_some, new_wt, h2]; rfl⟩
    | some r2 => exact ⟨some (r2.1.rg, .ref (site dst) r2.2 0), fun m => by simp only [ownCells_wt, h, Option.map_some, new_wt, h2]; exact fin_of m (by rw [new_n h2, ownCells_n _ _ _ _ _ _ h])⟩

theorem appendP_loc (Q : Program) (s : S) (dst : Option Nat) (t t2 : TypeId) (p q : P) : Loc (fun s => appendP Q s dst t t2 p q) s dst := by
  unfold Loc appendP
  cases h1 : elemTy Q t with
  | none => exact ⟨none, fun m => rfl⟩
  | some e =>
    simp only []
    cases h2 : Q.info? e with
    | none => exact ⟨none, fun m => rfl⟩
    | some i =>
      cases h3 : sz Q e with
      | none => exact ⟨none, fun m => rfl⟩
      | some k =>
        cases k with
        | zero => exact ⟨none, fun m => rfl⟩
        | succ k =>
          simp only [srcP_wt]
          cases h4 : srcP Q s t2 (k + 1) q with
          | none => exact ⟨none, fun m => rfl⟩
          | some ys =>
            cases h5 : zeroD Q e with
            | none => exact ⟨none, fun m => rfl⟩
            | some z =>
              simp only []
              cases h6 : Nat.beq z.cells.length (k + 1) with
              | false => exact ⟨none, fun m => rfl⟩
              | true =>
                simp only [if_true]
                cases p with
                | sl n v len =>
                  have e0 : ∀ m, (s.wt m).rg = s.rg := fun _ => rfl
                  simp only [e0]
                  cases h7 : lk s.rg n with
                  | none => exact ⟨none, fun m => rfl⟩
                  | some en =>
                    simp only []
                    cases h8 : en.obj with
                    | arr ty fz es =>
                      cases fz with
                      | true => exact ⟨none, fun m => rfl⟩
                      | false =>
                        simp only []
                        split
                        · exact ⟨some (_, _), fun m => rfl⟩
                        · exact ⟨none, fun m => rfl⟩
                    | _ => exact ⟨none, fun m => rfl⟩
                | d x =>
                  cases x with
                  | nils =>
                    simp only [new_wt]
                    split
                    · cases h7 : s.new (site dst) (.arr e false ys) with
                      | none => exact ⟨none, fun m => rfl⟩
                      | some r2 => exact ⟨some (r2.1.rg, _), fun m => fin_of m (new_n h7)⟩
                    · exact ⟨none, fun m => rfl⟩
                  | _ => exact ⟨none, fun m => rfl⟩
                | _ => exact ⟨none, fun m => rfl⟩

/-- Two states that a look at some operands cannot tell apart. -/
theorem makeP_loc (Q : Program) (s : S) (dst : Option Nat) (t : TypeId) (p q : P) : Loc (fun s => makeP Q s dst t p q) s dst := by
  unfold Loc makeP
  split
  · rename_i e k1 l k2 c h1
    split
    · rename_i i k z h2 h3 h4
      split
      · simp only [new_wt]
        cases h7 : s.new (site dst) (.arr e false (List.replicate l.toNat z)) with
        | none => exact ⟨none, fun m => rfl⟩
        | some r2 => exact ⟨some (r2.1.rg, _), fun m => fin_of m (new_n h7)⟩
      · exact ⟨none, fun m => rfl⟩
    · exact ⟨none, fun m => rfl⟩
  · exact ⟨none, fun m => rfl⟩

theorem makeMapP_loc (Q : Program) (s : S) (dst : Option Nat) (t : TypeId) : Loc (fun s => makeMapP Q s dst t) s dst := by
  unfold Loc makeMapP
  split
  · rename_i kt e h1
    simp only [new_wt]
    cases h7 : s.new (site dst) (.map kt (fun _ => none) 0 false) with
    | none => exact ⟨none, fun m => rfl⟩
    | some r2 => exact ⟨some (r2.1.rg, _), fun m => fin_of m (new_n h7)⟩
  · exact ⟨none, fun m => rfl⟩

theorem mapUpdP_loc (Q : Program) (s : S) (dst : Option Nat) (t : TypeId) (p k x : P) : Loc (fun s => mapUpdP Q s dst t p k x) s dst := by
  unfold Loc mapUpdP
  split
  · rename_i kt e n v kd h1
    simp only [frzT_wt]
    cases h2 : frzT Q s e x with
    | none => exact ⟨none, fun m => rfl⟩
    | some y =>
      simp only [Option.map_some, obj_wt]
      split
      · split
        · simp only [setObj_wt]
          exact ⟨some (_, .bad), fun m => fin_of m ((setObj_n _ _ _).trans (frzT_n h2))⟩
        · exact ⟨none, fun m => rfl⟩
      · exact ⟨none, fun m => rfl⟩
  · exact ⟨none, fun m => rfl⟩

theorem mapEntP_loc (Q : Program) (s : S) (dst : Option Nat) (t : TypeId) (p k : P) : Loc (fun s => mapEntP Q s dst t p k) s dst := by
  unfold Loc mapEntP
  split
  · rename_i kt e n v kd h1
    split
    · simp only [obj_wt]
      split
      · rename_i kt' get c h2
        split
        · simp only [new_wt]
          cases h7 : s.new (site dst) .stamp with
          | none => exact ⟨none, fun m => rfl⟩
          | some r2 =>
            simp only [Option.map_some, setObj_wt]
            exact ⟨some (_, _), fun m => fin_of m ((setObj_n _ _ _).trans (new_n h7))⟩
        · exact ⟨none, fun m => rfl⟩
      · exact ⟨none, fun m => rfl⟩
    · exact ⟨none, fun m => rfl⟩
  · exact ⟨none, fun m => rfl⟩

theorem entStP_loc (Q : Program) (s : S) (dst : Option Nat) (p st x : P) : Loc (fun s => entStP Q s dst p st x) s dst := by
  unfold Loc entStP
  split
  · simp only [frz_wt]
    cases h2 : frz Q s x with
    | none => exact ⟨none, fun m => rfl⟩
    | some y =>
      simp only [Option.map_some, obj_wt]
      split
      · split
        · simp only [setObj_wt]
          exact ⟨some (_, .bad), fun m => fin_of m ((setObj_n _ _ _).trans (frz_n h2))⟩
        · exact ⟨none, fun m => rfl⟩
      · exact ⟨none, fun m => rfl⟩
  · exact ⟨none, fun m => rfl⟩

theorem rangeP_loc (Q : Program) (s : S) (dst : Option Nat) (t : TypeId) (p : P) : Loc (fun s => rangeP Q s dst t p) s dst := by
  unfold Loc rangeP
  split
  · rename_i kt vt n v h1
    simp only [obj_wt]
    split
    · rename_i kt' get c fz h2
      split
      · simp only [setObj_wt, new_wt]
        cases h7 : (s.setObj n (.map kt get c true)).new (site dst) (.iter kt vt get none) with
        | none => exact ⟨none, fun m => rfl⟩
        | some r2 => exact ⟨some (r2.1.rg, _), fun m => fin_of m ((new_n h7).trans (setObj_n _ _ _))⟩
      · exact ⟨none, fun m => rfl⟩
    · exact ⟨none, fun m => rfl⟩
  · rename_i kt vt h1
    simp only [new_wt]
    cases h7 : s.new (site dst) (.iter kt vt (fun _ => none) none) with
    | none => exact ⟨none, fun m => rfl⟩
    | some r2 => exact ⟨some (r2.1.rg, _), fun m => fin_of m (new_n h7)⟩
  · exact ⟨none, fun m => rfl⟩

theorem buildEls_wt (Q : Program) (t : TypeId) (k : Nat) (m : List (Nat × P)) : ∀ (ps : List (Nat × P)) (s : S) (es : List D), buildEls Q t k (s.wt m) es ps = (buildEls Q t k s es ps).map fun x => (x.1.wt m, x.2)
  | [], s, es => rfl
  | (i, p) :: r, s, es => by
    simp only [buildEls, frzT_wt]
    cases h : frzT Q s t p with
    | none => rfl
    | some y =>
      simp only [Option.map_some]
      split
      · exact buildEls_wt Q t k m r y.1 _
      · rfl

theorem buildEls_n {Q : Program} {t : TypeId} {k : Nat} : ∀ (ps : List (Nat × P)) (s s' : S) (es es' : List D), buildEls Q t k s es ps = some (s', es') → s'.n = s.n
  | [], s, s', es, es', h => by simp [buildEls] at h; rw [h.1]
  | (i, p) :: r, s, s', es, es', h => by
    simp only [buildEls] at h
    split at h
    · rename_i s1 x h1
      split at h
      · rw [buildEls_n r s1 s' _ es' h, frzT_n h1]
      · cases h
    · cases h

theorem buildP_loc (Q : Program) (s : S) (dst : Option Nat) (t : TypeId) (len : Nat) (parts : List (Nat × P)) : Loc (fun s => buildP Q s dst t len parts) s dst := by
  unfold Loc buildP
  split
  · rename_i e h1
    split
    · rename_i i k z h2 h3 h4
      split
      · simp only [buildEls_wt]
        cases h5 : buildEls Q e (k + 1) s (List.replicate len z) parts with
        | none => exact ⟨none, fun m => rfl⟩
        | some r =>
          simp only [Option.map_some, new_wt]
          cases h7 : r.1.new (site dst) (.arr e false r.2) with
          | none => exact ⟨none, fun m => rfl⟩
          | some r2 => exact ⟨some (r2.1.rg, _), fun m => fin_of m (by rw [new_n h7, buildEls_n _ _ _ _ _ h5])⟩
      · exact ⟨none, fun m => rfl⟩
    · exact ⟨none, fun m => rfl⟩
  · exact ⟨none, fun m => rfl⟩

theorem copyP_loc (Q : Program) (s : S) (dst : Option Nat) (t t2 : TypeId) (p q : P) : Loc (fun s => copyP Q s dst t t2 p q) s dst := by
  unfold Loc copyP
  split
  · split
    · simp only [srcP_wt, obj_wt, setObj_wt]
      split
      · split
        · exact ⟨some (_, _), fun m => fin_of m (setObj_n _ _ _)⟩
        · exact ⟨none, fun m => rfl⟩
      · exact ⟨none, fun m => rfl⟩
    · exact ⟨none, fun m => rfl⟩
  · exact ⟨none, fun m => rfl⟩

structure Alike (s s2 : S) (xs : List Operand) : Prop where
  n : s2.n = s.n
  rg : s2.rg = s.rg
  ev : ∀ x ∈ xs, s2.ev x = s.ev x

theorem Alike.wt {s s2 : S} {xs : List Operand} (h : Alike s s2 xs) : s2 = s.wt s2.tm := by
  cases s2 with
  | mk n tm rg =>
    have h1 := h.n
    have h2 := h.rg
    simp only at h1 h2
    subst h1 h2
    rfl

theorem Alike.eg {s s2 : S} {xs : List Operand} (h : Alike s s2 xs) {x : Operand} (hx : x ∈ xs) (g : Option (Nat × Bool)) : s2.eg g x = s.eg g x := by
  unfold S.eg; rw [h.ev x hx]

theorem Alike.egs {s s2 : S} {xs : List Operand} (h : Alike s s2 xs) {ys : List Operand} (hy : ∀ y ∈ ys, y ∈ xs) (g : Option (Nat × Bool)) : ys.map (s2.eg g) = ys.map (s.eg g) :=
  List.map_congr_left fun y hyy => h.eg (hy y hyy) g

theorem loc2 {f : S → Option S} {s s2 : S} {xs : List Operand} {dst : Option Nat} (h : Alike s s2 xs) (hl : Loc f s dst) : ∃ c, f s = fin s dst c ∧ f s2 = fin s2 dst c := by
  obtain ⟨c, hc⟩ := hl
  refine ⟨c, ?_, ?_⟩
  · exact hc s.tm
  · have e := h.wt
    rw [e]
    exact hc s2.tm

theorem pv_alike {Q : Program} {s s2 : S} {o : Oper} (h : Alike s s2 o.op.operands.toList) (g : Option (Nat × Bool)) : pv Q s2 o g = pv Q s o g := by
  have hs := h.wt
  have mem : ∀ {x : Operand}, x ∈ o.op.operands → x ∈ o.op.operands.toList := fun hx => by simpa using hx
  unfold pv
  split
  · rename_i x ho; rw [h.eg (by simp [ho, Op.operands])]
  · rename_i x ho; rw [h.eg (by simp [ho, Op.operands])]
  · rename_i c x y ho
    rw [h.eg (x := c) (by simp [ho, Op.operands]), h.eg (x := x) (by simp [ho, Op.operands]), h.eg (x := y) (by simp [ho, Op.operands])]
  · rename_i x ho; rw [h.eg (by simp [ho, Op.operands]), hs]; rfl
  · rename_i op t x y yt ho; rw [h.eg (x := x) (by simp [ho, Op.operands]), h.eg (x := y) (by simp [ho, Op.operands]), hs]; rfl
  · rename_i op t x ho; rw [h.eg (by simp [ho, Op.operands])]
  · rename_i t1 t2 x ho; rw [h.eg (by simp [ho, Op.operands])]
  · rename_i t x ho; rw [h.eg (by simp [ho, Op.operands]), hs]; rfl
  · rename_i t x f ho; rw [h.eg (by simp [ho, Op.operands]), hs]; rfl
  · rename_i t x i ho; rw [h.eg (x := x) (by simp [ho, Op.operands]), h.eg (x := i) (by simp [ho, Op.operands]), hs]; rfl
  · rename_i t x i ho; rw [h.eg (x := x) (by simp [ho, Op.operands]), h.eg (x := i) (by simp [ho, Op.operands])]
  · rename_i t x f ho; rw [h.eg (by simp [ho, Op.operands])]
  · rename_i x i ho; rw [h.eg (by simp [ho, Op.operands])]
  · rename_i t x i ok ho; rw [h.eg (x := x) (by simp [ho, Op.operands]), h.eg (x := i) (by simp [ho, Op.operands]), hs]; rfl
  · rename_i x ho
    have e5 : ∀ p, entryP s2 p = entryP s p := fun p => by rw [hs]; rfl
    rw [e5, h.eg (by simp [ho, Op.operands])]
  · rename_i t x lo hi ho
    have e5 : ∀ p l h', sliceP Q s2 t p l h' = sliceP Q s t p l h' := fun p l h' => by rw [hs]; rfl
    rw [e5, h.eg (x := x) (by simp [ho, Op.operands])]
    cases lo with
    | none => cases hi with
      | none => rfl
      | some u => simp only [Option.map_some]; rw [h.eg (x := u) (by simp [ho, Op.operands])]; rfl
    | some l => cases hi with
      | none => simp only [Option.map_some]; rw [h.eg (x := l) (by simp [ho, Op.operands])]; rfl
      | some u => simp only [Option.map_some]; rw [h.eg (x := l) (by simp [ho, Op.operands]), h.eg (x := u) (by simp [ho, Op.operands])]
  · rename_i t parts ho
    have e : parts.toList.map (fun x => s2.eg g x.2) = parts.toList.map (fun x => s.eg g x.2) := List.map_congr_left fun x hx => h.eg (by
      simp only [ho, Op.operands]
      exact List.mem_map_of_mem (f := fun x : Nat × Operand => x.2) hx) g
    have e2 : parts.toList.map (fun x => (x.1, s2.eg g x.2)) = parts.toList.map (fun x => (x.1, s.eg g x.2)) := List.map_congr_left fun x hx => by
      rw [h.eg (x := x.2) (by
        simp only [ho, Op.operands]
        exact List.mem_map_of_mem (f := fun x : Nat × Operand => x.2) hx) g]
    rw [e, e2]
  · rename_i f first caps ho
    have e : caps.toList.map (s2.eg g) = caps.toList.map (s.eg g) := h.egs (fun y hy => by
      simp only [ho, Op.operands]
      simp at hy
      simp [hy]) g
    rw [e]
  · rename_i c ho
    have hm : ∀ y ∈ c.args.toList, y ∈ o.op.operands.toList := fun y hy => by
      simp only [ho, Op.operands, Call.operands]
      simp at hy
      simp [hy]
    split
    · split
      · rename_i x hargs
        rw [h.eg (x := x) (hm x (by rw [hargs]; simp))]
        have e5 : ∀ p, lenP s2 p = lenP s p := fun p => by rw [hs]; rfl
        have e6 : ∀ p, lenM s2 p = lenM s p := fun p => by rw [hs]; rfl
        rw [e5, e6]
      · rfl
    · rw [h.egs hm]
    · rw [h.egs hm]
    · rfl
  · rfl
end Pi

