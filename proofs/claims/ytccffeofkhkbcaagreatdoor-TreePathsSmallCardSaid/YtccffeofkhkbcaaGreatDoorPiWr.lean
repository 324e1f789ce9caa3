/- The text PiWr. -/
import Derived.Test.YtccffeofkhkbcaaGreatDoorPiLoc2
/- What an operation that changes nothing looks at. -/
namespace Pi
open Go

def S.wr (s : S) (R : List (Nat × En)) : S := ⟨s.n, s.tm, R⟩
def Agree (R R' : List (Nat × En)) (p : P) : Prop := ∀ n v, p.name = some (n, v) → lk R n = lk R' n

theorem obj_wr {s : S} {R : List (Nat × En)} {n : Nat} (h : lk R n = lk s.rg n) (v : Nat) : (s.wr R).obj n v = s.obj n v := by
  unfold S.obj S.wr; simp only [h]
theorem live_wr {s : S} {R : List (Nat × En)} {n : Nat} (h : lk R n = lk s.rg n) (v : Nat) : (s.wr R).live n v = s.live n v := by
  unfold S.live; rw [obj_wr h]

theorem nilCheckP_wr {s : S} {R : List (Nat × En)} {p : P} (h : Agree R s.rg p) : nilCheckP (s.wr R) p = nilCheckP s p := by
  cases p <;> simp only [nilCheckP]
  · rw [live_wr (h _ _ rfl)]
  · rw [live_wr (h _ _ rfl)]
theorem loadP_wr (Q : Program) {s : S} {R : List (Nat × En)} {t : TypeId} {p : P} (h : Agree R s.rg p) : loadP Q (s.wr R) t p = loadP Q s t p := by
  cases p <;> simp only [loadP]
  · rw [obj_wr (h _ _ rfl)]
  · rw [obj_wr (h _ _ rfl)]
theorem fieldAddrP_wr (Q : Program) {s : S} {R : List (Nat × En)} {t : TypeId} {f : Nat} {p : P} (h : Agree R s.rg p) : fieldAddrP Q (s.wr R) t f p = fieldAddrP Q s t f p := by
  unfold fieldAddrP
  split
  · rfl
  · cases p with
    | ref n v off => simp only [live_wr (h n v rfl)]
    | eref n v i k off => simp only [live_wr (h n v rfl)]
    | _ => rfl
theorem indexAddrP_wr (Q : Program) {s : S} {R : List (Nat × En)} {t : TypeId} {p i : P} (h : Agree R s.rg p) : indexAddrP Q (s.wr R) t p i = indexAddrP Q s t p i := by
  unfold indexAddrP
  split
  · unfold arrAddrP
    cases p with
    | ref n v off => simp only [live_wr (h n v rfl)]
    | eref n v i k off => simp only [live_wr (h n v rfl)]
    | _ => rfl
  split
  · split
    · cases p with
      | sl n v len => simp only [obj_wr (h n v rfl)]
      | d x => cases x <;> rfl
      | _ => rfl
    · rfl
  · rfl
theorem viewP_wr (Q : Program) {s : S} {R : List (Nat × En)} {t : TypeId} {p : P} {lo : Option P} (h : Agree R s.rg p) : viewP Q (s.wr R) t p lo = viewP Q s t p lo := by
  unfold viewP
  split
  · rw [obj_wr (h _ _ rfl)]
  · rfl
theorem viewP_agree (Q : Program) {s : S} {R : List (Nat × En)} {t : TypeId} {p : P} {lo : Option P} (h : Agree R s.rg p) : Agree R s.rg (viewP Q s t p lo) := by
  unfold viewP
  split
  · split
    · split
      · split
        · intro n v hn; cases hn
        · exact h
      · exact h
    · exact h
  · exact h
theorem sliceP_wr (Q : Program) {s : S} {R : List (Nat × En)} {t : TypeId} {p : P} {lo hi : Option P} (h : Agree R s.rg p) : sliceP Q (s.wr R) t p lo hi = sliceP Q s t p lo hi := by
  unfold sliceP
  rw [viewP_wr Q h]
  replace h := viewP_agree Q (t := t) (lo := lo) h
  generalize viewP Q s t p lo = p at h
  unfold sliceP0
  split
  · rfl
  · split
    · cases p with
      | sl n v len => simp only [obj_wr (h n v rfl)]
      | d x => cases x <;> rfl
      | _ => rfl
    · rfl
theorem lenP_wr {s : S} {R : List (Nat × En)} {p : P} (h : Agree R s.rg p) : lenP (s.wr R) p = lenP s p := by
  unfold lenP
  cases p with
  | sl n v len => simp only [live_wr (h n v rfl)]
  | d x => cases x <;> rfl
  | _ => rfl
theorem nilCmp_wr {s : S} {R : List (Nat × En)} {p q : P} (h : Agree R s.rg p) (h2 : Agree R s.rg q) : nilCmp (s.wr R) p q = nilCmp s p q := by
  unfold nilCmp
  cases p with
  | ref n v off => cases q with
    | d x => cases x <;> simp only [live_wr (h n v rfl)]
    | _ => rfl
  | eref n v i k off => cases q with
    | d x => cases x <;> simp only [live_wr (h n v rfl)]
    | _ => rfl
  | d x => cases q with
    | ref n v off => cases x <;> simp only [live_wr (h2 n v rfl)]
    | eref n v i k off => cases x <;> simp only [live_wr (h2 n v rfl)]
    | d y => cases x <;> cases y <;> rfl
    | _ => cases x <;> rfl
  | fref x off => cases q with
    | d y => cases y <;> rfl
    | _ => rfl
  | _ => cases q <;> rfl
theorem srcP_wr (Q : Program) {s : S} {R : List (Nat × En)} {t2 : TypeId} {k : Nat} {p : P} (h : Agree R s.rg p) : srcP Q (s.wr R) t2 k p = srcP Q s t2 k p := by
  unfold srcP
  cases p with
  | sl n v len => simp only [obj_wr (h n v rfl)]
  | d x => cases x <;> rfl
  | _ => rfl

theorem lookupP_wr (Q : Program) {s : S} {R : List (Nat × En)} {t : TypeId} {p i : P} {ok : Bool} {z : D} (h : Agree R s.rg p) : lookupP Q (s.wr R) t p i ok z = lookupP Q s t p i ok z := by
  unfold lookupP
  split
  · rename_i n v k _
    rw [obj_wr (h _ _ rfl)]
  · rfl
  · rfl
theorem entryP_wr {s : S} {R : List (Nat × En)} {p : P} (h : Agree R s.rg p) : entryP (s.wr R) p = entryP s p := by
  unfold entryP
  split
  · rw [obj_wr (h _ _ rfl)]
  · rfl
theorem lenM_wr {s : S} {R : List (Nat × En)} {p : P} (h : Agree R s.rg p) : lenM (s.wr R) p = lenM s p := by
  cases p <;> simp only [lenM]
  rw [obj_wr (h _ _ rfl)]

theorem pv_wr {Q : Program} {s : S} {R : List (Nat × En)} {o : Oper} {g : Option (Nat × Bool)} (h : opKind o = 0 ∨ ∀ x ∈ o.op.operands.toList, Agree R s.rg (s.eg g x)) : pv Q (s.wr R) o g = pv Q s o g := by
  have eg : ∀ x, (s.wr R).eg g x = s.eg g x := fun _ => rfl
  have ev : ∀ x, (s.wr R).ev x = s.ev x := fun _ => rfl
  have mem : ∀ {P' : Prop}, opKind o ≠ 0 → (opKind o = 0 ∨ P') → P' := fun h1 h2 => h2.resolve_left h1
  have egf : (s.wr R).eg g = s.eg g := rfl
  unfold pv
  simp only [eg, egf]
  split
  · rfl
  · rfl
  · rfl
  · rename_i x ho
    exact nilCheckP_wr (mem (by simp [opKind, ho]) h x (by simp [ho, Op.operands]))
  · rename_i op t x y yt ho
    have hm := mem (by simp [opKind, ho]) h
    unfold binP
    rw [nilCmp_wr (hm x (by simp [ho, Op.operands])) (hm y (by simp [ho, Op.operands]))]
  · rfl
  · rfl
  · rename_i t x ho
    exact loadP_wr Q (mem (by simp [opKind, ho]) h x (by simp [ho, Op.operands]))
  · rename_i t x f ho
    exact fieldAddrP_wr Q (mem (by simp [opKind, ho]) h x (by simp [ho, Op.operands]))
  · rename_i t x i ho
    exact indexAddrP_wr Q (mem (by simp [opKind, ho]) h x (by simp [ho, Op.operands]))
  · rfl
  · rfl
  · rfl
  · rename_i t x i ok ho
    have e : ∀ z, lookupP Q (s.wr R) t (s.eg g x) (s.eg g i) ok z = lookupP Q s t (s.eg g x) (s.eg g i) ok z := fun z => lookupP_wr Q (mem (by simp [opKind, ho]) h x (by simp [ho, Op.operands]))
    simp only [e]
  · rename_i x ho
    exact entryP_wr (mem (by simp [opKind, ho]) h x (by simp [ho, Op.operands]))
  · rename_i t x lo hi ho
    rw [sliceP_wr Q (mem (by simp [opKind, ho]) h x (by simp [ho, Op.operands]))]
  · rfl
  · rfl
  · rename_i c ho
    split
    · rename_i hc
      split
      · rename_i x hargs
        have hx : x ∈ o.op.operands.toList := by
          have : x ∈ c.args.toList := by rw [hargs]; simp
          simp only [ho, Op.operands, Call.operands]
          simp at this
          simp [this]
        rw [lenP_wr (mem (by simp [opKind, ho, hc]) h x hx), lenM_wr (mem (by simp [opKind, ho, hc]) h x hx)]
      · rfl
    · rfl
    · rfl
    · rfl
  · rfl

theorem pv_two {Q : Program} {s s2 : S} {o : Oper} {g : Option (Nat × Bool)} (ha : ∀ x ∈ o.op.operands.toList, s2.ev x = s.ev x) (hn : s2.n = s.n)
    (h : opKind o = 0 ∨ ∀ x ∈ o.op.operands.toList, Agree s2.rg s.rg (s.eg g x)) : pv Q s2 o g = pv Q s o g := by
  have h1 : Alike s (s.wt s2.tm) o.op.operands.toList := ⟨rfl, rfl, ha⟩
  have e : s2 = (s.wt s2.tm).wr s2.rg := by
    cases s2 with
    | mk n tm rg => simp only at hn; subst hn; rfl
  rw [e]
  rw [pv_wr (s := s.wt s2.tm)]
  · exact pv_alike h1 g
  · rcases h with h | h
    · exact .inl h
    · refine .inr fun x hx => ?_
      rw [h1.eg hx]
      exact h x hx

theorem isCall_pure {o : Oper} (hk : opKind o ≤ 1) : isCall o = none := by
  unfold isCall
  split
  · rename_i c ho
    split
    · rename_i f hf; simp [opKind, ho, hf] at hk
    · rfl
  · rfl

theorem nilAssign_pure {Q : Program} {o : Oper} (hk : opKind o ≤ 1) : nilAssign Q o = none := by
  unfold nilAssign
  split
  · rename_i ho; simp [opKind, ho] at hk
  · rfl

theorem exec_pure {Q : Program} {s s2 : S} {o : Oper} {g : Option (Nat × Bool)} (hk : opKind o ≤ 1) (ha : ∀ x ∈ o.op.operands.toList, s2.ev x = s.ev x) (hn : s2.n = s.n)
    (h : opKind o = 0 ∨ ∀ x ∈ o.op.operands.toList, Agree s2.rg s.rg (s.eg g x)) : ∃ c : Option P, exec Q s o g = (c.bind fun p => s.put o.dst p) ∧ exec Q s2 o g = (c.bind fun p => s2.put o.dst p) := by
  unfold exec
  rw [nilAssign_pure hk]
  simp only []
  rw [pv_two ha hn h]
  cases pv Q s o g with
  | some p => exact ⟨some p, rfl, rfl⟩
  | none =>
    simp only []
    unfold ef
    split
    · rename_i ho; simp [opKind, ho] at hk
    · rename_i ho; simp [opKind, ho] at hk
    · rename_i ho; simp [opKind, ho] at hk
    · rename_i t1 t2 x ho
      have hx : x ∈ o.op.operands.toList := by simp [ho, Op.operands]
      have e0 : s2.eg g x = s.eg g x := by unfold S.eg; rw [ha x hx]
      have e1 : srcP Q s2 t1 1 (s.eg g x) = srcP Q s t1 1 (s.eg g x) := by
        have hag : Agree s2.rg s.rg (s.eg g x) := by
          rcases h with h | h
          · simp [opKind, ho] at h
          · exact h x hx
        have : srcP Q (s.wr s2.rg) t1 1 (s.eg g x) = srcP Q s t1 1 (s.eg g x) := srcP_wr Q hag
        rw [← this]
        rfl
      rw [e0, e1]
      split
      · split
        · split
          · exact ⟨some _, rfl, rfl⟩
          · exact ⟨none, rfl, rfl⟩
        · exact ⟨none, rfl, rfl⟩
      · exact ⟨none, rfl, rfl⟩
    · rename_i c ho
      split
      · rename_i hc; simp [opKind, ho, hc] at hk
      · rename_i hc; simp [opKind, ho, hc] at hk
      · exact ⟨none, rfl, rfl⟩
    · rename_i ho; simp [opKind, ho] at hk
    · rename_i ho; simp [opKind, ho] at hk
    · rename_i ho; simp [opKind, ho] at hk
    · rename_i ho; simp [opKind, ho] at hk
    · rename_i ho; simp [opKind, ho] at hk
    · rename_i ho; simp [opKind, ho] at hk
    · rename_i ho; simp [opKind, ho] at hk
    · rename_i ho; simp [opKind, ho] at hk
    · exact ⟨none, rfl, rfl⟩

/-- The slots that a step looks at. -/
theorem looks_op {ops : List Oper} {o : Oper} {t : Nat} (h : Operand.tmp t ∈ o.op.operands.toList) : t ∈ looks ops o :=
  List.mem_append_left _ (List.mem_flatMap.2 ⟨_, h, by simp [slotOf]⟩)

theorem looks_guard {ops : List Oper} {o : Oper} {t : Nat} {w : Bool} (h : guardSlot ops o = some (some (t, w))) : t ∈ looks ops o := by
  unfold guardSlot at h
  unfold looks
  refine List.mem_append_right _ ?_
  split at h
  · cases h
  · rename_i j want hg
    split at h
    · rename_i oj hj
      split at h
      · rename_i t' ht
        simp at h
        obtain ⟨rfl, rfl⟩ := h
        simp [hg, hj, ht]
      · cases h
    · cases h

theorem evs_of {ops : List Oper} {s s2 : S} {o : Oper} (h : ∀ t ∈ looks ops o, lk s2.tm t = lk s.tm t) : ∀ x ∈ o.op.operands.toList, s2.ev x = s.ev x := by
  intro x hx
  cases x with
  | tmp t => show (lk s2.tm t).getD .bad = (lk s.tm t).getD .bad; rw [h t (looks_op hx)]
  | _ => rfl

theorem stepOp_pure {Q : Program} {cf : CF} {ops : List Oper} {s s2 : S} {o : Oper} (hk : opKind o ≤ 1) (hev : ∀ t ∈ looks ops o, lk s2.tm t = lk s.tm t) (hn : s2.n = s.n)
    (h : opKind o = 0 ∨ ∀ g, guardSlot ops o = some g → ∀ x ∈ o.op.operands.toList, Agree s2.rg s.rg (s.eg g x)) :
    ∃ c : Option P, stepOp Q cf ops s o = (c.bind fun q => s.put o.dst q) ∧ stepOp Q cf ops s2 o = (c.bind fun q => s2.put o.dst q) := by
  have ha := evs_of hev
  unfold stepOp
  have act : ∀ g, guardSlot ops o = some g → ∃ c : Option P, actOp Q cf s o g = (c.bind fun q => s.put o.dst q) ∧ actOp Q cf s2 o g = (c.bind fun q => s2.put o.dst q) := by
    intro g hg
    unfold actOp
    rw [isCall_pure hk]
    exact exec_pure (Q := Q) (s := s) (s2 := s2) (g := g) hk ha hn (h.imp id fun h => h g hg)
  cases hg : guardSlot ops o with
  | none => exact ⟨none, rfl, rfl⟩
  | some g =>
    cases g with
    | none => exact act none hg
    | some tw =>
      obtain ⟨t, want⟩ := tw
      simp only []
      rw [hev t (looks_guard hg)]
      split
      · split
        · exact act _ hg
        · exact ⟨some .skip, rfl, rfl⟩
      · exact ⟨some .skip, rfl, rfl⟩
      · exact ⟨none, rfl, rfl⟩

theorem stepOp_look {Q : Program} {cf : CF} {ops : List Oper} {s s2 : S} {o : Oper} (hlk : ∃ t m k, o.op = .lookup t m k false) (hev : ∀ t ∈ looks ops o, lk s2.tm t = lk s.tm t) (hn : s2.n = s.n)
    (h : ∀ g, guardSlot ops o = some g → pv Q (s.wr s2.rg) o g = pv Q s o g) :
    ∃ c : Option P, stepOp Q cf ops s o = (c.bind fun q => s.put o.dst q) ∧ stepOp Q cf ops s2 o = (c.bind fun q => s2.put o.dst q) := by
  obtain ⟨lt, lm, lkk, ho⟩ := hlk
  have hk : opKind o ≤ 1 := by simp [opKind, ho]
  have ha := evs_of hev
  have act : ∀ g, guardSlot ops o = some g → ∃ c : Option P, actOp Q cf s o g = (c.bind fun q => s.put o.dst q) ∧ actOp Q cf s2 o g = (c.bind fun q => s2.put o.dst q) := by
    intro g hg
    unfold actOp
    rw [isCall_pure hk]
    unfold exec
    rw [nilAssign_pure hk]
    have h1 : Alike (s.wr s2.rg) s2 o.op.operands.toList := ⟨hn, rfl, ha⟩
    have e := pv_alike (Q := Q) h1 g
    simp only []
    rw [e, h g hg]
    cases pv Q s o g with
    | some p => exact ⟨some p, rfl, rfl⟩
    | none => exact ⟨none, by simp [ef, ho], by simp [ef, ho]⟩
  unfold stepOp
  cases hg : guardSlot ops o with
  | none => exact ⟨none, rfl, rfl⟩
  | some g =>
    cases g with
    | none => exact act none hg
    | some tw =>
      obtain ⟨t, want⟩ := tw
      simp only []
      rw [hev t (looks_guard hg)]
      split
      · split
        · exact act _ hg
        · exact ⟨some .skip, rfl, rfl⟩
      · exact ⟨some .skip, rfl, rfl⟩
      · exact ⟨none, rfl, rfl⟩

theorem stepOp_loc {Q : Program} {cf : CF} {ops : List Oper} {s s2 : S} {o : Oper} (hev : ∀ t ∈ looks ops o, lk s2.tm t = lk s.tm t) (hn : s2.n = s.n) (hr : s2.rg = s.rg) :
    ∃ c, stepOp Q cf ops s o = fin s o.dst c ∧ stepOp Q cf ops s2 o = fin s2 o.dst c := by
  have ha : Alike s s2 o.op.operands.toList := ⟨hn, hr, evs_of hev⟩
  unfold stepOp
  cases hg : guardSlot ops o with
  | none => exact ⟨none, rfl, rfl⟩
  | some g =>
    cases g with
    | none => exact actOp_loc Q cf ha none
    | some tw =>
      obtain ⟨t, want⟩ := tw
      simp only []
      rw [hev t (looks_guard hg)]
      split
      · split
        · exact actOp_loc Q cf ha _
        · exact ⟨some (s.rg, .skip), rfl, by unfold fin; rw [← hr]⟩
      · exact ⟨some (s.rg, .skip), rfl, by unfold fin; rw [← hr]⟩
      · exact ⟨none, rfl, rfl⟩

theorem stepOp_frame {Q : Program} {cf : CF} {ops : List Oper} {s s1 : S} {o : Oper} (hk : 1 < opKind o) (h : stepOp Q cf ops s o = some s1) {m : Nat} (hm : ¬ inW (infoOf Q ops s o).ws m) : lk s1.rg m = lk s.rg m := by
  unfold stepOp at h
  unfold infoOf at hm
  have hb : Nat.ble (opKind o) 1 = false := by
    cases hx : Nat.ble (opKind o) 1 with
    | false => rfl
    | true => rw [Nat.ble_eq] at hx; omega
  cases hg : guardSlot ops o with
  | none => simp [hg] at h
  | some g =>
    simp only [hg, hb, Bool.false_eq_true, if_false] at hm
    cases g with
    | none => simp only [hg] at h; exact actOp_frame h hm
    | some tw =>
      obtain ⟨t, want⟩ := tw
      simp only [hg] at h
      split at h
      · split at h
        · exact actOp_frame h hm
        · rw [put_frame h]
      · rw [put_frame h]
      · cases h
end Pi

