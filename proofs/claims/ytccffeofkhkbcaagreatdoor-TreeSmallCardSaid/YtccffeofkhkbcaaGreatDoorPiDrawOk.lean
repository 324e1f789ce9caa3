/- The text PiDrawOk. -/
import Derived.Test.YtccffeofkhkbcaaGreatDoorPiWr
/- Regions that draw their order: every order comes out as the text's. -/
namespace Pi
open Go

theorem allFrom_get {α : Type} {f : Nat → α → Bool} : ∀ (l : List α) (i0 : Nat), allFrom f i0 l = true → ∀ i x, l[i]? = some x → f (i0 + i) x = true
  | [], i0, _, i, x, hx => by simp at hx
  | y :: r, i0, h, i, x, hx => by
    simp only [allFrom, Bool.and_eq_true] at h
    cases i with
    | zero => simp at hx; subst hx; exact h.1
    | succ i =>
      have := allFrom_get r (i0 + 1) h.2 i x (by simpa using hx)
      have e : i0 + 1 + i = i0 + (i + 1) := by omega
      rwa [e] at this

theorem pairsFrom_get {α : Type} {f : Nat → α → Nat → α → Bool} : ∀ (l : List α) (i0 : Nat), pairsFrom f i0 l = true → ∀ i j x y, i < j → l[i]? = some x → l[j]? = some y → f (i0 + i) x (i0 + j) y = true
  | [], i0, _, i, j, x, y, _, hx, _ => by simp at hx
  | z :: r, i0, h, i, j, x, y, hij, hx, hy => by
    simp only [pairsFrom, Bool.and_eq_true] at h
    cases j with
    | zero => omega
    | succ j =>
      have e : i0 + 1 + j = i0 + (j + 1) := by omega
      cases i with
      | zero =>
        simp at hx
        subst hx
        have := allFrom_get r (i0 + 1) h.1 j y (by simpa using hy)
        rwa [e] at this
      | succ i =>
        have := pairsFrom_get r (i0 + 1) h.2 i j x y (by omega) (by simpa using hx) (by simpa using hy)
        have e2 : i0 + 1 + i = i0 + (i + 1) := by omega
        rwa [e, e2] at this

theorem put_spec {s s1 : S} {dst : Option Nat} {q : P} (h : s.put dst q = some s1) : s1.n = s.n ∧ s1.rg = s.rg ∧ (∀ d, dst = some d → lk s1.tm d = some q) ∧
    (∀ t, dst ≠ some t → lk s1.tm t = lk s.tm t) := by
  unfold S.put at h
  split at h
  · simp at h; subst h; exact ⟨rfl, rfl, fun d hd => (by cases hd), fun t _ => rfl⟩
  · rename_i d
    split at h
    · simp at h
      subst h
      exact ⟨rfl, rfl, fun d' hd => (by cases hd; exact lk_ins_same _ _ _), fun u hu => lk_ins_ne _ _ (fun e => hu (by rw [e]))⟩
    · cases h

theorem put_some {s s1 s2 : S} {dst : Option Nat} {q : P} (h : s.put dst q = some s1) (hn : s2.n = s.n) : ∃ s3, s2.put dst q = some s3 := by
  unfold S.put at h ⊢
  split at h
  · exact ⟨_, rfl⟩
  · rw [hn]
    split at h
    · rename_i hb; rw [if_pos hb]; exact ⟨_, rfl⟩
    · cases h

/-- What a look-up finds is the same. -/
def LookEq (Q : Program) (ops : List Oper) (s : S) (x : Oper) (R R' : List (Nat × En)) : Prop :=
  (∃ t m k, x.op = .lookup t m k false) ∧ ∀ g, guardSlot ops x = some g → pv Q (s.wr R') x g = pv Q (s.wr R) x g

structure Text (Q : Program) (cf : CF) (ops : List Oper) (M : List Nat) (St : Nat → S) : Prop where
  fix : ∀ i o, ops[i]? = some o → fixB M i o = true
  pair : ∀ i j x y, i < j → ops[i]? = some x → ops[j]? = some y → pairB ops M i x j y = true
  run : ∀ i o, ops[i]? = some o → stepOp Q cf ops (St i) o = some (St (i + 1))
  info : ∀ i j x y, i < j → ops[i]? = some x → ops[j]? = some y → Nat.testBit (M.getD j 0) i = false →
    (opKind x = 0 ∨ opKind y = 0 ∨ (opKind x ≤ 1 ∧ opKind y ≤ 1)) ∨ apartI (infoOf Q ops (St i) x) (infoOf Q ops (St j) y) = true ∨
    ((infoOf Q ops (St i) x).pure = true ∧ ((∀ n ∈ (infoOf Q ops (St i) x).ns, lk (St (j + 1)).rg n = lk (St j).rg n) ∨ LookEq Q ops (St i) x (St j).rg (St (j + 1)).rg)) ∨
    ((infoOf Q ops (St j) y).pure = true ∧ ((∀ n ∈ (infoOf Q ops (St j) y).ns, lk (St (i + 1)).rg n = lk (St i).rg n) ∨ LookEq Q ops (St j) y (St i).rg (St (i + 1)).rg))

section
variable {Q : Program} {cf : CF} {ops : List Oper} {M : List Nat} {St : Nat → S} (tx : Text Q cf ops M St)
include tx

theorem Text.back {i : Nat} {o : Oper} (ho : ops[i]? = some o) {e : Edge} (he : e ∈ o.after) (hb : Region.binds .any e = true) : e.on < i := by
  have := tx.fix i o ho
  simp only [fixB, Bool.and_eq_true] at this
  have h := List.all_eq_true.1 this.1.2 e (by simpa using he)
  simp [hb] at h
  exact h

theorem Text.mask {i : Nat} {o : Oper} (ho : ops[i]? = some o) : M.getD i 0 = maskOf M o.after.toList := by
  have := tx.fix i o ho
  simp only [fixB, Bool.and_eq_true] at this
  exact Nat.eq_of_beq_eq_true this.1.1

omit tx in
theorem maskOf_bit (acc : List Nat) (j : Nat) : ∀ (es : List Edge), Nat.testBit (maskOf acc es) j = true → ∃ e ∈ es, Region.binds .any e = true ∧ (j = e.on ∨ Nat.testBit (acc.getD e.on 0) j = true)
  | [], h => by simp [maskOf] at h
  | e :: es, h => by
    simp only [maskOf] at h
    split at h
    · rename_i hb
      have h' : Nat.testBit ((1 <<< e.on ||| acc.getD e.on 0) ||| maskOf acc es) j = true := h
      rw [Nat.testBit_or, Nat.testBit_or] at h'
      simp only [Bool.or_eq_true] at h'
      rcases h' with (h' | h') | h'
      · refine ⟨e, by simp, hb, .inl ?_⟩
        rw [Nat.testBit_shiftLeft] at h'
        simp only [Bool.and_eq_true, decide_eq_true_eq, ge_iff_le] at h'
        obtain ⟨h1, h2⟩ := h'
        cases hd : j - e.on with
        | zero => omega
        | succ n => rw [hd] at h2; simp [Nat.testBit_succ] at h2
      · exact ⟨e, by simp, hb, .inr h'⟩
      · obtain ⟨e', he', h1, h2⟩ := maskOf_bit acc j es h'
        exact ⟨e', by simp [he'], h1, h2⟩
    · obtain ⟨e', he', h1, h2⟩ := maskOf_bit acc j es h
      exact ⟨e', by simp [he'], h1, h2⟩

omit tx in
def Clos (ops : List Oper) (L : Nat → Prop) : Prop := ∀ i o, ops[i]? = some o → L i → ∀ e ∈ o.after, Region.binds .any e = true → L e.on

theorem Text.sub {L : Nat → Prop} (hL : Clos ops L) : ∀ (i : Nat) (o : Oper), ops[i]? = some o → (∀ e ∈ o.after, Region.binds .any e = true → L e.on) → ∀ j, Nat.testBit (M.getD i 0) j = true → L j := by
  intro i
  induction i using Nat.strongRecOn with
  | ind i ih =>
    intro o ho he j hj
    rw [tx.mask ho] at hj
    obtain ⟨e, hm, hb, h⟩ := maskOf_bit M j _ hj
    have hm : e ∈ o.after := by simpa using hm
    rcases h with h | h
    · rw [h]; exact he e hm hb
    · have hlt := tx.back ho hm hb
      have hlen : i < ops.length := (List.getElem?_eq_some_iff.1 ho).1
      have ho' : ops[e.on]? = some ops[e.on] := List.getElem?_eq_getElem (by omega)
      exact ih e.on hlt _ ho' (hL e.on _ ho' (he e hm hb)) j h

theorem Text.lt {i : Nat} {o : Oper} (ho : ops[i]? = some o) {j : Nat} (hj : Nat.testBit (M.getD i 0) j = true) : j < i :=
  tx.sub (L := (· < i)) (fun _ _ hk hlt _ he hb => Nat.lt_trans (tx.back hk he hb) hlt) i o ho (fun _ he hb => tx.back ho he hb) j hj

theorem Text.inj {i j : Nat} {x y : Oper} (hx : ops[i]? = some x) (hy : ops[j]? = some y) (hne : i ≠ j) {d : Nat} (hd : x.dst = some d) : y.dst ≠ some d := by
  intro hd'
  have key : ∀ {i j : Nat} {x y : Oper}, i < j → ops[i]? = some x → ops[j]? = some y → x.dst = some d → y.dst = some d → False := by
    intro i j x y hij hx hy hd hd'
    have := tx.pair i j x y hij hx hy
    simp [pairB, sameDst, hd, hd'] at this
  rcases Nat.lt_or_gt_of_ne hne with h | h
  · exact key h hx hy hd hd'
  · exact key h hy hx hd' hd

theorem Text.rel {i j : Nat} {x y : Oper} (hx : ops[i]? = some x) (hy : ops[j]? = some y) (hne : i ≠ j) {d : Nat} (hd : x.dst = some d) (hl : d ∈ looks ops y) :
    (i < j ∧ Nat.testBit (M.getD j 0) i = true) ∨ (j < i ∧ Nat.testBit (M.getD i 0) j = true) := by
  have hm : memN d (looks ops y) = true := (memN_spec _ _).2 hl
  rcases Nat.lt_or_gt_of_ne hne with h | h
  · refine .inl ⟨h, ?_⟩
    have := tx.pair i j x y h hx hy
    simp only [pairB, dstIn, hd, hm, Bool.and_eq_true, Bool.or_eq_true] at this
    rcases this.2 with h1 | h1
    · exact h1
    · simp at h1
  · refine .inr ⟨h, ?_⟩
    have := tx.pair j i y x h hy hx
    simp only [pairB, dstIn, hd, hm, Bool.and_eq_true, Bool.or_eq_true] at this
    rcases this.2 with h1 | h1
    · exact h1
    · simp at h1

theorem Text.kinds {i j : Nat} {x y : Oper} (hij : i < j) (hx : ops[i]? = some x) (hy : ops[j]? = some y) : Nat.testBit (M.getD j 0) i = true ∨ opKind x ≤ 1 ∨ opKind y ≤ 1 := by
  have := tx.pair i j x y hij hx hy
  simp only [pairB, Bool.and_eq_true, Bool.or_eq_true, Nat.ble_eq] at this
  rcases this.2 with h | h
  · exact .inl h
  · exact .inr h.2

theorem Text.step {i : Nat} {o : Oper} (ho : ops[i]? = some o) : ∃ R q, (⟨(St i).n, (St i).tm, R⟩ : S).put o.dst q = some (St (i + 1)) := by
  obtain ⟨c, h2, _⟩ := stepOp_loc (Q := Q) (cf := cf) (ops := ops) (s := St i) (s2 := St i) (o := o) (fun _ _ => rfl) rfl rfl
  rw [tx.run i o ho] at h2
  cases c with
  | none => cases h2
  | some x => exact ⟨x.1, x.2, h2.symm⟩

theorem Text.inv : ∀ (i : Nat), i ≤ ops.length → (St i).n = (St 0).n ∧
    (∀ t, (∀ k o, k < i → ops[k]? = some o → o.dst ≠ some t) → lk (St i).tm t = lk (St 0).tm t)
  | 0, _ => ⟨rfl, fun _ _ => rfl⟩
  | i + 1, hi => by
    obtain ⟨h1, h3⟩ := Text.inv i (by omega)
    have ho : ops[i]? = some ops[i] := List.getElem?_eq_getElem (by omega)
    obtain ⟨R, q, hg⟩ := tx.step ho
    obtain ⟨g1, g2, g3, g4⟩ := put_spec hg
    refine ⟨g1.trans h1, fun t ht => ?_⟩
    rw [g4 t (ht i _ (by omega) ho)]
    exact h3 t (fun k o hk => ht k o (by omega))

theorem Text.keep {i : Nat} {o : Oper} (ho : ops[i]? = some o) {t : Nat} (ht : o.dst ≠ some t) : lk (St (i + 1)).tm t = lk (St i).tm t := by
  obtain ⟨R, q, hg⟩ := tx.step ho
  exact (put_spec hg).2.2.2 t ht

theorem Text.stay {i : Nat} {o : Oper} (ho : ops[i]? = some o) {t : Nat} (ht : o.dst = some t) : ∀ k, i < k → k ≤ ops.length → lk (St k).tm t = lk (St (i + 1)).tm t
  | 0, hk, _ => by omega
  | k + 1, hk, hl => by
    rcases Nat.eq_or_lt_of_le hk with h | h
    · have e : i = k := by omega
      rw [e]
    · have hok : ops[k]? = some ops[k] := List.getElem?_eq_getElem (by omega)
      rw [tx.keep hok (tx.inj ho hok (by omega) ht)]
      exact Text.stay ho ht k (by omega) (by omega)

/-- The objects at a name, over a stretch that does not write there. -/
theorem Text.stretch {n : Nat} {i : Nat} : ∀ (k : Nat), i ≤ k → k ≤ ops.length → (∀ j x, i ≤ j → j < k → ops[j]? = some x → opKind x ≤ 1 ∨ ¬ inW (infoOf Q ops (St j) x).ws n ∨ lk (St (j + 1)).rg n = lk (St j).rg n) → lk (St k).rg n = lk (St i).rg n
  | 0, hk, _, _ => by have e : i = 0 := by omega
                      rw [e]
  | k + 1, hk, hl, h => by
    rcases Nat.eq_or_lt_of_le hk with he | hlt
    · rw [he]
    · have hok : ops[k]? = some ops[k] := List.getElem?_eq_getElem (by omega)
      rw [← Text.stretch k (by omega) (by omega) (fun j x h1 h2 => h j x h1 (by omega))]
      by_cases hk1 : opKind ops[k] ≤ 1
      · obtain ⟨c, h2, _⟩ := stepOp_pure (Q := Q) (cf := cf) (ops := ops) (s := St k) (s2 := St k) (o := ops[k]) hk1 (fun _ _ => rfl) rfl (.inr fun g _ x _ n v _ => rfl)
        rw [tx.run k _ hok] at h2
        cases c with
        | none => cases h2
        | some q => rw [(put_spec h2.symm).2.1]
      · rcases h k _ (by omega) (by omega) hok with h' | h' | h'
        · exact absurd h' hk1
        · exact stepOp_frame (by omega) (tx.run k _ hok) h'
        · exact h'

theorem Text.rgConst {i : Nat} : ∀ (k : Nat), i ≤ k → k ≤ ops.length → (∀ j x, i ≤ j → j < k → ops[j]? = some x → opKind x ≤ 1) → (St k).rg = (St i).rg
  | 0, hk, _, _ => by have e : i = 0 := by omega
                      rw [e]
  | k + 1, hk, hl, h => by
    rcases Nat.eq_or_lt_of_le hk with he | hlt
    · rw [he]
    · have hok : ops[k]? = some ops[k] := List.getElem?_eq_getElem (by omega)
      rw [← Text.rgConst k (by omega) (by omega) (fun j x h1 h2 => h j x h1 (by omega))]
      obtain ⟨c, h2, _⟩ := stepOp_pure (Q := Q) (cf := cf) (ops := ops) (s := St k) (s2 := St k) (o := ops[k]) (h k _ (by omega) (by omega) hok) (fun _ _ => rfl) rfl (.inr fun g _ x _ n v _ => rfl)
      rw [tx.run k _ hok] at h2
      cases c with
      | none => cases h2
      | some q => rw [(put_spec h2.symm).2.1]

omit tx in
structure Inv (ops : List Oper) (St : Nat → S) (L : Nat → Prop) (s : S) : Prop where
  n : s.n = (St 0).n
  tm1 : ∀ i o t, ops[i]? = some o → L i → o.dst = some t → lk s.tm t = lk (St ops.length).tm t
  tm2 : ∀ t, (∀ i o, ops[i]? = some o → L i → o.dst ≠ some t) → lk s.tm t = lk (St 0).tm t
  rg : ∃ k, k ≤ ops.length ∧ s.rg = (St k).rg ∧ ∀ i o, ops[i]? = some o → 1 < opKind o → (i < k ↔ L i)

omit tx in
theorem memW {ns : List Nat} {W : List Nat × Nat × Nat} (h : disjW ns W = true) {n : Nat} (hn : n ∈ ns) : ¬ inW W n := by
  unfold disjW at h
  have := List.all_eq_true.1 h n hn
  simp only [Bool.and_eq_true, Bool.not_eq_true', Bool.and_eq_false_iff] at this
  intro hw
  rcases hw with hw | hw
  · have h1 : memN n W.1 = true := (memN_spec _ _).2 hw
    rw [h1] at this
    simp at this
  · rcases this.2 with h2 | h2
    · have : Nat.ble W.2.1 n = true := Nat.ble_eq_true_of_le hw.1
      rw [this] at h2; cases h2
    · have : Nat.blt n W.2.2 = true := by simp [Nat.blt]; omega
      rw [this] at h2; cases h2

omit tx in
theorem names_mem : ∀ (ps : List P) (p : P) (n v : Nat), p ∈ ps → p.name = some (n, v) → n ∈ namesOf ps
  | [], p, n, v, h, _ => by simp at h
  | q :: r, p, n, v, h, hn => by
    simp only [namesOf]
    rcases List.mem_cons.1 h with h | h
    · subst h; rw [hn]; simp
    · have := names_mem r p n v h hn
      split
      · exact List.mem_cons_of_mem _ this
      · exact this

omit tx in
theorem info_pure {s : S} {o : Oper} (hk : opKind o ≤ 1) {g : Option (Nat × Bool)} (hg : guardSlot ops o = some g) : (infoOf Q ops s o).pure = true ∧ (opKind o ≠ 0 → (infoOf Q ops s o).ns = namesOf (o.op.operands.toList.map (s.eg g))) := by
  unfold infoOf
  rw [hg]
  simp only [Nat.ble_eq_true_of_le hk, if_true, true_and]
  intro h0
  have : Nat.beq (opKind o) 0 = false := by
    cases hb : Nat.beq (opKind o) 0 with
    | false => rfl
    | true => exact absurd (Nat.eq_of_beq_eq_true hb) h0
  rw [this]; rfl

omit tx in
theorem info_eff {s : S} {o : Oper} (hk : 1 < opKind o) : (infoOf Q ops s o).pure = false := by
  unfold infoOf
  have hb : Nat.ble (opKind o) 1 = false := by
    cases hx : Nat.ble (opKind o) 1 with
    | false => rfl
    | true => rw [Nat.ble_eq] at hx; omega
  split
  · rfl
  · rw [hb]; rfl

theorem Text.go {L : Nat → Prop} (hL : Clos ops L) {s : S} (hi : Inv ops St L s) {i : Nat} {o : Oper} (ho : ops[i]? = some o) (hno : ¬ L i) (he : ∀ e ∈ o.after, Region.binds .any e = true → L e.on) :
    ∃ s1, stepOp Q cf ops s o = some s1 ∧ Inv ops St (fun j => L j ∨ j = i) s1 := by
  have hil : i < ops.length := (List.getElem?_eq_some_iff.1 ho).1
  have hsub := tx.sub hL i o ho he
  have hsup : ∀ j x, ops[j]? = some x → L j → Nat.testBit (M.getD j 0) i = false := fun j x hx hj => by
    cases hb : Nat.testBit (M.getD j 0) i with
    | false => rfl
    | true => exact absurd (tx.sub hL j x hx (hL j x hx hj) i hb) hno
  obtain ⟨n1, n3⟩ := tx.inv i (by omega)
  have hlook : ∀ t ∈ looks ops o, lk s.tm t = lk (St i).tm t := by
    intro t ht
    by_cases hex : ∃ (k : Nat) (x : Oper), ops[k]? = some x ∧ x.dst = some t
    · obtain ⟨k, x, hk, hd⟩ := hex
      have hkl : k < ops.length := (List.getElem?_eq_some_iff.1 hk).1
      by_cases hki : k = i
      · subst hki
        rw [hi.tm2 t (fun j y hj hLj hdj => by
          by_cases e : j = k
          · rw [e] at hLj; exact hno hLj
          · exact tx.inj hj hk e hdj hd), n3 t (fun j y hlt hj hdj => tx.inj hj hk (by omega) hdj hd)]
      · rcases tx.rel hk ho hki hd ht with ⟨h1, h2⟩ | ⟨h1, h2⟩
        · rw [hi.tm1 k x t hk (hsub k h2) hd, tx.stay hk hd _ hkl (Nat.le_refl _), tx.stay hk hd i h1 (by omega)]
        · rw [hi.tm2 t (fun j y hj hLj hdj => by
            by_cases e : j = k
            · subst e
              have := hsup j y hj hLj
              rw [h2] at this; cases this
            · exact tx.inj hj hk e hdj hd), n3 t (fun j y hlt hj hdj => tx.inj hj hk (by omega) hdj hd)]
    · rw [hi.tm2 t (fun j y hj _ hdj => hex ⟨j, y, hj, hdj⟩), n3 t (fun j y _ hj hdj => hex ⟨j, y, hj, hdj⟩)]
  have hnn : s.n = (St i).n := by rw [hi.n, n1]
  obtain ⟨k, hkl, hkr, hke⟩ := hi.rg
  -- the temporaries, once the step is known
  have tmDone : ∀ (R : List (Nat × En)) (q : P) (s1 : S), (∀ d, o.dst = some d → lk (St (i + 1)).tm d = some q) → (⟨s.n, s.tm, R⟩ : S).put o.dst q = some s1 →
      (∃ k, k ≤ ops.length ∧ R = (St k).rg ∧ ∀ j x, ops[j]? = some x → 1 < opKind x → (j < k ↔ (L j ∨ j = i))) → Inv ops St (fun j => L j ∨ j = i) s1 := by
    intro R q s1 hval hgive hrg
    obtain ⟨g1, g2, g3, g4⟩ := put_spec hgive
    have keep : ∀ t, o.dst ≠ some t → lk s1.tm t = lk s.tm t := fun t ht => g4 t ht
    refine ⟨g1.trans hi.n, fun j y t hj hLj hd => ?_, fun t ht => ?_, ?_⟩
    · rcases hLj with hLj | rfl
      · have hne : j ≠ i := fun e => hno (e ▸ hLj)
        rw [keep t (tx.inj hj ho hne hd), hi.tm1 j y t hj hLj hd]
      · rw [ho] at hj
        cases hj
        rw [g3 t hd, tx.stay ho hd _ hil (Nat.le_refl _), hval t hd]
    · rw [keep t (ht i o ho (.inr rfl)), hi.tm2 t (fun j y hj hLj => ht j y hj (.inl hLj))]
    · rw [g2]; exact hrg
  by_cases hk : opKind o ≤ 1
  · -- it changes nothing
    -- each step between leaves what is looked at as it was, or what is found
    have hstep : ∀ g, guardSlot ops o = some g → opKind o ≠ 0 → ∀ j y, ops[j]? = some y → 1 < opKind y → (j < i ∧ ¬ L j ∨ i ≤ j ∧ L j) →
        (∀ n ∈ (infoOf Q ops (St i) o).ns, lk (St (j + 1)).rg n = lk (St j).rg n) ∨ LookEq Q ops (St i) o (St j).rg (St (j + 1)).rg := by
      intro g hg h0 j y hj hy hc
      have p1 := (info_pure (Q := Q) (s := St i) hk hg).1
      have byW : apartI (infoOf Q ops (St i) o) (infoOf Q ops (St j) y) = true ∨ apartI (infoOf Q ops (St j) y) (infoOf Q ops (St i) o) = true → ∀ n ∈ (infoOf Q ops (St i) o).ns, lk (St (j + 1)).rg n = lk (St j).rg n := by
        intro h3 n hn
        refine stepOp_frame (by omega) (tx.run j y hj) ?_
        unfold apartI at h3
        rw [p1, info_eff (o := y) (by omega)] at h3
        simp only [Bool.false_eq_true, if_false, if_true, or_self] at h3
        exact memW h3 hn
      rcases hc with ⟨hlt, hLj⟩ | ⟨hle, hLj⟩
      · have hbit : Nat.testBit (M.getD i 0) j = false := by
          cases hb : Nat.testBit (M.getD i 0) j with
          | false => rfl
          | true => exact absurd (hsub j hb) hLj
        rcases tx.info j i y o hlt hj ho hbit with h3 | h3 | h3 | h3
        · omega
        · exact .inl (byW (.inr h3))
        · rw [info_eff (o := y) (by omega)] at h3
          cases h3.1
        · exact h3.2
      · have hne : j ≠ i := fun e => hno (e ▸ hLj)
        rcases tx.info i j o y (by omega) ho hj (hsup j y hj hLj) with h3 | h3 | h3 | h3
        · omega
        · exact .inl (byW (.inl h3))
        · exact h3.2
        · rw [info_eff (o := y) (by omega)] at h3
          cases h3.1
    have pureRg : ∀ j y, ops[j]? = some y → opKind y ≤ 1 → (St (j + 1)).rg = (St j).rg := fun j y hj hy => by
      have hjl : j < ops.length := (List.getElem?_eq_some_iff.1 hj).1
      exact tx.rgConst (i := j) (j + 1) (by omega) (by omega) fun j' y' h1 h2 hj' => by
        have : j' = j := by omega
        subst this
        rw [hj] at hj'
        cases hj'
        exact hy
    -- over a stretch
    have chain : ∀ {C : List (Nat × En) → Prop}, (∀ j y, ops[j]? = some y → (j < i ∧ ¬ L j ∨ i ≤ j ∧ L j) → 1 < opKind y → (C (St j).rg ↔ C (St (j + 1)).rg)) → (C (St i).rg ↔ C s.rg) := by
      intro C hC
      rw [hkr]
      have go : ∀ d lo, lo + d ≤ ops.length → (∀ j, lo ≤ j → j < lo + d → ∀ y, ops[j]? = some y → 1 < opKind y → (j < i ∧ ¬ L j ∨ i ≤ j ∧ L j)) → (C (St lo).rg ↔ C (St (lo + d)).rg) := by
        intro d
        induction d with
        | zero => intro lo _ _; exact Iff.rfl
        | succ d ih =>
          intro lo hl hin
          refine (ih lo (by omega) fun j h1 h2 => hin j h1 (by omega)).trans ?_
          have hok : ops[lo + d]? = some ops[lo + d] := List.getElem?_eq_getElem (by omega)
          by_cases hy : opKind ops[lo + d] ≤ 1
          · rw [show lo + (d + 1) = lo + d + 1 by omega, pureRg _ _ hok hy]
          · exact hC _ _ hok (hin _ (by omega) (by omega) _ hok (by omega)) (by omega)
      rcases Nat.le_total k i with hki | hki
      · have := go (i - k) k (by omega) fun j h1 h2 y hj hy => .inl ⟨by omega, fun h => by have := (hke j y hj hy).2 h; omega⟩
        rw [show k + (i - k) = i by omega] at this
        exact this.symm
      · have := go (k - i) i (by omega) fun j h1 h2 y hj hy => .inr ⟨h1, (hke j y hj hy).1 (by omega)⟩
        rw [show i + (k - i) = k by omega] at this
        exact this
    have hcase : (opKind o = 0 ∨ ∀ g, guardSlot ops o = some g → ∀ x ∈ o.op.operands.toList, Agree s.rg (St i).rg ((St i).eg g x)) ∨ ((∃ t m k, o.op = .lookup t m k false) ∧ ∀ g, guardSlot ops o = some g → pv Q ((St i).wr s.rg) o g = pv Q (St i) o g) := by
      by_cases h0 : opKind o = 0
      · exact .inl (.inl h0)
      · cases hg : guardSlot ops o with
        | none => exact .inl (.inr fun g hg' => by cases hg')
        | some g =>
          have p2 := (info_pure (Q := Q) (s := St i) hk hg).2 h0
          have agr : ∀ R R' : List (Nat × En), (∀ n ∈ (infoOf Q ops (St i) o).ns, lk R' n = lk R n) → ∀ x ∈ o.op.operands.toList, Agree R' R ((St i).eg g x) := fun R R' hRR x hx n v hn => by
            refine hRR n ?_
            rw [p2]
            exact names_mem _ _ n v (List.mem_map_of_mem hx) hn
          by_cases hlk : ∃ t m k, o.op = .lookup t m k false
          · refine .inr ⟨hlk, fun g' hg' => ?_⟩
            cases hg'
            have := chain (C := fun R => pv Q ((St i).wr R) o g = pv Q (St i) o g) fun j y hj hc hy => by
              have e : pv Q ((St i).wr (St (j + 1)).rg) o g = pv Q ((St i).wr (St j).rg) o g := by
                rcases hstep g hg h0 j y hj hy hc with h3 | h3
                · exact pv_wr (s := (St i).wr (St j).rg) (R := (St (j + 1)).rg) (.inr (agr _ _ h3))
                · exact h3.2 g hg
              rw [e]
            exact this.1 rfl
          · refine .inl (.inr fun g' hg' x hx n v hn => ?_)
            cases hg'
            have hmem : n ∈ (infoOf Q ops (St i) o).ns := by
              rw [p2]
              exact names_mem _ _ n v (List.mem_map_of_mem hx) hn
            have := chain (C := fun R => lk R n = lk (St i).rg n) fun j y hj hc hy => by
              rcases hstep g hg h0 j y hj hy hc with h3 | h3
              · rw [h3 n hmem]
              · exact absurd h3.1 hlk
            exact this.1 rfl
    have hpure : ∃ c : Option P, stepOp Q cf ops (St i) o = (c.bind fun q => (St i).put o.dst q) ∧ stepOp Q cf ops s o = (c.bind fun q => s.put o.dst q) := by
      rcases hcase with hagree | ⟨hlk, hpv⟩
      · exact stepOp_pure (Q := Q) (cf := cf) (ops := ops) (s := St i) (s2 := s) (o := o) hk hlook hnn hagree
      · exact stepOp_look (Q := Q) (cf := cf) (ops := ops) (s := St i) (s2 := s) (o := o) hlk hlook hnn hpv
    obtain ⟨c, h1, h2⟩ := hpure
    rw [tx.run i o ho] at h1
    cases c with
    | none => cases h1
    | some q =>
      have h1 : (St i).put o.dst q = some (St (i + 1)) := h1.symm
      obtain ⟨s1, hs1⟩ := put_some h1 hnn
      refine ⟨s1, by rw [h2]; exact hs1, tmDone s.rg q s1 (put_spec h1).2.2.1 hs1 ⟨k, hkl, hkr, fun j y hj hy => ?_⟩⟩
      rw [hke j y hj hy]
      refine ⟨.inl, fun h => h.resolve_right fun e => ?_⟩
      subst e
      rw [ho] at hj
      cases hj
      omega
  · -- it does
    have hiff : ∀ j y, ops[j]? = some y → 1 < opKind y → (j < i ↔ L j) := fun j y hj hy => by
      constructor
      · intro hlt
        rcases tx.kinds hlt hj ho with h | h | h
        · exact hsub j h
        · omega
        · omega
      · intro hLj
        rcases Nat.lt_trichotomy j i with h | h | h
        · exact h
        · exact absurd (h ▸ hLj) hno
        · rcases tx.kinds h ho hj with h' | h' | h'
          · rw [hsup j y hj hLj] at h'; cases h'
          · omega
          · omega
    have hrg : s.rg = (St i).rg := by
      rw [hkr]
      rcases Nat.le_total k i with hki | hki
      · refine (tx.rgConst i hki (by omega) (fun j y h1 h2 hj => ?_)).symm
        by_cases hy : opKind y ≤ 1
        · exact hy
        · have := (hke j y hj (by omega)).2 ((hiff j y hj (by omega)).1 h2); omega
      · refine tx.rgConst k hki hkl (fun j y h1 h2 hj => ?_)
        by_cases hy : opKind y ≤ 1
        · exact hy
        · have := (hiff j y hj (by omega)).2 ((hke j y hj (by omega)).1 h2); omega
    obtain ⟨c, h1, h2⟩ := stepOp_loc (Q := Q) (cf := cf) (ops := ops) (s := St i) (s2 := s) (o := o) hlook hnn hrg
    rw [tx.run i o ho] at h1
    cases c with
    | none => cases h1
    | some x =>
      obtain ⟨R, q⟩ := x
      have h1 : (⟨(St i).n, (St i).tm, R⟩ : S).put o.dst q = some (St (i + 1)) := h1.symm
      obtain ⟨s1, hs1⟩ := put_some (s2 := ⟨s.n, s.tm, R⟩) h1 hnn
      refine ⟨s1, by rw [h2]; exact hs1, tmDone R q s1 (put_spec h1).2.2.1 hs1 ⟨i + 1, by omega, (put_spec h1).2.1.symm, fun j y hj hy => ?_⟩⟩
      rw [← hiff j y hj hy]
      omega

theorem Text.last {L : Nat → Prop} {s : S} (hi : Inv ops St L s) (hall : ∀ i o, ops[i]? = some o → L i) : s.n = (St ops.length).n ∧ s.rg = (St ops.length).rg ∧ ∀ t, lk s.tm t = lk (St ops.length).tm t := by
  obtain ⟨n1, n3⟩ := tx.inv ops.length (Nat.le_refl _)
  refine ⟨by rw [hi.n, n1], ?_, fun t => ?_⟩
  · obtain ⟨k, hkl, hkr, hke⟩ := hi.rg
    rw [hkr]
    refine (tx.rgConst ops.length hkl (Nat.le_refl _) (fun j y h1 h2 hj => ?_)).symm
    by_cases hy : opKind y ≤ 1
    · exact hy
    · have := (hke j y hj (by omega)).2 (hall j y hj); omega
  · by_cases hex : ∃ (k : Nat) (x : Oper), ops[k]? = some x ∧ x.dst = some t
    · obtain ⟨k, x, hk, hd⟩ := hex
      exact hi.tm1 k x t hk (hall k x hk) hd
    · rw [hi.tm2 t (fun j y hj _ hdj => hex ⟨j, y, hj, hdj⟩), n3 t (fun j y _ hj hdj => hex ⟨j, y, hj, hdj⟩)]
end
end Pi

