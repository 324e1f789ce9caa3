/- The text PiKOk4. -/
import Derived.Test.YtccffeofkhkbcaaGreatDoorPiDrawOk2
/- What the led run answers, the run answers. Part four: the rest. -/
namespace Pi
open Go

section
variable {Q : Program} {s : S}

theorem storeK_ok {t : TypeId} {p q : P} : KW (storeK Q s t p q) (fun s1 => storeP Q s t p q = some s1) := by
  unfold storeK
  split
  · rename_i n v i k' off
    split
    · exact KW.fail
    · rename_i k hk
      split
      · rename_i s1 x hf
        split
        · rename_i ty es ho
          split
          · rename_i k2 hk2
            split
            · rename_i hc
              refine KW.bind (p := fun _ => i < es.length) (KW.obl fun hb => by simpa using hb) fun _ hi => ?_
              refine KW.bind (etaD_ok Q ty _) fun y hy => KW.ret ?_
              simp only [storeP, hk, hf, ho, nth_some hi, hk2, if_pos hc, hy]
            · exact KW.fail
          · exact KW.fail
        · exact KW.fail
      · exact KW.fail
  · exact KW.ofO fun a h => h

theorem appendK_ok {dst : Option Nat} {t t2 : TypeId} {p q : P} : KW (appendK Q s dst t t2 p q) (fun s1 => appendP Q s dst t t2 p q = some s1) := by
  unfold appendK
  split
  · exact KW.fail
  · rename_i e he
    split
    · rename_i i k hi hk
      split
      · rename_i ys z hy hz
        split
        · rename_i hb
          split
          · rename_i n v len
            split
            · rename_i en hen
              split
              · rename_i ty es ho
                split
                · rename_i hc
                  refine KW.bind (p := fun _ => (Nat.ble len es.length && roomOk (len + ys.length) i.bytes) = true) (KW.obl fun hb => hb) fun _ hl => ?_
                  refine KW.ofO fun s1 h => ?_
                  have hc2 : (Nat.beq en.ver v && Nat.beq ty e && Nat.ble len es.length && roomOk (len + ys.length) i.bytes) = true := by
                    rw [Bool.and_assoc, hl]; simpa using hc
                  simp only [appendP, he, hi, hk, hy, hz, if_pos hb, hen, ho, if_pos hc2]
                  exact h
                · exact KW.fail
              · exact KW.fail
            · exact KW.fail
          · refine KW.bind (p := fun _ => roomOk ys.length i.bytes = true) (KW.obl fun hb => hb) fun _ hl => ?_
            split
            · rename_i s2 v hn
              refine KW.ofO fun s1 h => ?_
              simp only [appendP, he, hi, hk, hy, hz, if_pos hb, if_pos hl, hn]
              exact h
            · exact KW.fail
          · exact KW.fail
        · exact KW.fail
      · exact KW.fail
    · exact KW.fail

theorem makeK_ok {dst : Option Nat} {t : TypeId} {p q : P} : KW (makeK Q s dst t p q) (fun s1 => makeP Q s dst t p q = some s1) := by
  unfold makeK
  split
  · rename_i e k1 l k2 c h1
    split
    · rename_i i k z h2 h3 h4
      split
      · rename_i hz
        refine KW.bind (p := fun _ => decide (0 ≤ l ∧ l ≤ c ∧ c ≤ 9223372036854775807 ∧ (i.bytes : Int) * c ≤ 281474976710656) = true) (KW.obl fun hb => hb) fun _ hb => ?_
        have hc : (Nat.beq z.cells.length (k + 1) && decide (0 ≤ l ∧ l ≤ c ∧ c ≤ 9223372036854775807 ∧ (i.bytes : Int) * c ≤ 281474976710656)) = true := by rw [hz, hb]; rfl
        split
        · rename_i s1 v hn
          refine KW.ofO fun s2 hs => ?_
          simp only [makeP, h1, h2, h3, h4, if_pos hc, hn]
          exact hs
        · exact KW.fail
      · exact KW.fail
    · exact KW.fail
  · exact KW.fail

theorem copyK_ok {dst : Option Nat} {t t2 : TypeId} {p q : P} : KW (copyK Q s dst t t2 p q) (fun s1 => copyP Q s dst t t2 p q = some s1) := by
  unfold copyK
  split
  · rename_i e n v len h1
    split
    · rename_i k h2
      split
      · rename_i ys ty es h3 h4
        split
        · rename_i ht
          refine KW.bind (p := fun _ => decide (len ≤ es.length ∧ ys.length ≤ len) = true) (KW.obl fun hb => hb) fun _ hb => KW.ofO fun s2 hs => ?_
          have hc : (Nat.beq ty e && decide (len ≤ es.length ∧ ys.length ≤ len)) = true := by rw [ht, hb]; rfl
          simp only [copyP, h1, h2, h3, h4, if_pos hc]
          exact hs
        · exact KW.fail
      · exact KW.fail
    · exact KW.fail
  · exact KW.fail

theorem bytesB_ok : ∀ (ys : List D), bytesB ys = true → bytesD ys = some (bytesOf ys)
  | [], _ => rfl
  | x :: r, h => by
    unfold bytesB at h
    split at h
    · rename_i heq; cases heq
    · rename_i n r' heq
      simp only [List.cons.injEq] at heq
      obtain ⟨rfl, rfl⟩ := heq
      simp only [bytesD, bytesB_ok _ h]
      rfl
    · cases h

theorem execK_ok {o : Oper} {g : Option (Nat × Bool)} : KW (execK Q s o g) (fun s1 => exec Q s o g = some s1) := by
  unfold execK
  split
  · exact KW.ofO fun a h => h
  · rename_i hna
    split
    · rename_i he
      have hex : pv Q s o g = none → ∀ s1, ef Q s o g = some s1 → exec Q s o g = some s1 := fun hp s1 h => by
        unfold exec; simp only [hna, hp]; exact h
      unfold isEf at he
      unfold efK
      split
      · rename_i t ad x ho
        have hp : pv Q s o g = none := by unfold pv; rw [ho]
        refine KW.bind storeK_ok fun s1 h1 => KW.ofO fun s2 h2 => hex hp _ ?_
        unfold ef
        simp only [ho, h1]
        exact h2
      · rename_i t1 t2 x ho
        split
        · rename_i e h1 h2
          split
          · rename_i ys hu hs
            split
            · rename_i hrow
              have hp : pv Q s o g = none := by
                have : (s.eg g x).toV = none := by
                  cases hx : s.eg g x with
                  | sl n v len => rfl
                  | d y => rw [hx] at hrow; cases y <;> first | rfl | (simp [P.isRow] at hrow)
                  | _ => rw [hx] at hrow; simp [P.isRow] at hrow
                unfold pv
                simp only [ho, this]
              refine KW.bind (p := fun _ => bytesB ys = true) (KW.obl fun hb => hb) fun _ hb => KW.ofO fun s2 h3 => hex hp _ ?_
              unfold ef
              simp only [ho, h1, h2, hu, hs, bytesB_ok _ hb]
              exact h3
            · exact KW.fail
          · exact KW.fail
        · exact KW.fail
      · rename_i c ho
        split
        · rename_i hc
          have hp : pv Q s o g = none := by unfold pv; simp only [ho, hc]
          split
          · rename_i x y t t2 h1 h2
            refine appendK_ok.mono fun s1 h => hex hp _ ?_
            unfold ef
            simp only [ho, hc, h1, h2]
            exact h
          · exact KW.fail
        · rename_i hc
          have hp : pv Q s o g = none := by unfold pv; simp only [ho, hc]
          split
          · rename_i x y t t2 h1 h2
            refine copyK_ok.mono fun s1 h => hex hp _ ?_
            unfold ef
            simp only [ho, hc, h1, h2]
            exact h
          · exact KW.fail
        · exact KW.fail
      · rename_i t x y ho
        have hp : pv Q s o g = none := by unfold pv; rw [ho]
        refine makeK_ok.mono fun s1 h => hex hp _ ?_
        unfold ef
        simp only [ho]
        exact h
      · rename_i n1 n2 n3 n4
        have hp : pv Q s o g = none := by
          split at he
          · rename_i ho; unfold pv; rw [ho]
          · rename_i ho; unfold pv; rw [ho]
          · rename_i ho; exact absurd ho (n1 _ _ _)
          · rename_i ho; exact absurd ho (n2 _ _ _)
          · rename_i ho; exact absurd ho (n3 _)
          · rename_i ho; exact absurd ho (n4 _ _ _)
          · rename_i ho; unfold pv; rw [ho]
          · rename_i ho; unfold pv; rw [ho]
          · rename_i ho; unfold pv; rw [ho]
          · rename_i ho; unfold pv; rw [ho]
          · rename_i ho; unfold pv; rw [ho]
          · rename_i ho; unfold pv; rw [ho]
          · rename_i ho; unfold pv; rw [ho]
          · cases he
        exact KW.ofO fun a h => hex hp _ h
    · refine KW.bind pvK_ok fun p hp => KW.ofO fun s1 h => ?_
      unfold exec
      simp only [hna, hp]
      exact h
end

/-- From some fuel on. -/
def Ev (p : Nat → Nat → Prop) : Prop := ∃ N, ∀ a b, N ≤ a → N ≤ b → p a b
theorem Ev.const {p : Prop} (h : p) : Ev fun _ _ => p := ⟨0, fun _ _ _ _ => h⟩
theorem Ev.mono {p q : Nat → Nat → Prop} (h : Ev p) (hpq : ∀ a b, p a b → q a b) : Ev q := by
  obtain ⟨N, h⟩ := h
  exact ⟨N, fun a b ha hb => hpq a b (h a b ha hb)⟩
theorem Ev.and {p q : Nat → Nat → Prop} (h : Ev p) (k : Ev q) : Ev fun a b => p a b ∧ q a b := by
  obtain ⟨N, h⟩ := h
  obtain ⟨M, k⟩ := k
  exact ⟨max N M, fun a b ha hb => ⟨h a b (by omega) (by omega), k a b (by omega) (by omega)⟩⟩
theorem Ev.mono2 {p q r : Nat → Nat → Prop} (h : Ev p) (k : Ev q) (hpq : ∀ a b, p a b → q a b → r a b) : Ev r := (h.and k).mono fun a b x => hpq a b x.1 x.2
theorem Ev.some {p : Nat → Nat → Prop} (h : Ev p) : ∃ a b, p a b := by
  obtain ⟨N, h⟩ := h
  exact ⟨N, N, h N N (Nat.le_refl _) (Nat.le_refl _)⟩

def KFOK (kf : KF) (cf : Nat → Nat → CF) : Prop := ∀ f ps R, KW (kf f ps R) (fun x => Ev fun a b => cf a b f ps R = some x)

section
variable {Q : Program} {kf : KF} {cf : Nat → Nat → CF} (hkf : KFOK kf cf)
include hkf

theorem callK_ok {s : S} {dst : Option Nat} {f : P} {args : List P} : KW (callK Q kf s dst f args) (fun s1 => Ev fun a b => callOp Q (cf a b) s dst f args = some s1) := by
  unfold callK
  split
  · rename_i fid caps
    split
    · exact KW.fail
    · rename_i s1 ps hf
      simp only []
      split
      · rename_i hn
        split
        · exact KW.fail
        · rename_i R0 hR0
          refine KW.bind (hkf _ _ _) fun x hx => ?_
          split
          · rename_i hm
            split
            · exact KW.fail
            · rename_i R2 h2
              split
              · exact KW.fail
              · rename_i R3 h3
                refine KW.ofO fun s2 h => hx.mono fun a b hx => ?_
                simp only [callOp, hf, if_pos hn, hR0, hx, if_pos hm, h2, h3]
                exact h
          · exact KW.fail
      · exact KW.fail
  · exact KW.fail

theorem actK_ok {s : S} {o : Oper} {g : Option (Nat × Bool)} : KW (actK Q kf s o g) (fun s1 => Ev fun a b => actOp Q (cf a b) s o g = some s1) := by
  unfold actK
  split
  · rename_i f xs hc
    exact (callK_ok hkf).mono fun s1 h => h.mono fun a b h => by unfold actOp; simp only [hc]; exact h
  · rename_i hc
    exact execK_ok.mono fun s1 h => Ev.const h |>.mono fun a b h => by unfold actOp; simp only [hc]; exact h

omit hkf in
theorem rep_self (t : Nat) (v : P) : ∀ (m : List (Nat × P)), lk m t = some v → rep t v m = m
  | [], h => rfl
  | (k, u) :: r, h => by
    simp only [lk] at h
    simp only [rep]
    split
    · rename_i hk; rw [if_pos hk] at h; simp only [Option.some.injEq] at h; rw [h]
    · rename_i hk; rw [if_neg hk] at h; rw [rep_self t v r h]

omit hkf in
def KnOK (kn : List (Nat × Bool)) (s : S) : Prop := ∀ t r, lk kn t = some r → lk s.tm t = some (.d (.bool r))

omit hkf in
theorem lk_filter (d : Nat) : ∀ (kn : List (Nat × Bool)) (t : Nat) (r : Bool), lk (kn.filter fun x => !Nat.beq x.1 d) t = some r → t ≠ d ∧ lk kn t = some r
  | [], t, r, h => by simp [lk] at h
  | (k, u) :: l, t, r, h => by
    simp only [List.filter_cons] at h
    split at h
    · rename_i hk
      simp only [lk] at h ⊢
      split
      · rename_i ht
        rw [if_pos ht] at h
        have e := Nat.eq_of_beq_eq_true ht
        subst e
        refine ⟨fun e => ?_, h⟩
        subst e
        simp at hk
      · rename_i ht
        rw [if_neg ht] at h
        exact lk_filter d l t r h
    · rename_i hk
      obtain ⟨h1, h2⟩ := lk_filter d l t r h
      refine ⟨h1, ?_⟩
      simp only [lk]
      have hk : Nat.beq k d = true := by simpa using hk
      have e := Nat.eq_of_beq_eq_true hk
      subst e
      have : Nat.beq k t = false := by
        cases hb : Nat.beq k t with
        | false => rfl
        | true => exact absurd (Nat.eq_of_beq_eq_true hb).symm h1
      rw [this]
      exact h2

omit hkf in
theorem KnOK.step {cf : CF} {ops : List Oper} {kn : List (Nat × Bool)} {s s1 : S} {o : Oper} (h : KnOK kn s) (hs : stepOp Q cf ops s o = some s1) : KnOK (unkn o.dst kn) s1 := by
  obtain ⟨c, h2, _⟩ := stepOp_loc (Q := Q) (cf := cf) (ops := ops) (s := s) (s2 := s) (o := o) (fun _ _ => rfl) rfl rfl
  rw [hs] at h2
  cases c with
  | none => cases h2
  | some x =>
    obtain ⟨_, _, _, g4⟩ := put_spec (h2.symm : (⟨s.n, s.tm, x.1⟩ : S).put o.dst x.2 = some s1)
    intro t r ht
    have key : o.dst ≠ some t ∧ lk kn t = some r := by
      unfold unkn at ht
      split at ht
      · rename_i hd; rw [hd]; exact ⟨by simp, ht⟩
      · rename_i d hd
        obtain ⟨k1, k2⟩ := lk_filter _ _ _ _ ht
        rw [hd]
        exact ⟨fun e => k1 (by simpa using e.symm), k2⟩
    have hv := h t r key.2
    rw [g4 t key.1]
    exact hv

omit hkf in
theorem genK_ok {ops : List Oper} {o : Oper} (s : S) : KW (genK ops o s) (fun s1 => s = s1) := by
  unfold genK
  split
  · split
    · rename_i d hd
      split
      · rename_i k z hz
        intro post hp
        have := hp z rfl
        rw [rep_self d _ _ hz] at this
        exact ⟨s, rfl, this⟩
      · exact KW.ret rfl
    · exact KW.ret rfl
  · exact KW.ret rfl
theorem stepK_ok {ops : List Oper} {kn : List (Nat × Bool)} {s : S} {o : Oper} (hkn : KnOK kn s) : KW (stepK Q kf ops kn s o) (fun x => (Ev fun a b => stepOp Q (cf a b) ops s o = some x.1) ∧ KnOK x.2 x.1) := by
  have go : ∀ {kn : List (Nat × Bool)}, KnOK kn s → ∀ s1, (Ev fun a b => stepOp Q (cf a b) ops s o = some s1) → ((Ev fun a b => stepOp Q (cf a b) ops s o = some s1) ∧ KnOK (unkn o.dst kn) s1) := fun hkn s1 h => ⟨h, by obtain ⟨a, b, h⟩ := h.some; exact hkn.step h⟩
  unfold stepK
  split
  · exact KW.fail
  · rename_i hg
    exact KW.bind (actK_ok hkf) fun s1 h => KW.bind (genK_ok s1) fun s2 h2 => by
      subst h2
      exact KW.ret (go hkn s1 (h.mono fun a b h => by unfold stepOp; simp only [hg]; exact h))
  · rename_i t want hg
    split
    · rename_i r hr
      have hb := hkn t r hr
      split
      · rename_i hw
        exact KW.bind (actK_ok hkf) fun s1 h => KW.bind (genK_ok s1) fun s2 h2 => by
          subst h2
          exact KW.ret (go hkn s1 (h.mono fun a b h => by unfold stepOp; simp only [hg, hb, if_pos hw]; exact h))
      · rename_i hw
        exact KW.bind (KW.ofO (p := fun s1 => s.put o.dst .skip = some s1) fun a h => h) fun s1 h => KW.ret (go hkn s1 ⟨0, fun a b _ _ => by unfold stepOp; simp only [hg, hb, if_neg hw]; exact h⟩)
    · split
      · rename_i b hb
        refine KW.bind (KW.dec (p := fun r => b = r) rfl) fun r hr => ?_
        subst hr
        have e : (⟨s.n, rep t (.d (.bool b)) s.tm, s.rg⟩ : S) = s := by rw [rep_self t _ _ hb]
        rw [e]
        have hkn' : KnOK ((t, b) :: kn) s := by
          intro t' r' h'
          simp only [lk] at h'
          split at h'
          · rename_i ht
            have ht := Nat.eq_of_beq_eq_true ht
            subst ht
            simp only [Option.some.injEq] at h'
            subst h'
            exact hb
          · exact hkn t' r' h'
        split
        · rename_i hw
          exact KW.bind (actK_ok hkf) fun s1 h => KW.bind (genK_ok s1) fun s2 h2 => by
            subst h2
            exact KW.ret (go hkn' s1 (h.mono fun a b h => by unfold stepOp; simp only [hg, hb, if_pos hw]; exact h))
        · rename_i hw
          exact KW.bind (KW.ofO (p := fun s1 => s.put o.dst .skip = some s1) fun a h => h) fun s1 h => KW.ret (go hkn' s1 ⟨0, fun a b _ _ => by unfold stepOp; simp only [hg, hb, if_neg hw]; exact h⟩)
      · rename_i t' b' q hb
        exact KW.bind (KW.ofO (p := fun s1 => s.put o.dst .skip = some s1) fun a h => h) fun s1 h => KW.ret (go hkn s1 ⟨0, fun a b _ _ => by unfold stepOp; simp only [hg, hb]; exact h⟩)
      · exact KW.fail

omit hkf in
theorem KnOK.nil (s : S) : KnOK [] s := fun t r h => by simp [lk] at h

theorem regionK_ok {ops : List Oper} : ∀ (l : List Oper) (kn : List (Nat × Bool)) (s : S), KnOK kn s → KW (regionK Q kf ops l kn s) (fun s1 => Ev fun a b => regionRun Q (cf a b) ops l s = some s1)
  | [], _, s, _ => KW.ret (Ev.const rfl)
  | o :: r, kn, s, hkn => by
    unfold regionK
    refine KW.bind (stepK_ok hkf hkn) fun x hx => ?_
    rw [S.force_eq]
    refine (regionK_ok r x.2 x.1 hx.2).mono fun s2 h2 => hx.1.mono2 h2 fun a b hx h2 => ?_
    simp only [regionRun, hx]
    exact h2

theorem drawGoK_ok {ops : List Oper} : ∀ (l : List Oper) (kn : List (Nat × Bool)) (s : S), KnOK kn s → KW (drawGoK Q kf ops l kn s) (fun x => Ev fun a b => drawGo Q (cf a b) ops l s = some x)
  | [], _, s, _ => KW.ret (Ev.const rfl)
  | o :: r, kn, s, hkn => by
    unfold drawGoK
    refine KW.bind (stepK_ok hkf hkn) fun x hx => ?_
    rw [S.force_eq]
    refine KW.bind (drawGoK_ok r x.2 x.1 hx.2) fun y hy => KW.ret (hx.1.mono2 hy fun a b hx hy => ?_)
    simp only [drawGo, hx, hy]

theorem drawK_ok {ops : List Oper} {cls : Nat} (hcls : drawCls ops = cls) {s : S} : KW (drawK Q kf ops cls s) (fun s1 => Ev fun a b => drawRun Q (cf a b) ops s = some s1) := by
  subst hcls
  unfold drawK
  split
  · exact KW.fail
  · rename_i hc
    refine KW.bind (drawGoK_ok hkf ops [] _ (KnOK.nil _)) fun x hx post hp => ⟨x.1, hx.mono fun a b hx => ?_, pairsC_q _ _ _ hp⟩
    have h : infosC (masks ops []) x.2 True := pairsC_mono _ _ _ _ (fun _ => trivial) hp
    unfold drawRun
    simp only [hc, hx, if_pos h]
  · rename_i h0 h1
    refine (regionK_ok hkf ops [] _ (KnOK.nil _)).mono fun s1 h => h.mono fun a b h => ?_
    unfold drawRun
    split
    · rename_i hc; exact absurd hc h0
    · rename_i hc; exact absurd hc h1
    · exact h

/-- A loop that comes to 'x' from a state whose head is 's0'. -/
def LoopsTo (body : Nat → Nat → S → Option (PX × S)) (keep : Option (List Nat × List Nat)) (s0 : S) (x : PX × S) : Prop :=
  ∃ N, ∀ a b k, N ≤ a → N ≤ b → N ≤ k → ∀ s, headOf keep s = some s0 → ploop (body a b) keep k s = some x

/-- What a round does to a loop. -/
def RoundOK (body : S → Option (PX × S)) (keep : Option (List Nat × List Nat)) (s : S) (x : PX × S) : Prop :=
  match x.1 with
  | .normal => ∃ s1, body s = some (.normal, s1) ∧ headOf keep s1 = some x.2
  | e => ∃ s1, body s = some (e, s1) ∧ behindOf keep s1 = some x.2

omit hkf in
theorem roundK_ok {bodyK : S → K (PX × S)} {body : Nat → Nat → S → Option (PX × S)} {s : S} (hb : KW (bodyK s) (fun x => Ev fun a b => body a b s = some x)) {keep : Option (List Nat × List Nat)} : KW (roundK bodyK keep s) (fun x => Ev fun a b => RoundOK (body a b) keep s x) := by
  unfold roundK
  refine KW.bind hb fun x hx => ?_
  obtain ⟨e, s1⟩ := x
  cases e with
  | normal => exact KW.bind (KW.ofO fun a h => h) fun s2 h2 => KW.ret (hx.mono fun a b hx => ⟨s1, hx, h2⟩)
  | exit id => exact KW.bind (KW.ofO fun a h => h) fun s2 h2 => KW.ret (hx.mono fun a b hx => ⟨s1, hx, h2⟩)
  | ret => exact KW.bind (KW.ofO fun a h => h) fun s2 h2 => KW.ret (hx.mono fun a b hx => ⟨s1, hx, h2⟩)

omit hkf in
theorem LoopsTo.out {body : Nat → Nat → S → Option (PX × S)} {keep : Option (List Nat × List Nat)} {s0 : S} {x : PX × S} (hr : Ev fun a b => RoundOK (body a b) keep s0 x) (he : x.1 ≠ .normal) : LoopsTo body keep s0 x := by
  obtain ⟨N, hr⟩ := hr
  refine ⟨N + 1, fun a b k ha hb hk s hs => ?_⟩
  obtain ⟨e, s2⟩ := x
  have h := hr a b (by omega) (by omega)
  obtain ⟨k, rfl⟩ : ∃ k', k = k' + 1 := ⟨k - 1, by omega⟩
  cases e with
  | normal => exact absurd rfl he
  | exit id => obtain ⟨s1, h1, h2⟩ := h; simp only [] at h1 h2; simp only [ploop, hs, h1, h2]
  | ret => obtain ⟨s1, h1, h2⟩ := h; simp only [] at h1 h2; simp only [ploop, hs, h1, h2]

omit hkf in
theorem LoopsTo.on {body : Nat → Nat → S → Option (PX × S)} {keep : Option (List Nat × List Nat)} {s0 s2 : S} {x : PX × S} (hr : Ev fun a b => RoundOK (body a b) keep s0 (.normal, s2)) (h2 : LoopsTo body keep s2 x) : LoopsTo body keep s0 x := by
  obtain ⟨N, hr⟩ := hr
  obtain ⟨M, h2⟩ := h2
  refine ⟨max N M + 1, fun a b k ha hb hk s hs => ?_⟩
  obtain ⟨s1, h1, h3⟩ := hr a b (by omega) (by omega)
  obtain ⟨k, rfl⟩ : ∃ k', k = k' + 1 := ⟨k - 1, by omega⟩
  simp only [] at h1 h3
  simp only [ploop, hs, h1]
  exact h2 a b k (by omega) (by omega) (by omega) s1 h3

omit hkf in
theorem LoopsTo.ev {body : Nat → Nat → S → Option (PX × S)} {keep : Option (List Nat × List Nat)} {s s0 : S} {x : PX × S} (hs : headOf keep s = some s0) (h : LoopsTo body keep s0 x) : Ev fun a b => ploop (body a b) keep a s = some x := by
  obtain ⟨N, h⟩ := h
  exact ⟨N, fun a b ha hb => h a b a ha hb ha s hs⟩

omit hkf in
theorem ploopK_ok {bodyK : S → K (PX × S)} {body : Nat → Nat → S → Option (PX × S)} (hb : ∀ s, KW (bodyK s) (fun x => Ev fun a b => body a b s = some x)) {keep : Option (List Nat × List Nat)} : ∀ (k : Nat) (s : S), KW (ploopK bodyK keep k s) (fun x => ∃ s0, headOf keep s = some s0 ∧ LoopsTo body keep s0 x)
  | 0, s => KW.fail
  | k + 1, s => by
    unfold ploopK
    refine KW.bind (KW.ofO fun a h => h) fun s0 h0 => KW.bind (hb s0) fun x hx => ?_
    obtain ⟨e, s1⟩ := x
    cases e with
    | normal => exact (ploopK_ok hb k s1).mono fun y ⟨s2, g1, g2⟩ => ⟨s0, h0, LoopsTo.on (hx.mono fun a b hx => ⟨s1, hx, g1⟩) g2⟩
    | exit id => exact KW.bind (KW.ofO fun a h => h) fun s2 h2 => KW.ret ⟨s0, h0, LoopsTo.out (hx.mono fun a b hx => ⟨s1, hx, h2⟩) (by simp)⟩
    | ret => exact KW.bind (KW.ofO fun a h => h) fun s2 h2 => KW.ret ⟨s0, h0, LoopsTo.out (hx.mono fun a b hx => ⟨s1, hx, h2⟩) (by simp)⟩

/-- The loops in code: what they go through. -/
def loopsIn : Code → List Code
  | .seq a b => loopsIn a ++ loopsIn b
  | .cond _ a b => loopsIn a ++ loopsIn b
  | .block _ c | .scope c => loopsIn c
  | .loop c => c :: loopsIn c
  | _ => []

variable {kp : Nat → Option (List Nat × List Nat)} {hk : List (Nat × (S → K (PX × S)))} {dc : Nat → Nat} {lf : Nat}

/-- What a loop is told to do, it does. -/
def LoopOK (Q : Program) (cf : Nat → Nat → CF) (kp : Nat → Option (List Nat × List Nat)) (c : Code) (h : S → K (PX × S)) : Prop :=
  ∀ s, KW (h s) (fun x => Ev fun a b => ploop (pexec Q (cf a b) kp a c) (kp (Code.rid c)) a s = some x)

theorem pexecK_ok : ∀ (c : Code), clsOK dc c = true → (∀ d ∈ loopsIn c, ∀ h, lk hk (Code.rid d) = some h → LoopOK Q cf kp d h) → ∀ (s : S), KW (pexecK Q kf kp hk dc lf c s) (fun x => Ev fun a b => pexec Q (cf a b) kp a c s = some x)
  | .skip, _, _, s => KW.ret (Ev.const rfl)
  | .label _, _, _, s => KW.ret (Ev.const rfl)
  | .region id ops draw, hl, _, s => by
    unfold pexecK
    refine KW.bind (p := fun s1 => Ev fun a b => (if draw then drawRun Q (cf a b) ops.toList s else regionRun Q (cf a b) ops.toList ops.toList s) = some s1) ?_ fun s1 h1 => KW.ret (h1.mono fun a b h1 => ?_)
    · cases draw with
      | true => exact drawK_ok hkf (Nat.eq_of_beq_eq_true (by simpa [clsOK] using hl))
      | false => exact regionK_ok hkf _ [] _ (KnOK.nil _)
    · simp only [pexec, h1]
  | .seq x y, hl, hh, s => by
    unfold pexecK
    refine KW.bind (pexecK_ok x (Bool.and_eq_true _ _ ▸ hl : _ ∧ _).1 (fun d hd => hh d (by simp [loopsIn, hd])) s) fun z hz => ?_
    obtain ⟨e, s1⟩ := z
    cases e with
    | normal => exact (pexecK_ok y (Bool.and_eq_true _ _ ▸ hl : _ ∧ _).2 (fun d hd => hh d (by simp [loopsIn, hd])) s1).mono fun u hu => hz.mono2 hu fun a b hz hu => by simp only [pexec, hz]; exact hu
    | exit id => exact KW.ret (hz.mono fun a b hz => by simp only [pexec, hz])
    | ret => exact KW.ret (hz.mono fun a b hz => by simp only [pexec, hz])
  | .cond c x y, hl, hh, s => by
    unfold pexecK
    split
    · rename_i b hb
      refine KW.bind (KW.dec (p := fun r => b = r) rfl) fun r hr => ?_
      subst hr
      cases b with
      | true => exact (pexecK_ok x (Bool.and_eq_true _ _ ▸ hl : _ ∧ _).1 (fun d hd => hh d (by simp [loopsIn, hd])) s).mono fun z hz => hz.mono fun a b hz => by simp only [pexec, hb, if_true]; exact hz
      | false => exact (pexecK_ok y (Bool.and_eq_true _ _ ▸ hl : _ ∧ _).2 (fun d hd => hh d (by simp [loopsIn, hd])) s).mono fun z hz => hz.mono fun a b hz => by simp only [pexec, hb, Bool.false_eq_true, if_false]; exact hz
    · exact KW.fail
  | .block id c, hl, hh, s => by
    unfold pexecK
    refine KW.bind (pexecK_ok c hl (fun d hd => hh d (by simpa [loopsIn] using hd)) s) fun x hx => ?_
    obtain ⟨e, s1⟩ := x
    cases e with
    | normal => exact KW.ret (hx.mono fun a b hx => by simp only [pexec, hx])
    | exit id' =>
      simp only []
      split
      · rename_i h; exact KW.ret (hx.mono fun a b hx => by simp only [pexec, hx, if_pos h])
      · rename_i h; exact KW.ret (hx.mono fun a b hx => by simp only [pexec, hx, if_neg h])
    | ret => exact KW.ret (hx.mono fun a b hx => by simp only [pexec, hx])
  | .loop c, hl, hh, s => by
    unfold pexecK
    split
    · rename_i h hh1
      exact (hh c (by simp [loopsIn]) h hh1 s).mono fun x hx => hx.mono fun a b hx => by simp only [pexec]; exact hx
    · exact (ploopK_ok (body := fun a b => pexec Q (cf a b) kp a c) (fun s => pexecK_ok c hl (fun d hd => hh d (by simp [loopsIn, hd])) s) lf s).mono fun x ⟨s0, g1, g2⟩ => (g2.ev g1).mono fun a b hx => by simp only [pexec]; exact hx
  | .scope c, hl, hh, s => by
    unfold pexecK
    exact (pexecK_ok c hl (fun d hd => hh d (by simpa [loopsIn] using hd)) s).mono fun x hx => hx.mono fun a b hx => by simp only [pexec]; exact hx
  | .exit id, _, _, s => KW.ret (Ev.const rfl)
  | .ret, _, _, s => KW.ret (Ev.const rfl)
  | .rangeFunc _ _ _ _, _, _, s => KW.fail
  | .goto _, _, _, s => KW.fail
  | .refuse _, _, _, s => KW.fail
end

section
variable {Q : Program} {kp : Cfg} {dc : FuncId → Nat → Nat} {lf : Nat}

theorem bodyK_ok {kf : KF} {hk : List (Nat × (S → K (PX × S)))} (hdc : ∀ f fn c, Q.funcs[f]? = some fn → fn.body = some c → clsOK (dc f) c = true) (hkf : KFOK kf (runF Q kp)) (f : FuncId)
    (hh : ∀ fn c, Q.funcs[f]? = some fn → fn.body = some c → ∀ d ∈ loopsIn c, ∀ h, lk hk (Code.rid d) = some h → LoopOK Q (runF Q kp) (kp f) d h)
    (ps : List P) (R : List (Nat × En)) : KW (bodyK Q kf kp hk dc lf f ps R) (fun x => Ev fun a b => runF Q kp a b f ps R = some x) := by
  unfold bodyK
  split
  · exact KW.fail
  · rename_i fn hfn
    split
    · exact KW.fail
    rename_i hxs
    split
    · exact KW.fail
    · rename_i c hc
      split
      · exact KW.fail
      · rename_i hname
        refine KW.bind (pexecK_ok hkf c (hdc f fn c hfn hc) (hh fn c hfn hc) _) fun x hx => ?_
        obtain ⟨e, s1⟩ := x
        split
        · exact KW.fail
        · rename_i hne
          split
          · rename_i qs hq
            unfold finishK
            refine KW.ofO fun y hy => ?_
            obtain ⟨N, hx⟩ := hx
            refine ⟨N + 1, fun a b ha hb => ?_⟩
            obtain ⟨b, rfl⟩ : ∃ b', b = b' + 1 := ⟨b - 1, by omega⟩
            have hx := hx a b (by omega) (by omega)
            simp only [runF, hfn, if_neg hxs, hc, if_neg hname, hx]
            cases e with
            | exit id => exact absurd rfl (hne id)
            | normal => simp only [hq, hy]
            | ret => simp only [hq, hy]
          · exact KW.fail

/-- What functions are told to do, they do. -/
def HOK (Q : Program) (kp : Cfg) (H : List (FuncId × KF1)) : Prop :=
  ∀ f h, lk H f = some h → ∀ ps R, KW (h ps R) (fun x => Ev fun a b => runF Q kp a b f ps R = some x)

theorem HOK.nil : HOK Q kp [] := fun f h hh => by simp [lk] at hh

theorem runK_ok {H : List (FuncId × KF1)} (hdc : ∀ f fn c, Q.funcs[f]? = some fn → fn.body = some c → clsOK (dc f) c = true) (hH : HOK Q kp H) : ∀ (k : Nat), KFOK (runK Q kp dc H lf k) (runF Q kp)
  | 0 => fun f ps R => by
    unfold runK
    split
    · rename_i h hh; exact hH f h hh ps R
    · exact KW.fail
  | k + 1 => fun f ps R => by
    unfold runK
    split
    · rename_i h hh; exact hH f h hh ps R
    · exact bodyK_ok hdc (runK_ok hdc hH k) f (fun fn c _ _ d _ h hh => by simp [lk] at hh) ps R

theorem clsAll_at : ∀ (l : List Func) (i0 : Nat), clsAll dc i0 l = true → ∀ i fn c, l[i]? = some fn → fn.body = some c → clsOK (dc (i0 + i)) c = true
  | [], _, _, i, fn, c, h, _ => by simp at h
  | f :: r, i0, h, i, fn, c, hf, hc => by
    simp only [clsAll, Bool.and_eq_true] at h
    cases i with
    | zero =>
      simp at hf
      subst hf
      rw [hc] at h
      exact h.1
    | succ i =>
      have := clsAll_at r (i0 + 1) h.2 i fn c (by simpa using hf) hc
      rwa [show i0 + 1 + i = i0 + (i + 1) by omega] at this

theorem clsAll_ok (h : clsAll dc 0 Q.funcs.toList = true) (f : FuncId) (fn : Func) (c : Code) (hf : Q.funcs[f]? = some fn) (hc : fn.body = some c) : clsOK (dc f) c = true := by
  have := clsAll_at Q.funcs.toList 0 h f fn c (by simpa using hf) hc
  rwa [Nat.zero_add] at this

/-- The loop of a function with a first region. -/
def findLoop (id : Nat) : List Code → Option Code
  | [] => none
  | c :: r => if Nat.beq (Code.rid c) id then some c else findLoop id r
def loopOf (Q : Program) (f : FuncId) (id : Nat) : Code :=
  match Q.funcs[f]? with
  | some fn => (match fn.body with | some c => (findLoop id (loopsIn c)).getD .skip | none => .skip)
  | none => .skip
/-- No two loops have one first region. -/
def uniq (Q : Program) (f : FuncId) : Bool :=
  match Q.funcs[f]? with
  | some fn => (match fn.body with | some c => nodupN ((loopsIn c).map Code.rid) | none => true)
  | none => true

theorem findLoop_of {d : Code} : ∀ (l : List Code), (l.map Code.rid).Nodup → d ∈ l → findLoop (Code.rid d) l = some d
  | [], _, h => by simp at h
  | c :: r, hn, h => by
    simp only [List.map_cons, List.nodup_cons] at hn
    simp only [findLoop]
    rcases List.mem_cons.1 h with rfl | h
    · simp
    · split
      · rename_i he
        have he := Nat.eq_of_beq_eq_true he
        exact absurd (List.mem_map.2 ⟨d, h, he.symm⟩) hn.1
      · exact findLoop_of r hn.2 h

theorem loopsIn_trans : ∀ (b : Code) {c d : Code}, c ∈ loopsIn b → d ∈ loopsIn c → d ∈ loopsIn b
  | .seq x y, c, d, hc, hd => by
    simp only [loopsIn, List.mem_append] at hc ⊢
    exact hc.imp (loopsIn_trans x · hd) (loopsIn_trans y · hd)
  | .cond _ x y, c, d, hc, hd => by
    simp only [loopsIn, List.mem_append] at hc ⊢
    exact hc.imp (loopsIn_trans x · hd) (loopsIn_trans y · hd)
  | .block _ x, c, d, hc, hd => loopsIn_trans x (by simpa only [loopsIn] using hc) hd
  | .scope x, c, d, hc, hd => loopsIn_trans x (by simpa only [loopsIn] using hc) hd
  | .loop x, c, d, hc, hd => by
    simp only [loopsIn, List.mem_cons] at hc ⊢
    rcases hc with rfl | hc
    · exact .inr hd
    · exact .inr (loopsIn_trans x hc hd)
  | .skip, c, d, hc, _ | .label _, c, d, hc, _ | .region .., c, d, hc, _ | .exit _, c, d, hc, _ | .ret, c, d, hc, _ | .rangeFunc .., c, d, hc, _ | .goto _, c, d, hc, _ | .refuse _, c, d, hc, _ => by simp [loopsIn] at hc

theorem findLoop_mem {id : Nat} {c : Code} : ∀ (l : List Code), findLoop id l = some c → c ∈ l
  | [], h => by simp [findLoop] at h
  | d :: r, h => by
    simp only [findLoop] at h
    split at h
    · simp only [Option.some.injEq] at h; subst h; simp
    · exact List.mem_cons_of_mem _ (findLoop_mem r h)

/-- The loops in a function's loop are the function's. -/
theorem loopOf_in {f : FuncId} {id : Nat} {d : Code} (hu : uniq Q f = true) (hd : d ∈ loopsIn (loopOf Q f id)) : loopOf Q f (Code.rid d) = d := by
  unfold loopOf at hd ⊢
  unfold uniq at hu
  split at hd
  · rename_i fn hfn
    rw [hfn] at hu
    split at hd
    · rename_i c hc
      simp only [hc] at hu ⊢
      cases hf : findLoop id (loopsIn c) with
      | none => rw [hf] at hd; simp [loopsIn] at hd
      | some e =>
        rw [hf] at hd
        simp only [Option.getD_some] at hd
        have := loopsIn_trans c (findLoop_mem _ hf) hd
        rw [findLoop_of _ (nodupN_spec _ hu) this, Option.getD_some]
    · simp [loopsIn] at hd
  · simp [loopsIn] at hd

/-- A function does what it is told to do. -/
def FOK (Q : Program) (kp : Cfg) (f : FuncId) (h : KF1) : Prop := ∀ ps R, KW (h ps R) (fun x => Ev fun a b => runF Q kp a b f ps R = some x)

theorem HOK.cons {H : List (FuncId × KF1)} {f : FuncId} {h : KF1} (hf : FOK Q kp f h) (hH : HOK Q kp H) : HOK Q kp ((f, h) :: H) := by
  intro f' h' hh ps R
  simp only [lk] at hh
  split at hh
  · rename_i he
    have he := Nat.eq_of_beq_eq_true he
    subst he
    simp only [Option.some.injEq] at hh
    subst hh
    exact hf ps R
  · exact hH f' h' hh ps R

/-- A told function. -/
theorem FOK.ofX {f : FuncId} {fn : Func} {h : KF1} (hfn : Q.funcs[f]? = some fn) (hx : memN f kp.xs = true) (hb : ∀ ps R post, h ps R post → ∃ x, kp.X f ps R = some x ∧ post x) : FOK Q kp f h := by
  intro ps R post hp
  obtain ⟨x, h1, h2⟩ := hb ps R post hp
  refine ⟨x, ⟨1, fun a b _ hb => ?_⟩, h2⟩
  obtain ⟨b, rfl⟩ : ∃ b', b = b' + 1 := ⟨b - 1, by omega⟩
  simp only [runF, hfn, if_pos hx, h1]

/-- A function does what it is told to do: by its body; its loops do what they are told to do. -/
theorem FOK.mk {H : List (FuncId × KF1)} {f : FuncId} {h : KF1} {hk : List (Nat × (S → K (PX × S)))} {k : Nat} (hdc : clsAll dc 0 Q.funcs.toList = true) (hH : HOK Q kp H) (hu : uniq Q f = true)
    (hl : ∀ id g, lk hk id = some g → ∀ s, KW (g s) (fun x => Ev fun a b => ploop (pexec Q (runF Q kp a b) (kp f) a (loopOf Q f id)) (kp f id) a s = some x))
    (hb : ∀ ps R post, h ps R post → bodyK Q (runK Q kp dc H lf k) kp hk dc lf f ps R post) : FOK Q kp f h := by
  intro ps R post hp
  refine bodyK_ok (clsAll_ok hdc) (runK_ok (clsAll_ok hdc) hH k) f (fun fn c hfn hc d hd g hg s => ?_) ps R post (hb ps R post hp)
  have e : loopOf Q f (Code.rid d) = d := by
    unfold uniq at hu
    rw [hfn] at hu
    simp only [hc] at hu
    unfold loopOf
    rw [hfn]
    simp only [hc, findLoop_of _ (nodupN_spec _ hu) hd, Option.getD_some]
  have := hl _ g hg s
  rwa [e] at this

/-- What is owed behind a round: a head nearer to the end, or an end. -/
def roundPost (n : Nat) (I : Nat → S → Prop) (O : PX × S → Prop) (x : PX × S) : Prop := match x.1 with | .normal => ∃ m, m < n ∧ I m x.2 | _ => O x

/-- A loop does what it is told to do: from each head, a round comes out, or to a head that is nearer to its end. 'I n s': a head, at most n rounds from its end. -/
theorem loop_ok {H : List (FuncId × KF1)} {c : Code} {hk : List (Nat × (S → K (PX × S)))} {kp1 : Nat → Option (List Nat × List Nat)} {dc1 : Nat → Nat} {k : Nat} {keep : Option (List Nat × List Nat)} (hdc : clsAll dc 0 Q.funcs.toList = true) (hH : HOK Q kp H) (hc : clsOK dc1 c = true)
    (hl : ∀ d ∈ loopsIn c, ∀ h, lk hk (Code.rid d) = some h → LoopOK Q (runF Q kp) kp1 d h)
    {I : Nat → S → Prop} {O : PX × S → Prop}
    (hr : ∀ n s, I n s → roundK (pexecK Q (runK Q kp dc H lf k) kp1 hk dc1 lf c) keep s (roundPost n I O)) :
    ∀ n s, I n s → ∃ x, O x ∧ LoopsTo (fun a b => pexec Q (runF Q kp a b) kp1 a c) keep s x := by
  intro n
  induction n using Nat.strongRecOn with
  | _ n ih =>
    intro s hs
    obtain ⟨x, h1, h2⟩ := roundK_ok (body := fun a b => pexec Q (runF Q kp a b) kp1 a c) (pexecK_ok (runK_ok (clsAll_ok hdc) hH k) c hc hl s) _ (hr n s hs)
    obtain ⟨e, s2⟩ := x
    cases e with
    | normal =>
      obtain ⟨m, hm, hi⟩ := h2
      obtain ⟨y, g1, g2⟩ := ih m hm s2 hi
      exact ⟨y, g1, LoopsTo.on h1 g2⟩
    | exit id => exact ⟨_, h2, LoopsTo.out h1 (by simp)⟩
    | ret => exact ⟨_, h2, LoopsTo.out h1 (by simp)⟩

end
end Pi

