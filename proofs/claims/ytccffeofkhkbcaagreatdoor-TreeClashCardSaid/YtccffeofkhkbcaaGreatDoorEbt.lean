/- The texts S3 StPure St1 St1H T1 T1H StV2 StV2H StV3H StV4 StV4H St5 St5H St6 St6H StTextP St7 St7H PathP StL2. -/
import Derived.Test.YtccffeofkhkbcaaGreatDoorPiSeat
import Derived.KernelRfl
import Derived.Test.YtccffeofkhkbcaaGreatDoorProg
import Derived.Lib.SplitLaws
import Derived.Lib.SlTrimSet
/- The seat's runs. -/
namespace Pi
open Go Go.Proofs
set_option maxRecDepth 100000
/-- Told functions; those of the library are told as they are. -/
structure XF where
  cf : CF
  eq : ∀ f, memN f xsB = true → ∀ ps R, cf f ps R = xB f ps R
abbrev kpT (X : XF) : Cfg := ⟨kpF, xsT, X.cf⟩
def dcT (f id : Nat) : Nat := match lk clsTab f with | some l => (lk l id).getD 2 | none => 2
theorem dcOK : clsAll dcT 0 Tryz.prog.funcs.toList = true := by kernel_rfl
noncomputable abbrev PR := Tryz.prog
/-- A round of a loop. -/
noncomputable def roundL (H : List (FuncId × KF1)) (hk : List (Nat × (S → K (PX × S)))) (f id : Nat) (s : S) : K (PX × S) :=
  roundK (pexecK PR (runK PR kp0 dcT H 60 60) (kpF f) hk (dcT f) 60 (loopOf PR f id)) (kpF f id) s
/-- A function's body. -/
noncomputable def bodyF (H : List (FuncId × KF1)) (hk : List (Nat × (S → K (PX × S)))) (f : Nat) (ps : List P) (R : List (Nat × En)) : K (P × List (Nat × En)) :=
  bodyK PR (runK PR kp0 dcT H 60 60) kp0 hk dcT 60 f ps R
/-- What a function does. -/
def FD (X : XF) (f : Nat) (h : KF1) : Prop := FOK PR (kpT X) f h
def HD (X : XF) (H : List (FuncId × KF1)) : Prop := HOK PR (kpT X) H
/-- What a function's loop does. -/
def LD (X : XF) (f id : Nat) (g : S → K (PX × S)) : Prop := ∀ s, KW (g s) (fun x => Ev fun a b => ploop (pexec PR (runF PR (kpT X) a b) (kpF f) a (loopOf PR f id)) (kpF f id) a s = some x)
theorem HD.nil {X : XF} : HD X [] := HOK.nil
theorem HD.cons {X : XF} {f : Nat} {h : KF1} {H : List (FuncId × KF1)} (hf : FD X f h) (hH : HD X H) : HD X ((f, h) :: H) := HOK.cons hf hH
inductive LDs (X : XF) (f : Nat) : List (Nat × (S → K (PX × S))) → Prop
  | nil : LDs X f []
  | cons {id : Nat} {g : S → K (PX × S)} {r : List (Nat × (S → K (PX × S)))} (h : LD X f id g) (hr : LDs X f r) : LDs X f ((id, g) :: r)
theorem LDs.get {X : XF} {f : Nat} {hk : List (Nat × (S → K (PX × S)))} (h : LDs X f hk) : ∀ id g, lk hk id = some g → LD X f id g := by
  induction h with
  | nil => exact noLoops
  | cons h hr ih => exact oneLoop h ih
theorem FD.mk {X : XF} {H : List (FuncId × KF1)} {hk : List (Nat × (S → K (PX × S)))} {f : Nat} {h : KF1} (hu : uniq PR f = true) (hH : HD X H) (hl : LDs X f hk) (hb : ∀ ps R post, h ps R post → bodyF H hk f ps R post) : FD X f h :=
  FOK.mk dcOK hH hu hl.get (fun ps R post hp => by
    have := hb ps R post hp
    unfold bodyF at this
    rw [runK_X PR kpF xsT _ X.cf dcT H 60 60] at this
    exact this)
/-- By parameters: a head, what is asked, what comes out. -/
theorem LD.par {X : XF} {H : List (FuncId × KF1)} {hk : List (Nat × (S → K (PX × S)))} {f id : Nat} {g : S → K (PX × S)} (hu : uniq PR f = true) (hc : clsOK (dcT f) (loopOf PR f id) = true) (hH : HD X H) (hl : LDs X f hk)
    {A B : Type} (hd : A → B → S) (Inv : A → B → Prop) (mu : A → B → Nat) (Out : A → PX × S → Prop)
    (hr : ∀ a b, Inv a b → roundL H hk f id (hd a b) (roundPost (mu a b) (fun m s => ∃ b', s = hd a b' ∧ Inv a b' ∧ m = mu a b') (Out a)))
    (hg : ∀ s post, g s post → ∃ a b, s = hd a b ∧ Inv a b ∧ ∀ x, Out a x → post x) : LD X f id (loopHook (kpF f id) g) := by
  refine loopHook_ok fun s0 post hp => ?_
  obtain ⟨a, b, rfl, h1, h2⟩ := hg s0 post hp
  obtain ⟨x, g1, g2⟩ := loop_ok (keep := kpF f id) (kp1 := kpF f) (O := Out a) dcOK hH hc (fun d hd h hh => by
    have := hl.get _ _ hh
    unfold LD at this
    rwa [loopOf_in hu hd] at this) (I := fun m s => ∃ b', s = hd a b' ∧ Inv a b' ∧ m = mu a b') (fun n s hs => by
      obtain ⟨b', rfl, h3, rfl⟩ := hs
      have := hr a b' h3
      unfold roundL at this
      rw [runK_X PR kpF xsT _ X.cf dcT H 60 60] at this
      exact this) (mu a b) (hd a b) ⟨b, rfl, h1, rfl⟩
  exact ⟨x, g2, h2 x g1⟩
theorem FD.weaken {X : XF} {f : Nat} {h1 h2 : KF1} (h : FD X f h1) (hw : ∀ ps R post, h2 ps R post → h1 ps R post) : FD X f h2 := fun ps R post hp => h ps R post (hw ps R post hp)
/-- A told function of the library. -/
theorem FD.ofX {X : XF} {f : Nat} {fn : Func} {h : KF1} (hfn : PR.funcs[f]? = some fn) (hx : memN f xsT = true) (hx2 : memN f xsB = true) (hb : ∀ ps R post, h ps R post → ∃ x, xB f ps R = some x ∧ post x) : FD X f h :=
  FOK.ofX hfn hx fun ps R post hp => by
    obtain ⟨x, h1, h2⟩ := hb ps R post hp
    exact ⟨x, by rw [← h1]; exact X.eq f hx2 ps R, h2⟩
/-- A run, of what a function does. -/
theorem FD.run {X : XF} {f : Nat} {h : KF1} (hf : FD X f h) {ps : List P} {R : List (Nat × En)} {y : P × List (Nat × En)} (hp : h ps R (fun x => x = y)) : ∃ lf k, runF PR (kpT X) lf k f ps R = some y := by
  obtain ⟨x, h1, h2⟩ := hf ps R _ hp
  subst h2
  exact h1.some
/-- Functions that rest on no told ones. -/
def FC (f : Nat) (h : KF1) : Prop := FOK PR kp0 f h
def HC (H : List (FuncId × KF1)) : Prop := HOK PR kp0 H
theorem HC.nil : HC [] := HOK.nil
theorem HC.cons {f : Nat} {h : KF1} {H : List (FuncId × KF1)} (hf : FC f h) (hH : HC H) : HC ((f, h) :: H) := HOK.cons hf hH
theorem FC.mk {H : List (FuncId × KF1)} {f : Nat} {h : KF1} (hu : uniq PR f = true) (hH : HC H) (hb : ∀ ps R post, h ps R post → bodyF H [] f ps R post) : FC f h :=
  FOK.mk dcOK hH hu noLoops hb
noncomputable def xBase : XF := ⟨xB, fun _ _ _ _ => rfl⟩
end Pi

/- Stamp: vectors, plain laws. -/
namespace Pi

def atV (l : List Int) (r : Int) : Int := if r < 1 ∨ r > l.length then 0 else l.getD (r - 1).toNat 0
/-- How many numbers are left when the noughts at the end go: of the first k. -/
def pln (l : List Int) : Nat → Nat
  | 0 => 0
  | k + 1 => if l.getD k 0 = 0 then pln l k else k + 1
def plainV (l : List Int) : List Int := l.take (pln l l.length)
def rowV (n : Nat) (f : Nat → Int) : List Int := (List.range n).map f
def maxV (v w : List Int) : List Int := rowV (max v.length w.length) fun i => max (atV v (i + 1)) (atV w (i + 1))
def minV (v w : List Int) : List Int := rowV (max v.length w.length) fun i => min (atV v (i + 1)) (atV w (i + 1))
def withV (v : List Int) (r n : Int) : List Int := rowV (max v.length r.toNat) fun i => if (i : Int) + 1 = r then n else atV v (i + 1)
def mergeV (v w : List Int) : List Int := plainV (maxV v w)
def meetV (v w : List Int) : List Int := plainV (minV v w)
def vecOk (v : List Int) : Bool := decide ((∀ n ∈ v, 0 ≤ n) ∧ v.length ≤ 16 ∧ (plainV v).length = v.length)
def covV (v w : List Int) : Bool := decide (∀ j, j < max v.length w.length → atV w ((j : Int) + 1) ≤ atV v ((j : Int) + 1))

@[simp] theorem rowV_len (n : Nat) (f : Nat → Int) : (rowV n f).length = n := by simp [rowV]
theorem pln_le (l : List Int) : ∀ k, pln l k ≤ k
  | 0 => Nat.le_refl 0
  | k + 1 => by
    have := pln_le l k
    unfold pln
    split <;> omega
@[simp] theorem plainV_len (l : List Int) : (plainV l).length = pln l l.length := by
  have := pln_le l l.length
  simp [plainV]; omega
theorem atV_nat (l : List Int) (i : Nat) : atV l ((i : Int) + 1) = l.getD i 0 := by
  unfold atV
  split
  · rename_i h
    have h : l.length ≤ i := by omega
    simp [List.getD_eq_getElem?_getD, List.getElem?_eq_none h]
  · have : ((i : Int) + 1 - 1).toNat = i := by omega
    rw [this]
theorem atV_pos (l : List Int) {r : Int} (h : 1 ≤ r) : atV l r = l.getD (r - 1).toNat 0 := by
  obtain ⟨k, rfl⟩ : ∃ k : Nat, r = (k : Int) + 1 := ⟨(r - 1).toNat, by omega⟩
  rw [atV_nat]
  congr 1
  omega
theorem rowV_get (n : Nat) (f : Nat → Int) (i : Nat) : (rowV n f).getD i 0 = if i < n then f i else 0 := by
  simp only [rowV, List.getD_eq_getElem?_getD, List.getElem?_map]
  split
  · rename_i h; simp [h]
  · rename_i h; simp [h]
theorem pln_zero (l : List Int) : ∀ k i, pln l k ≤ i → i < k → l.getD i 0 = 0
  | 0, i, _, h => by omega
  | k + 1, i, h1, h2 => by
    unfold pln at h1
    split at h1
    · by_cases e : i = k
      · subst e; assumption
      · exact pln_zero l k i h1 (by omega)
    · omega
theorem pln_last (l : List Int) : ∀ k, pln l k ≠ 0 → l.getD (pln l k - 1) 0 ≠ 0
  | 0, h => by simp [pln] at h
  | k + 1, h => by
    unfold pln at h ⊢
    split
    · rename_i h0
      rw [if_pos h0] at h
      exact pln_last l k h
    · simpa
theorem plainV_get (l : List Int) (i : Nat) : (plainV l).getD i 0 = l.getD i 0 := by
  have h0 := pln_le l l.length
  unfold plainV
  by_cases h : i < pln l l.length
  · simp [List.getD_eq_getElem?_getD, h]
  · rw [List.getD_eq_getElem?_getD, List.getElem?_eq_none (by simp; omega)]
    by_cases h2 : i < l.length
    · exact (pln_zero l l.length i (by omega) h2).symm
    · simp [List.getD_eq_getElem?_getD, List.getElem?_eq_none (show l.length ≤ i by omega)]
theorem pln_take (l : List Int) (n : Nat) : ∀ k, k ≤ n → pln (l.take n) k = pln l k
  | 0, _ => rfl
  | k + 1, h => by
    have e : (l.take n).getD k 0 = l.getD k 0 := by simp [List.getD_eq_getElem?_getD, show k < n by omega]
    unfold pln
    rw [e, pln_take l n k (by omega)]
theorem pln_pln (l : List Int) (k : Nat) : pln l (pln l k) = pln l k := by
  cases h : pln l k with
  | zero => rfl
  | succ m =>
    have := pln_last l k (by omega)
    rw [h] at this
    unfold pln
    rw [if_neg (by simpa using this)]
theorem plain_plain (l : List Int) : plainV (plainV l) = plainV l := by
  have h0 := pln_le l l.length
  have : pln (plainV l) (plainV l).length = pln l l.length := by
    rw [plainV_len]
    unfold plainV
    rw [pln_take _ _ _ (Nat.le_refl _), pln_pln]
  rw [plainV, this, List.take_of_length_le (by simp)]
theorem ext_get {a b : List Int} (hl : a.length = b.length) (h : ∀ i, a.getD i 0 = b.getD i 0) : a = b := by
  apply List.ext_getElem hl
  intro i h1 h2
  have := h i
  simpa [List.getD_eq_getElem?_getD, h1, h2] using this
/-- Plain ones with the same numbers are the same. -/
theorem plain_ext {v w : List Int} (h : ∀ i, v.getD i 0 = w.getD i 0) : plainV v = plainV w := by
  have key : ∀ v w : List Int, (∀ i, v.getD i 0 = w.getD i 0) → pln v v.length ≤ pln w w.length := by
    intro v w h
    by_cases h0 : pln v v.length = 0
    · omega
    · have h1 := pln_last v v.length h0
      have h2 := pln_le v v.length
      rw [h] at h1
      refine Classical.byContradiction fun hc => h1 ?_
      by_cases h3 : pln v v.length - 1 < w.length
      · exact pln_zero w w.length _ (by omega) h3
      · simp [List.getD_eq_getElem?_getD, List.getElem?_eq_none (show w.length ≤ pln v v.length - 1 by omega)]
  have e : pln v v.length = pln w w.length := by
    have := key v w h
    have := key w v fun i => (h i).symm
    omega
  refine ext_get (by simpa using e) fun i => ?_
  rw [plainV_get, plainV_get, h]
theorem plain_inj {v w : List Int} (h : plainV v = plainV w) (i : Nat) : v.getD i 0 = w.getD i 0 := by
  rw [← plainV_get v, h, plainV_get]
theorem getD_ge {v : List Int} {i : Nat} (h : v.length ≤ i) : v.getD i 0 = 0 := by
  simp [List.getD_eq_getElem?_getD, List.getElem?_eq_none h]
theorem cov_iff (v w : List Int) : covV v w = true ↔ ∀ i, w.getD i 0 ≤ v.getD i 0 := by
  unfold covV
  rw [decide_eq_true_iff]
  constructor
  · intro h i
    by_cases hi : i < max v.length w.length
    · have := h i hi
      rwa [atV_nat, atV_nat] at this
    · rw [getD_ge (by omega), getD_ge (by omega)]; exact Int.le_refl _
  · intro h j _
    rw [atV_nat, atV_nat]
    exact h j
theorem maxV_get (v w : List Int) (i : Nat) : (maxV v w).getD i 0 = max (v.getD i 0) (w.getD i 0) := by
  unfold maxV
  rw [rowV_get]
  split
  · rw [atV_nat, atV_nat]
  · rw [getD_ge (v := v) (by omega), getD_ge (v := w) (by omega)]; rfl
theorem minV_get (v w : List Int) (i : Nat) : (minV v w).getD i 0 = min (v.getD i 0) (w.getD i 0) := by
  unfold minV
  rw [rowV_get]
  split
  · rw [atV_nat, atV_nat]
  · rw [getD_ge (v := v) (by omega), getD_ge (v := w) (by omega)]; rfl
theorem merge_get (v w : List Int) (i : Nat) : (mergeV v w).getD i 0 = max (v.getD i 0) (w.getD i 0) := by rw [mergeV, plainV_get, maxV_get]
theorem meet_get (v w : List Int) (i : Nat) : (meetV v w).getD i 0 = min (v.getD i 0) (w.getD i 0) := by rw [meetV, plainV_get, minV_get]
theorem merge_comm (v w : List Int) : mergeV v w = mergeV w v := by
  unfold mergeV
  exact plain_ext fun i => by rw [maxV_get, maxV_get]; omega
theorem same_iff_cov (v w : List Int) : (plainV v = plainV w) ↔ (covV v w = true ∧ covV w v = true) := by
  rw [cov_iff, cov_iff]
  constructor
  · intro h
    exact ⟨fun i => by have := plain_inj h i; omega, fun i => by have := plain_inj h i; omega⟩
  · intro ⟨h1, h2⟩
    exact plain_ext fun i => by have := h1 i; have := h2 i; omega
theorem cov_merge (v w : List Int) : covV (mergeV v w) v = true ∧ covV (mergeV v w) w = true := by
  rw [cov_iff, cov_iff]
  exact ⟨fun i => by rw [merge_get]; omega, fun i => by rw [merge_get]; omega⟩
theorem cov_meet (v w : List Int) : covV v (meetV v w) = true ∧ covV w (meetV v w) = true := by
  rw [cov_iff, cov_iff]
  exact ⟨fun i => by rw [meet_get]; omega, fun i => by rw [meet_get]; omega⟩
theorem cov_least (u v w : List Int) (h1 : covV u v = true) (h2 : covV u w = true) : covV u (mergeV v w) = true := by
  rw [cov_iff] at *
  exact fun i => by rw [merge_get]; have := h1 i; have := h2 i; omega
theorem cov_most (u v w : List Int) (h1 : covV v u = true) (h2 : covV w u = true) : covV (meetV v w) u = true := by
  rw [cov_iff] at *
  exact fun i => by rw [meet_get]; have := h1 i; have := h2 i; omega
end Pi

/- Stamp: what the runs of its small functions ask. -/
namespace Pi
open Go Go.Proofs
set_option maxRecDepth 100000
set_option maxHeartbeats 0
abbrev idD (t r i : Int) : D := .agg [.int .i64 t, .int .i64 r, .int .i64 i]
abbrev stD (t r : Int) : D := .agg [.int .i64 t, .int .i64 r]
def rightS (t r : Int) : Bool := decide (1 ≤ t ∧ t ≤ 1099511627776 ∧ 1 ≤ r ∧ r ≤ 16)
def rightId (t r i : Int) : Bool := decide (1 ≤ t ∧ t ≤ 1099511627776 ∧ 1 ≤ r ∧ r ≤ 16 ∧ 0 ≤ i ∧ i ≤ 400000)
theorem vcRightId (t r i : Int) (post : P × List (Nat × En) → Prop) : (bif decide (t ≥ (1 : Int)) then bif decide (t ≤ (1099511627776 : Int)) then bif decide (r ≥ (1 : Int)) then bif decide (r ≤ (16 : Int)) then bif decide (i ≥ (0 : Int)) then post (P.d (D.bool (decide (i ≤ (400000 : Int)))), []) else post (P.d (D.bool false), []) else post (P.d (D.bool false), []) else post (P.d (D.bool false), []) else post (P.d (D.bool false), []) else post (P.d (D.bool false), [])) = (bodyF [] [] 47 [.d (idD t r i)] []) post := by kernel_rfl
theorem vcRightIdR (t r i : Int) (post : P × List (Nat × En) → Prop) : (bif decide (t ≥ (1 : Int)) then bif decide (t ≤ (1099511627776 : Int)) then bif decide (r ≥ (1 : Int)) then bif decide (r ≤ (16 : Int)) then bif decide (i ≥ (0 : Int)) then post (P.d (D.bool (decide (i ≤ (400000 : Int)))), []) else post (P.d (D.bool false), []) else post (P.d (D.bool false), []) else post (P.d (D.bool false), []) else post (P.d (D.bool false), []) else post (P.d (D.bool false), [])) = (bodyF [] [] 25 [.d (idD t r i)] []) post := by kernel_rfl
def hRightId : KF1 := fun ps R post => ∃ t r i, ps = [.d (idD t r i)] ∧ R = [] ∧ post (.d (.bool (rightId t r i)), [])
def numD (l : List Int) : List D := l.map (D.int .i64)
abbrev vD (v : List Int) : P := .d (.sl 1 (numD v))
def hAt : KF1 := fun ps R post => ∃ l r, ps = [vD l, .d (.int .i64 r)] ∧ R = [] ∧ l.length ≤ 9223372036854775807 ∧ post (.d (.int .i64 (atV l r)), [])
end Pi

/- Stamp: the small functions. -/
namespace Pi
open Go Go.Proofs
set_option maxRecDepth 100000
variable {X : XF}
theorem leafI {post : P × List (Nat × En) → Prop} {k : IntKind} {a b : Int} {R : List (Nat × En)} (hp : post (P.d (D.int k a), R)) (h : a = b) : post (P.d (D.int k b), R) := h ▸ hp
theorem leafB {post : P × List (Nat × En) → Prop} {a b : Bool} {R : List (Nat × En)} (hp : post (P.d (D.bool a), R)) (h : a = b) : post (P.d (D.bool b), R) := h ▸ hp
theorem okRightId : FD X 47 hRightId := FD.mk (H := []) (by kernel_rfl) .nil .nil (by
  intro ps R post hh
  obtain ⟨t, r, i, rfl, rfl, hp⟩ := hh
  rw [← vcRightId]
  repeat' (first | refine condI (fun _ => ?_) (fun _ => ?_))
  all_goals exact leafB hp (by simp only [decide_eq_true_eq, decide_eq_false_iff_not, decide_eq_decide, rightId] at *; omega))
theorem okRightIdR : FD X 25 hRightId := FD.mk (H := []) (by kernel_rfl) .nil .nil (by
  intro ps R post hh
  obtain ⟨t, r, i, rfl, rfl, hp⟩ := hh
  rw [← vcRightIdR]
  repeat' (first | refine condI (fun _ => ?_) (fun _ => ?_))
  all_goals exact leafB hp (by simp only [decide_eq_true_eq, decide_eq_false_iff_not, decide_eq_decide, rightId] at *; omega))
@[simp] theorem numD_len (l : List Int) : (numD l).length = l.length := by simp [numD]
theorem numD_nth {l : List Int} {i : Nat} (h : i < l.length) : D.nth (numD l) i = .int .i64 (l.getD i 0) := by
  simp [D.nth, numD, h]
theorem numD_inj {v w : List Int} (h : numD v = numD w) : v = w := (List.map_inj_right (f := D.int .i64) (fun a b h => by cases h; rfl)).1 h
theorem isDi (n : Int) : isD PR 3 (.int .i64 n) = true := by kernel_rfl
theorem atCond {post : P × List (Nat × En) → Prop} {l : List Int} {r : Int} (hl : l.length ≤ 9223372036854775807) (hp : post (.d (.int .i64 (atV l r)), [])) :
    bif decide (r < 1) then post (.d (.int .i64 0), []) else bif decide (r > (l.length : Int)) then post (.d (.int .i64 0), []) else
      bif decide (-9223372036854775808 ≤ r - 1 ∧ r - 1 ≤ 9223372036854775807) then bif decide (0 ≤ r - 1 ∧ r - 1 < (l.length : Int)) then bif isD PR 3 (D.nth (numD l) (r - 1).toNat) then post (.d (.int .i64 (D.nth (numD l) (r - 1).toNat).iVal), []) else False else False else False := by
  refine condI (fun h => ?_) fun h => condI (fun h' => ?_) fun h' => ?_
  · exact leafI hp (by simp only [decide_eq_true_eq] at h; simp [atV, h])
  · exact leafI hp (by simp only [decide_eq_true_eq] at h'; simp [atV, h'])
  · simp only [decide_eq_false_iff_not] at h h'
    have hlt : (r - 1).toNat < l.length := by omega
    rw [numD_nth hlt]
    refine oblI (by simp; omega) (oblI (by simp; omega) (oblI (isDi _) ?_))
    exact leafI hp (by rw [atV, if_neg (by omega)]; rfl)
end Pi

/- Tree: comparing: what the runs ask. -/
namespace Pi
open Go Go.Proofs
set_option maxRecDepth 100000
set_option maxHeartbeats 0
def cmpI (x y : Int) : Int := if x < y then -1 else if x > y then 1 else 0
def orI (x y : Int) : Int := if x ≠ 0 then x else y
def cmpS (t r t' r' : Int) : Int := orI (cmpI t t') (cmpI r r')
def cmpId (t r i t' r' i' : Int) : Int := orI (cmpS t r t' r') (cmpI i i')
def befS (t r t' r' : Int) : Bool := decide (t < t' ∨ t = t' ∧ r < r')
abbrev itD (t r i : Int) (p : List UInt8) (d b : Bool) : D := .agg [.int .i64 t, .int .i64 r, .int .i64 i, .str p, .bool d, .bool b]
theorem vcCompare (x y : Int) (post : P × List (Nat × En) → Prop) : (bif x != x then bif y != y then post (P.d (D.int IntKind.i64 (0 : Int)), []) else post (P.d (D.int IntKind.i64 (-1 : Int)), []) else bif y != y then post (P.d (D.int IntKind.i64 (1 : Int)), []) else bif decide (x < y) then post (P.d (D.int IntKind.i64 (-1 : Int)), []) else bif decide (x > y) then post (P.d (D.int IntKind.i64 (1 : Int)), []) else post (P.d (D.int IntKind.i64 (0 : Int)), [])) = (bodyF [] [] 94 [.d (.int .i64 x), .d (.int .i64 y)] []) post := by kernel_rfl
theorem vcCompareS (x y : List UInt8) (post : P × List (Nat × En) → Prop) : (bif !x == x then bif !y == y then post (P.d (D.int IntKind.i64 (0 : Int)), []) else post (P.d (D.int IntKind.i64 (-1 : Int)), []) else bif !y == y then post (P.d (D.int IntKind.i64 (1 : Int)), []) else bif Op.bytesLess x y then post (P.d (D.int IntKind.i64 (-1 : Int)), []) else bif !(Op.bytesLess x y || x == y) then post (P.d (D.int IntKind.i64 (1 : Int)), []) else post (P.d (D.int IntKind.i64 (0 : Int)), [])) = (bodyF [] [] 32 [.d (.str x), .d (.str y)] []) post := by kernel_rfl
theorem vcOr (x y : Int) (post : P × List (Nat × En) → Prop) : (bif D.iVal (D.nth [D.int IntKind.i64 x, D.int IntKind.i64 y] 0) != (0 : Int) then post (P.d (D.int IntKind.i64 (D.iVal (D.nth [D.int IntKind.i64 x, D.int IntKind.i64 y] 0))), []) else bif D.iVal (D.nth [D.int IntKind.i64 x, D.int IntKind.i64 y] 1) != (0 : Int) then post (P.d (D.int IntKind.i64 (D.iVal (D.nth [D.int IntKind.i64 x, D.int IntKind.i64 y] 1))), []) else post (P.d (D.int IntKind.i64 (0 : Int)), [])) = (bodyF [] [] 92 [.d (.sl 1 [.int .i64 x, .int .i64 y])] []) post := by kernel_rfl
theorem vcBefore (t r t' r' : Int) (post : P × List (Nat × En) → Prop) : (bif decide (t < t') then post (P.d (D.bool true), []) else bif t == t' then post (P.d (D.bool (decide (r < r'))), []) else post (P.d (D.bool false), [])) = (bodyF [] [] 108 [.d (stD t r), .d (stD t' r')] []) post := by kernel_rfl
def hCompare : KF1 := fun ps R post => ∃ x y, ps = [.d (.int .i64 x), .d (.int .i64 y)] ∧ R = [] ∧ post (.d (.int .i64 (cmpI x y)), [])
def hOr : KF1 := fun ps R post => ∃ x y, ps = [.d (.sl 1 [.int .i64 x, .int .i64 y])] ∧ R = [] ∧ post (.d (.int .i64 (orI x y)), [])
def hBefore : KF1 := fun ps R post => ∃ t r t' r', ps = [.d (stD t r), .d (stD t' r')] ∧ R = [] ∧ post (.d (.bool (befS t r t' r')), [])
def hCmp : KF1 := fun ps R post => ∃ t r t' r', ps = [.d (stD t r), .d (stD t' r')] ∧ R = [] ∧ post (.d (.int .i64 (cmpS t r t' r')), [])
def hCmpId : KF1 := fun ps R post => ∃ t r i t' r' i', ps = [.d (idD t r i), .d (idD t' r' i')] ∧ R = [] ∧ post (.d (.int .i64 (cmpId t r i t' r' i')), [])
theorem vcCmp (t r t' r' : Int) (post : P × List (Nat × En) → Prop) : (∃ (x : Int), ∃ (y : Int), [P.d (D.int IntKind.i64 t), P.d (D.int IntKind.i64 t')] = [P.d (D.int IntKind.i64 x), P.d (D.int IntKind.i64 y)] ∧ EqR [] [] ∧ ∃ (x_1 : Int), ∃ (y_1 : Int), [P.d (D.int IntKind.i64 r), P.d (D.int IntKind.i64 r')] = [P.d (D.int IntKind.i64 x_1), P.d (D.int IntKind.i64 y_1)] ∧ EqR [] [] ∧ ∃ (x_2 : Int), ∃ (y_2 : Int), [P.d (D.sl 1 [D.int IntKind.i64 (cmpI x y), D.int IntKind.i64 (cmpI x_1 y_1)])] = [P.d (D.sl 1 [D.int IntKind.i64 x_2, D.int IntKind.i64 y_2])] ∧ EqR [] [] ∧ post (P.d (D.int IntKind.i64 (orI x_2 y_2)), [])) = (bodyF [(94, hCompare), (92, hOr)] [] 93 [.d (stD t r), .d (stD t' r')] []) post := by kernel_rfl
theorem vcCmpR (t r t' r' : Int) (post : P × List (Nat × En) → Prop) : (∃ (t_1 : Int), ∃ (r_1 : Int), ∃ (t'_1 : Int), ∃ (r'_1 : Int), [P.d (D.agg [D.int IntKind.i64 t, D.int IntKind.i64 r]), P.d (D.agg [D.int IntKind.i64 t', D.int IntKind.i64 r'])] = [P.d (D.agg [D.int IntKind.i64 t_1, D.int IntKind.i64 r_1]), P.d (D.agg [D.int IntKind.i64 t'_1, D.int IntKind.i64 r'_1])] ∧ EqR [] [] ∧ bif befS t_1 r_1 t'_1 r'_1 then post (P.d (D.int IntKind.i64 (-1 : Int)), []) else ∃ (t_2 : Int), ∃ (r_2 : Int), ∃ (t'_2 : Int), ∃ (r'_2 : Int), [P.d (D.agg [D.int IntKind.i64 t', D.int IntKind.i64 r']), P.d (D.agg [D.int IntKind.i64 t, D.int IntKind.i64 r])] = [P.d (D.agg [D.int IntKind.i64 t_2, D.int IntKind.i64 r_2]), P.d (D.agg [D.int IntKind.i64 t'_2, D.int IntKind.i64 r'_2])] ∧ EqR [] [] ∧ bif befS t_2 r_2 t'_2 r'_2 then post (P.d (D.int IntKind.i64 (1 : Int)), []) else post (P.d (D.int IntKind.i64 (0 : Int)), [])) = (bodyF [(108, hBefore)] [] 82 [.d (stD t r), .d (stD t' r')] []) post := by kernel_rfl
theorem vcCmpId (t r i t' r' i' : Int) (post : P × List (Nat × En) → Prop) : (∃ (t_1 : Int), ∃ (r_1 : Int), ∃ (t'_1 : Int), ∃ (r'_1 : Int), [P.d (D.agg [D.int IntKind.i64 t, D.int IntKind.i64 r]), P.d (D.agg [D.int IntKind.i64 t', D.int IntKind.i64 r'])] = [P.d (D.agg [D.int IntKind.i64 t_1, D.int IntKind.i64 r_1]), P.d (D.agg [D.int IntKind.i64 t'_1, D.int IntKind.i64 r'_1])] ∧ EqR [] [] ∧ ∃ (x : Int), ∃ (y : Int), [P.d (D.int IntKind.i64 i), P.d (D.int IntKind.i64 i')] = [P.d (D.int IntKind.i64 x), P.d (D.int IntKind.i64 y)] ∧ EqR [] [] ∧ ∃ (x_1 : Int), ∃ (y_1 : Int), [P.d (D.sl 1 [D.int IntKind.i64 (cmpS t_1 r_1 t'_1 r'_1), D.int IntKind.i64 (cmpI x y)])] = [P.d (D.sl 1 [D.int IntKind.i64 x_1, D.int IntKind.i64 y_1])] ∧ EqR [] [] ∧ post (P.d (D.int IntKind.i64 (orI x_1 y_1)), [])) = (bodyF [(94, hCompare), (92, hOr), (93, hCmp)] [] 68 [.d (idD t r i), .d (idD t' r' i')] []) post := by kernel_rfl
theorem vcCmpIdR (t r i t' r' i' : Int) (post : P × List (Nat × En) → Prop) : (∃ (t_1 : Int), ∃ (r_1 : Int), ∃ (t'_1 : Int), ∃ (r'_1 : Int), [P.d (D.agg [D.int IntKind.i64 t, D.int IntKind.i64 r]), P.d (D.agg [D.int IntKind.i64 t', D.int IntKind.i64 r'])] = [P.d (D.agg [D.int IntKind.i64 t_1, D.int IntKind.i64 r_1]), P.d (D.agg [D.int IntKind.i64 t'_1, D.int IntKind.i64 r'_1])] ∧ EqR [] [] ∧ bif cmpS t_1 r_1 t'_1 r'_1 != (0 : Int) then post (P.d (D.int IntKind.i64 (cmpS t_1 r_1 t'_1 r'_1)), []) else bif decide (i < i') then post (P.d (D.int IntKind.i64 (-1 : Int)), []) else bif decide (i > i') then post (P.d (D.int IntKind.i64 (1 : Int)), []) else post (P.d (D.int IntKind.i64 (0 : Int)), [])) = (bodyF [(82, hCmp)] [] 62 [.d (idD t r i), .d (idD t' r' i')] []) post := by kernel_rfl
end Pi

/- Tree: comparing. -/
namespace Pi
open Go Go.Proofs
set_option maxRecDepth 100000
theorem leafIc {post : P × List (Nat × En) → Prop} {k : IntKind} {a b : Int} {R : List (Nat × En)} (hp : post (P.d (D.int k a), R)) (h : a = b) : post (P.d (D.int k b), R) := h ▸ hp
theorem leafBc {post : P × List (Nat × En) → Prop} {a b : Bool} {R : List (Nat × En)} (hp : post (P.d (D.bool a), R)) (h : a = b) : post (P.d (D.bool b), R) := h ▸ hp
theorem bne_self_i (x : Int) : (x != x) = false := by simp
theorem bCompare : ∀ ps R post, hCompare ps R post → bodyF [] [] 94 ps R post := by
  intro ps R post hh
  obtain ⟨x, y, rfl, rfl, hp⟩ := hh
  rw [← vcCompare]
  refine condF (bne_self_i x) (condF (bne_self_i y) ?_)
  refine condI (fun h => ?_) fun h => condI (fun h' => ?_) fun h' => ?_
  · exact leafIc hp (by have h : x < y := by simpa using h
                        simp [cmpI, h])
  · exact leafIc hp (by have h : ¬ x < y := by simpa using h
                        have h' : x > y := by simpa using h'
                        simp [cmpI, h, h'])
  · exact leafIc hp (by have h : ¬ x < y := by simpa using h
                        have h' : ¬ x > y := by simpa using h'
                        simp [cmpI, h, h'])
def cmpB (x y : List UInt8) : Int := if Op.bytesLess x y = true then -1 else if x = y then 0 else 1
def hCompareS : KF1 := fun ps R post => ∃ x y, ps = [.d (.str x), .d (.str y)] ∧ R = [] ∧ post (.d (.int .i64 (cmpB x y)), [])
theorem bCompareS : ∀ ps R post, hCompareS ps R post → bodyF [] [] 32 ps R post := by
  intro ps R post hh
  obtain ⟨x, y, rfl, rfl, hp⟩ := hh
  rw [← vcCompareS]
  refine condF (by simp) (condF (by simp) ?_)
  refine condI (fun h => ?_) fun h => condI (fun h' => ?_) fun h' => ?_
  · exact leafIc hp (by simp [cmpB, h])
  · exact leafIc hp (by
      have h' : ¬ x = y := by simp [h] at h'; simpa using h'
      simp [cmpB, h, h'])
  · exact leafIc hp (by
      have h' : x = y := by simp [h] at h'; simpa using h'
      subst h'
      simp [cmpB, h])
theorem bOr : ∀ ps R post, hOr ps R post → bodyF [] [] 92 ps R post := by
  intro ps R post hh
  obtain ⟨x, y, rfl, rfl, hp⟩ := hh
  rw [← vcOr]
  refine condI (fun h => ?_) fun h => condI (fun h' => ?_) fun h' => ?_
  · exact leafIc hp (by have h : x ≠ 0 := by simpa [D.nth, D.iVal] using h
                        simp [orI, h, D.nth, D.iVal])
  · exact leafIc hp (by have h : x = 0 := by simpa [D.nth, D.iVal] using h
                        simp [orI, h, D.nth, D.iVal])
  · exact leafIc hp (by have h : x = 0 := by simpa [D.nth, D.iVal] using h
                        have h' : y = 0 := by simpa [D.nth, D.iVal] using h'
                        simp [orI, h, h'])
theorem bBefore : ∀ ps R post, hBefore ps R post → bodyF [] [] 108 ps R post := by
  intro ps R post hh
  obtain ⟨t, r, t', r', rfl, rfl, hp⟩ := hh
  rw [← vcBefore]
  refine condI (fun h => ?_) fun h => condI (fun h' => ?_) fun h' => ?_
  · exact leafBc hp (by have h : t < t' := by simpa using h
                        simp [befS, h])
  · exact leafBc hp (by have h' : t = t' := by simpa using h'
                        simp [befS, h'])
  · exact leafBc hp (by have h : ¬ t < t' := by simpa using h
                        have h' : ¬ t = t' := by simpa using h'
                        simp [befS, h']; omega)
theorem bCmp : ∀ ps R post, hCmp ps R post → bodyF [(94, hCompare), (92, hOr)] [] 93 ps R post := by
  intro ps R post hh
  obtain ⟨t, r, t', r', rfl, rfl, hp⟩ := hh
  rw [← vcCmp]
  exact ⟨_, _, rfl, rfl, _, _, rfl, rfl, _, _, rfl, rfl, hp⟩
theorem bCmpId : ∀ ps R post, hCmpId ps R post → bodyF [(94, hCompare), (92, hOr), (93, hCmp)] [] 68 ps R post := by
  intro ps R post hh
  obtain ⟨t, r, i, t', r', i', rfl, rfl, hp⟩ := hh
  rw [← vcCmpId]
  exact ⟨_, _, _, _, rfl, rfl, _, _, rfl, rfl, _, _, rfl, rfl, hp⟩
section
variable {X : XF}
theorem okBefore : FD X 108 hBefore := FD.mk (H := []) (by kernel_rfl) .nil .nil bBefore
theorem okCmpR : FD X 82 hCmp := FD.mk (H := [(108, hBefore)]) (by kernel_rfl) (.cons okBefore .nil) .nil (by
  intro ps R post hh
  obtain ⟨t, r, t', r', rfl, rfl, hp⟩ := hh
  rw [← vcCmpR]
  refine ⟨_, _, _, _, rfl, rfl, condI (fun h => ?_) fun h => ⟨_, _, _, _, rfl, rfl, condI (fun h' => ?_) fun h' => ?_⟩⟩
  all_goals exact leafIc hp (by simp only [befS, decide_eq_true_eq, decide_eq_false_iff_not] at *; simp only [cmpS, orI, cmpI]; (repeat' split) <;> omega))
theorem okCmpIdR : FD X 62 hCmpId := FD.mk (H := [(82, hCmp)]) (by kernel_rfl) (.cons okCmpR .nil) .nil (by
  intro ps R post hh
  obtain ⟨t, r, i, t', r', i', rfl, rfl, hp⟩ := hh
  rw [← vcCmpIdR]
  refine ⟨_, _, _, _, rfl, rfl, condI (fun h => ?_) fun h => condI (fun h' => ?_) fun h' => condI (fun h'' => ?_) fun h'' => ?_⟩
  all_goals exact leafIc hp (by simp only [bne_iff_ne, bne_eq_false_iff_eq, ne_eq, decide_eq_true_eq, decide_eq_false_iff_not] at *; simp only [cmpId, orI, cmpI]; (repeat' split) <;> omega))
theorem okCompare : FD X 94 hCompare := FD.mk (H := []) (by kernel_rfl) .nil .nil bCompare
theorem okOr : FD X 92 hOr := FD.mk (H := []) (by kernel_rfl) .nil .nil bOr
theorem okCmp : FD X 93 hCmp := FD.mk (H := [(94, hCompare), (92, hOr)]) (by kernel_rfl) (.cons okCompare (.cons okOr .nil)) .nil bCmp
theorem okCmpId : FD X 68 hCmpId := FD.mk (H := [(94, hCompare), (92, hOr), (93, hCmp)]) (by kernel_rfl) (.cons okCompare (.cons okOr (.cons okCmp .nil))) .nil bCmpId
end
theorem fcCompare : FC 94 hCompare := FC.mk (H := []) (by kernel_rfl) .nil bCompare
theorem fcCompareS : FC 32 hCompareS := FC.mk (H := []) (by kernel_rfl) .nil bCompareS
theorem fcOr : FC 92 hOr := FC.mk (H := []) (by kernel_rfl) .nil bOr
theorem fcCmp : FC 93 hCmp := FC.mk (H := [(94, hCompare), (92, hOr)]) (by kernel_rfl) (.cons fcCompare (.cons fcOr .nil)) bCmp
theorem fcCmpId : FC 68 hCmpId := FC.mk (H := [(94, hCompare), (92, hOr), (93, hCmp)]) (by kernel_rfl) (.cons fcCompare (.cons fcOr (.cons fcCmp .nil))) bCmpId
/-- A comparing function's answer. -/
theorem FC.cmps {g : Nat} {h : KF1} (hf : FC g h) {x y : D} {i : Int} (hp : h [.d x, .d y] [] (fun z => z = (.d (.int .i64 i), []))) : Cmps PR kp0 g x y i := by
  obtain ⟨z, h1, h2⟩ := hf _ _ _ hp
  subst h2
  exact h1
end Pi

/- Stamp: the loops: what their rounds ask. -/
namespace Pi
open Go Go.Proofs
set_option maxRecDepth 100000
set_option maxHeartbeats 0
abbrev iD (n : Int) : P := .d (.int .i64 n)
abbrev samH (v w : List Int) (k : Int) : S := ⟨26, [(0, vD v), (1, vD w), (5, iD k)], []⟩
abbrev plnH (v : List Int) : S := ⟨21, [(0, vD v)], []⟩
abbrev plrH (v : List Int) (k : Int) : S := ⟨21, [(0, vD v), (3, iD k)], []⟩
abbrev bothH (f : Nat) (v w o : List Int) (m : Nat) (n k : Int) : S := ⟨36, [(0, vD v), (1, vD w), (2, P.fn f []), (7, P.sl 0 0 m), (16, iD n), (17, iD k)], [(0, ⟨0, none, .arr 3 false (numD o)⟩)]⟩
abbrev mrgH (v w o : List Int) (m : Nat) (k : Int) : S := ⟨28, [(0, vD v), (1, vD w), (5, P.sl 0 0 m), (6, iD k)], [(0, ⟨0, none, .arr 3 false (numD o)⟩)]⟩
abbrev wthH (v o : List Int) (r n : Int) (m : Nat) (k : Int) : S := ⟨39, [(0, vD v), (1, iD r), (2, iD n), (8, P.sl 0 0 m), (9, iD k)], [(0, ⟨0, none, .arr 3 false (numD o)⟩)]⟩
abbrev vecH (v : List Int) (n k : Int) : S := ⟨25, [(0, vD v), (5, vD v), (6, iD n), (7, iD k)], []⟩
abbrev verH (v : List Int) (k : Int) : S := ⟨24, [(0, vD v), (3, iD k)], []⟩
abbrev covH (v w : List Int) (m k : Int) : S := ⟨24, [(0, vD v), (1, vD w), (10, iD m), (11, iD k)], []⟩
abbrev corH (v w : List Int) (k : Int) : S := ⟨22, [(0, vD v), (1, vD w), (5, iD k)], []⟩
def hOf2 (g : Int → Int → Int) : KF1 := fun ps R post => ∃ a b, ps = [iD a, iD b] ∧ R = [] ∧ post (iD (g a b), [])
end Pi

/- Stamp: the loops. -/
namespace Pi
open Go Go.Proofs
set_option maxRecDepth 100000
variable {X : XF}
theorem incI {k : Int} (h0 : -9223372036854775808 ≤ k) (h1 : k < 9223372036854775807) : decide ((-9223372036854775808 : Int) ≤ k + (1 : Int) ∧ k + (1 : Int) ≤ (9223372036854775807 : Int)) = true := by simp; omega
theorem decT {p : Prop} [Decidable p] (h : p) : decide p = true := by simpa using h
theorem decF {p : Prop} [Decidable p] (h : ¬ p) : decide p = false := by simpa using h
/-- A branch on a proposition. -/
theorem condP {p : Prop} [Decidable p] {A B : Prop} (h1 : p → A) (h2 : ¬ p → B) : cond (decide p) A B := condI (fun h => h1 (by simpa using h)) (fun h => h2 (by simpa using h))
theorem oblP {p : Prop} [Decidable p] {A : Prop} (h1 : p) (h2 : A) : cond (decide p) A False := oblI (by simpa using h1) h2
theorem condE {a b : Int} {A B : Prop} (h1 : a = b → A) (h2 : a ≠ b → B) : cond (a == b) A B := condI (fun h => h1 (by simpa using h)) (fun h => h2 (by simpa using h))
theorem condN {a b : Int} {A B : Prop} (h1 : a ≠ b → A) (h2 : a = b → B) : cond (a != b) A B := condI (fun h => h1 (by simpa using h)) (fun h => h2 (by simpa using h))
theorem numD_push {o : List Int} {m : Nat} (h : m = o.length) (x : Int) : List.take m (numD o) ++ [D.int .i64 x] = numD (o ++ [x]) := by
  subst h
  rw [List.take_of_length_le (by simp)]
  simp [numD]
theorem roomI {m n b : Nat} (h : (m + n) * b ≤ 140737488355328) (h2 : m + n ≤ 9223372036854775807) (l : List D) (hm : m ≤ l.length) : (Nat.ble m l.length && roomOk (m + n) b) = true := by
  simp [hm, roomOk_small h h2]
abbrev vSm (v : List Int) : Prop := v.length ≤ 1000000
def retB (n t : Nat) (b : Bool) : PX × S := (.ret, ⟨n, [(t, .d (.bool b))], []⟩)

/-! Same -/
def gSam : S → K (PX × S) := fun s post => ∃ v w, s = samH v w 0 ∧ (v.length = w.length ∧ vSm v) ∧ (v ≠ w → post (.ret, ⟨26, [(4, .d (.bool false))], []⟩)) ∧ (v = w → post (.exit 0, ⟨26, [], []⟩))
/-! Plain -/
theorem numD_take (v : List Int) (n : Nat) : (numD v).take n = numD (v.take n) := by simp [numD]
def gPln : S → K (PX × S) := fun s post => ∃ v, s = plnH v ∧ vSm v ∧ post (.exit 0, ⟨21, [(0, vD (plainV v))], []⟩)
def gPlr : S → K (PX × S) := fun s post => ∃ v n, s = plrH v n ∧ (n = (v.length : Int) ∧ vSm v) ∧ post (.exit 0, ⟨21, [(0, vD v), (3, iD (pln v v.length))], []⟩)
end Pi

/- Stamp: the loops that make rows. -/
namespace Pi
open Go Go.Proofs
set_option maxRecDepth 100000
variable {X : XF}
theorem numD_set (o : List Int) (k : Nat) (y x : Int) : List.set (numD o) k (D.withCells (D.int .i64 y) [D.int .i64 x]) = numD (o.set k x) := by
  simp [numD, D.withCells, List.map_set]
theorem numD_zero (m : Nat) : List.replicate m (D.int .i64 0) = numD (List.replicate m 0) := by simp [numD]
/-- The first k of a row are told. -/
def Upto (f : Nat → Int) (k : Nat) (o : List Int) : Prop := ∀ i, i < k → o.getD i 0 = f i
theorem Upto.set {f : Nat → Int} {k : Nat} {o : List Int} (h : Upto f k o) (hk : k < o.length) : Upto f (k + 1) (o.set k (f k)) := fun i hi => by
  by_cases e : i = k
  · subst e; simp [List.getD_eq_getElem?_getD, hk]
  · have := h i (by omega)
    simpa [List.getD_eq_getElem?_getD, List.getElem?_set, Ne.symm e] using this
theorem Upto.all {f : Nat → Int} {o : List Int} (h : Upto f o.length o) : o = rowV o.length f := ext_get (by simp) fun i => by
  rw [rowV_get]
  split
  · exact h i (by assumption)
  · exact getD_ge (by omega)
theorem rowV_succ (n : Nat) (f : Nat → Int) : rowV (n + 1) f = rowV n f ++ [f n] := by simp [rowV, List.range_succ]
theorem room8 {m : Nat} (h : m ≤ 1000000) (x : D) : roomOk (m + List.length [x]) 8 = true := roomOk_small (by simp; omega) (by simp; omega)
def bothL (g : Int → Int → Int) (v w : List Int) (n : Nat) : List Int := rowV n fun i => g (atV v (i + 1)) (atV w (i + 1))
def gBoth (g : Int → Int → Int) (f : Nat) : S → K (PX × S) := fun s post => ∃ v w es m n, s = ⟨36, [(0, vD v), (1, vD w), (2, P.fn f []), (7, P.sl 0 0 m), (16, iD n), (17, iD 0)], [(0, ⟨0, none, .arr 3 false es⟩)]⟩ ∧
  (m = (max (v.length : Int) w.length).toNat ∧ n = m ∧ es = List.replicate m (D.int .i64 0) ∧ vSm v ∧ vSm w) ∧ post (.exit 0, ⟨36, [(7, P.sl 0 0 m)], [(0, ⟨0, none, .arr 3 false (numD (bothL g v w m))⟩)]⟩)
/-! the document's: rows by appending -/
theorem loopRow {f id n t : Nat} {H : List (FuncId × KF1)} (hH : HD X H) (hu : uniq PR f = true) (hc : clsOK (dcT f) (loopOf PR f id) = true)
    {A : Type} (hd : A → List Int → Nat → Int → S) (Pre : A → Prop) (len : A → Nat) (F : A → Nat → Int)
    (hvc : ∀ (a : A) (o : List Int) (m : Nat) (k : Int), Pre a → len a ≤ 1000000 → 1 ≤ k → k ≤ len a + 1 → m = o.length → (m : Int) + 1 = k → ∀ post, (k ≤ len a → post (.normal, hd a (o ++ [F a m]) (m + 1) (k + 1))) → (¬ k ≤ len a → post (.exit 0, ⟨n, [(t, P.sl 0 0 m)], [(0, ⟨0, none, .arr 3 false (numD o)⟩)]⟩)) → roundL H [] f id (hd a o m k) post)
    {g : S → K (PX × S)} (hg : ∀ s post, g s post → ∃ a, s = hd a [] 0 1 ∧ Pre a ∧ len a ≤ 1000000 ∧ post (.exit 0, ⟨n, [(t, P.sl 0 0 (len a))], [(0, ⟨0, none, .arr 3 false (numD (rowV (len a) (F a)))⟩)]⟩)) :
    LD X f id (loopHook (kpF f id) g) := LD.par (H := H) (hk := []) hu hc hH .nil
  (A := A) (B := List Int × Nat × Int) (fun a b => hd a b.1 b.2.1 b.2.2)
  (fun a b => Pre a ∧ len a ≤ 1000000 ∧ b.2.1 ≤ len a ∧ b.1 = rowV b.2.1 (F a) ∧ b.2.2 = b.2.1 + 1)
  (fun a b => len a + 1 - b.2.1)
  (fun a x => x = (.exit 0, ⟨n, [(t, P.sl 0 0 (len a))], [(0, ⟨0, none, .arr 3 false (numD (rowV (len a) (F a)))⟩)]⟩))
  (by
    rintro a ⟨o, m, k⟩ ⟨hp, hl, hm, ho, hk⟩
    dsimp only at *
    refine hvc a o m k hp hl (by omega) (by omega) (by rw [ho]; simp) (by omega) _ (fun h => ?_) fun h => ?_
    · exact ⟨_, by dsimp only; omega, (o ++ [F a m], m + 1, k + 1), rfl, ⟨hp, hl, by dsimp only; omega, by rw [ho, rowV_succ], by dsimp only; omega⟩, rfl⟩
    · have : m = len a := by omega
      subst this
      subst ho
      rfl)
  (by
    intro s post hs
    obtain ⟨a, rfl, h1, h2, h3⟩ := hg s post hs
    refine ⟨a, ([], 0, 1), rfl, ⟨h1, h2, Nat.zero_le _, rfl, rfl⟩, ?_⟩
    rintro x rfl
    exact h3)
def gMrg (g : Int → Int → Int) : S → K (PX × S) := fun s post => ∃ v w es, s = ⟨28, [(0, vD v), (1, vD w), (5, P.sl 0 0 0), (6, iD 1)], [(0, ⟨0, none, .arr 3 false es⟩)]⟩ ∧ (es = [] ∧ vSm v ∧ vSm w) ∧
  post (.exit 0, ⟨28, [(5, P.sl 0 0 (max v.length w.length))], [(0, ⟨0, none, .arr 3 false (numD (bothL g v w (max v.length w.length)))⟩)]⟩)
def gWth : S → K (PX × S) := fun s post => ∃ v r n es, s = ⟨39, [(0, vD v), (1, iD r), (2, iD n), (8, P.sl 0 0 0), (9, iD 1)], [(0, ⟨0, none, .arr 3 false es⟩)]⟩ ∧ (es = [] ∧ vSm v ∧ 1 ≤ r ∧ r ≤ 16) ∧
  post (.exit 0, ⟨39, [(8, P.sl 0 0 (max v.length r.toNat))], [(0, ⟨0, none, .arr 3 false (numD (withV v r n))⟩)]⟩)
end Pi

/- Stamp: vectors: what the runs ask. -/
namespace Pi
open Go Go.Proofs
set_option maxRecDepth 100000
set_option maxHeartbeats 0
def gVec : S → K (PX × S) := fun s post => ∃ v n, s = vecH v n 0 ∧ (n = v.length ∧ vSm v) ∧ (¬ (∀ x ∈ v, 0 ≤ x) → post (.ret, ⟨25, [(0, vD v), (2, .d (.bool false))], []⟩)) ∧ ((∀ x ∈ v, 0 ≤ x) → post (.exit 0, ⟨25, [(0, vD v)], []⟩))
def gVer : S → K (PX × S) := fun s post => ∃ v, s = verH v 0 ∧ vSm v ∧ (¬ (∀ x ∈ v, 0 ≤ x) → post (.ret, ⟨24, [(0, vD v), (2, .d (.bool false))], []⟩)) ∧ ((∀ x ∈ v, 0 ≤ x) → post (.exit 0, ⟨24, [(0, vD v)], []⟩))
def gCov : S → K (PX × S) := fun s post => ∃ v w m, s = covH v w m 0 ∧ (m = max (v.length : Int) w.length ∧ vSm v ∧ vSm w) ∧ (covV v w = false → post (.ret, ⟨24, [(4, .d (.bool false))], []⟩)) ∧ (covV v w = true → post (.exit 0, ⟨24, [], []⟩))
def gCor : S → K (PX × S) := fun s post => ∃ v w, s = corH v w 1 ∧ (vSm v ∧ vSm w) ∧ (covV v w = false → post (.ret, ⟨22, [(4, .d (.bool false))], []⟩)) ∧ (covV v w = true → post (.exit 0, ⟨22, [], []⟩))
def hSame : KF1 := fun ps R post => ∃ v w, ps = [vD v, vD w] ∧ R = [] ∧ vSm v ∧ post (.d (.bool (decide (v = w))), [])
def hPlain : KF1 := fun ps R post => ∃ v, ps = [vD v] ∧ R = [] ∧ vSm v ∧ post (vD (plainV v), [])
def hBoth (f : Nat) (g : Int → Int → Int) : KF1 := fun ps R post => ∃ v w, ps = [vD v, vD w, .fn f []] ∧ R = [] ∧ (vSm v ∧ vSm w) ∧ post (vD (plainV (bothL g v w (max v.length w.length))), [])
def hMerge : KF1 := fun ps R post => ∃ v w, ps = [vD v, vD w] ∧ R = [] ∧ (vSm v ∧ vSm w) ∧ post (vD (mergeV v w), [])
def hMeet : KF1 := fun ps R post => ∃ v w, ps = [vD v, vD w] ∧ R = [] ∧ (vSm v ∧ vSm w) ∧ post (vD (meetV v w), [])
def hWith : KF1 := fun ps R post => ∃ v r n, ps = [vD v, iD r, iD n] ∧ R = [] ∧ vSm v ∧ (¬ (1 ≤ r ∧ r ≤ 16) → post (.tup [.sl 0 0 0, iD 1], [(0, ⟨0, none, .arr 3 false []⟩)])) ∧ ((1 ≤ r ∧ r ≤ 16) → post (.tup [vD (plainV (withV v r n)), iD 0], []))
def hVec : KF1 := fun ps R post => ∃ v, ps = [vD v] ∧ R = [] ∧ vSm v ∧ post (.d (.bool (vecOk v)), [])
def hCov : KF1 := fun ps R post => ∃ v w, ps = [vD v, vD w] ∧ R = [] ∧ (vSm v ∧ vSm w) ∧ post (.d (.bool (covV v w)), [])
end Pi

/- Stamp: vectors: the functions. -/
namespace Pi
open Go Go.Proofs
set_option maxRecDepth 100000
variable {X : XF}
theorem allNat (v : List Int) : (∀ x ∈ v, 0 ≤ x) ↔ ∀ i : Nat, i < v.length → 0 ≤ v.getD i 0 := by
  constructor
  · intro h i hi
    have := h v[i] (List.getElem_mem hi)
    simpa [List.getD_eq_getElem?_getD, hi] using this
  · intro h x hx
    obtain ⟨i, hi, rfl⟩ := List.getElem_of_mem hx
    have := h i hi
    simpa [List.getD_eq_getElem?_getD, hi] using this
theorem covV_of {v w : List Int} (h : ∀ j : Nat, j < max v.length w.length → atV w ((j : Int) + 1) ≤ atV v ((j : Int) + 1)) : covV v w = true := by simpa [covV] using h
theorem covV_no {v w : List Int} {j : Nat} (h : j < max v.length w.length) (h' : atV v ((j : Int) + 1) < atV w ((j : Int) + 1)) : covV v w = false := by
  unfold covV
  exact decide_eq_false fun hh => by have := hh j h; omega
theorem bothLen (g : Int → Int → Int) (v w : List Int) (m : Nat) : (bothL g v w m).length = m := by simp [bothL]
theorem numD_takeAll {o : List Int} {m : Nat} (h : o.length = m) : (numD o).take m = numD o := by
  rw [List.take_of_length_le (by simp [h])]
theorem withV_eq {v : List Int} {r n : Int} {m : Nat} (hr : 1 ≤ r) (hm : m = max v.length r.toNat) : (v ++ (List.replicate m 0).drop v.length).set (r - 1).toNat n = withV v r n := by
  refine ext_get (by simp [withV]; omega) fun i => ?_
  rw [withV, rowV_get]
  by_cases h : i < m
  · rw [if_pos (by omega)]
    by_cases e : (i : Int) + 1 = r
    · rw [if_pos e, show (r - 1).toNat = i by omega]
      rw [List.getD_eq_getElem?_getD, List.getElem?_set_self (by simp; omega)]
      rfl
    · rw [if_neg e, atV_nat]
      simp only [List.getD_eq_getElem?_getD]
      rw [List.getElem?_set_ne (by omega)]
      by_cases h2 : i < v.length
      · rw [List.getElem?_append_left h2]
      · rw [List.getElem?_append_right (by omega), List.getElem?_eq_none (l := v) (by omega)]
        simp [List.getElem?_replicate]
        split <;> rfl
  · rw [if_neg (by omega), getD_ge (by simp; omega)]
theorem numD_pad (v : List Int) (m : Nat) : numD v ++ List.drop v.length (List.replicate m (D.int .i64 0)) = numD (v ++ (List.replicate m 0).drop v.length) := by
  simp [numD]
end Pi

/- Stamp: texts: what the runs ask. -/
namespace Pi
open Go Go.Proofs
set_option maxRecDepth 100000
set_option maxHeartbeats 0
def hSplit : KF1 := fun ps R post => ∃ s sep, ps = [.d (.str s), .d (.str sep)] ∧ R = [] ∧ (s.length < 4294967281 ∧ 1 ≤ sep.length ∧ (Lib.split s sep).length = Lib.count s sep + 1 ∧ Lib.count s sep ≤ 4294967281) ∧
  ∀ l, Lib.split s sep = l → post (.sl 0 0 l.length, [(0, ⟨0, none, .arr 9 false (l.map D.str)⟩)])
def hAtoi : KF1 := fun ps R post => ∃ s, ps = [.d (.str s)] ∧ R = [] ∧ s.length ≤ 281474976710656 ∧ post (.tup [.d (.int .i64 (atoiV s)), .bad], [])
def hItoa : KF1 := fun ps R post => ∃ n, ps = [.d (.int .i64 n)] ∧ R = [] ∧ (-9223372036854775808 ≤ n ∧ n ≤ 9223372036854775807) ∧ post (.d (.str (Lib.itoa n)), [])
def textS (t r i : Int) : List UInt8 := Lib.itoa t ++ [46] ++ Lib.itoa r ++ [46] ++ Lib.itoa i
def textId (t r i : Int) : List UInt8 := if rightId t r i = true then textS t r i else []
def hText : KF1 := fun ps R post => ∃ t r i, ps = [.d (idD t r i)] ∧ R = [] ∧ post (.d (.str (textId t r i)), [])
theorem vcText (t r i : Int) (post : P × List (Nat × En) → Prop) : (∃ (t_1 : Int), ∃ (r_1 : Int), ∃ (i_1 : Int), [P.d (D.agg [D.int IntKind.i64 t, D.int IntKind.i64 r, D.int IntKind.i64 i])] = [P.d (D.agg [D.int IntKind.i64 t_1, D.int IntKind.i64 r_1, D.int IntKind.i64 i_1])] ∧ EqR [] [] ∧ bif !rightId t_1 r_1 i_1 then post (P.d (D.str []), []) else ∃ (n : Int), [P.d (D.int IntKind.i64 t)] = [P.d (D.int IntKind.i64 n)] ∧ EqR [] [] ∧ ((-9223372036854775808 : Int) ≤ n ∧ n ≤ (9223372036854775807 : Int)) ∧ bif decide (List.length (Lib.itoa n) + 1 ≤ 9223372036854775807) then ∃ (n_1 : Int), [P.d (D.int IntKind.i64 r)] = [P.d (D.int IntKind.i64 n_1)] ∧ EqR [] [] ∧ ((-9223372036854775808 : Int) ≤ n_1 ∧ n_1 ≤ (9223372036854775807 : Int)) ∧ bif decide (List.length (Lib.itoa n ++ [(46 : UInt8)]) + List.length (Lib.itoa n_1) ≤ 9223372036854775807) then bif decide (List.length (Lib.itoa n ++ [(46 : UInt8)] ++ Lib.itoa n_1) + 1 ≤ 9223372036854775807) then ∃ (n_2 : Int), [P.d (D.int IntKind.i64 i)] = [P.d (D.int IntKind.i64 n_2)] ∧ EqR [] [] ∧ ((-9223372036854775808 : Int) ≤ n_2 ∧ n_2 ≤ (9223372036854775807 : Int)) ∧ bif decide (List.length (Lib.itoa n ++ [(46 : UInt8)] ++ Lib.itoa n_1 ++ [(46 : UInt8)]) + List.length (Lib.itoa n_2) ≤ 9223372036854775807) then post (P.d (D.str (Lib.itoa n ++ [(46 : UInt8)] ++ Lib.itoa n_1 ++ [(46 : UInt8)] ++ Lib.itoa n_2)), []) else False else False else False else False) = (bodyF [(47, hRightId), (95, hItoa)] [] 69 [.d (idD t r i)] []) post := by kernel_rfl
end Pi

/- Stamp: texts. -/
namespace Pi
open Go Go.Proofs
set_option maxRecDepth 100000
variable {X : XF}

theorem okItoa : FD X 95 hItoa := FD.ofX Tryz.func95 (by kernel_rfl) (by kernel_rfl) (by
  intro ps R post hh
  obtain ⟨n, rfl, rfl, hc, hp⟩ := hh
  refine ⟨_, ?_, hp⟩
  show xItoa [.d (.int .i64 n)] [] = _
  exact if_pos hc)

theorem decDigits_len : ∀ u : Nat, (Lib.decDigits u).length ≤ u + 1 := by
  intro u
  induction u using Nat.strongRecOn with
  | _ u ih =>
    rw [Lib.decDigits]
    split
    · simp
    · have := ih (u / 10) (by omega)
      simp only [List.length_append, List.length_cons, List.length_nil]
      omega
theorem itoa_len {n : Int} (h0 : 0 ≤ n) (h1 : n ≤ 1099511627776) : (Lib.itoa n).length ≤ 1099511627777 := by
  unfold Lib.itoa
  rw [if_neg (by omega)]
  have := decDigits_len n.toNat
  omega

theorem okText : FD X 69 hText := FD.mk (H := [(47, hRightId), (95, hItoa)]) (by kernel_rfl) (.cons okRightId (.cons okItoa .nil)) .nil (by
  intro ps R post hh
  obtain ⟨t, r, i, rfl, rfl, hp⟩ := hh
  rw [← vcText]
  refine ⟨_, _, _, rfl, rfl, condI (fun h => ?_) fun h => ?_⟩
  · have h : rightId t r i = false := by simpa using h
    rw [textId, if_neg (by simp [h])] at hp
    exact hp
  · have h : rightId t r i = true := by simpa using h
    rw [textId, if_pos h] at hp
    simp only [rightId, decide_eq_true_eq] at h
    have l1 := itoa_len (n := t) (by omega) (by omega)
    have l2 := itoa_len (n := r) (by omega) (by omega)
    have l3 := itoa_len (n := i) (by omega) (by omega)
    refine ⟨_, rfl, rfl, ⟨by omega, by omega⟩, oblI (by simp; omega) ⟨_, rfl, rfl, ⟨by omega, by omega⟩, oblI (by simp; omega) (oblI (by simp; omega) ⟨_, rfl, rfl, ⟨by omega, by omega⟩, oblI (by simp; omega) hp⟩)⟩⟩)

/-- The id of a text. -/
def parse3 (s : List UInt8) : Option (Int × Int × Int) := match Lib.split s [46] with
  | [a, b, c] => if rightId (atoiV a) (atoiV b) (atoiV c) = true ∧ textS (atoiV a) (atoiV b) (atoiV c) = s then some (atoiV a, atoiV b, atoiV c) else none
  | _ => none
structure SplitOk (s : List UInt8) : Prop where
  len : s.length < 4294967281
  cnt : (Lib.split s [46]).length = Lib.count s [46] + 1
  lim : Lib.count s [46] ≤ 4294967281
  each : ∀ x ∈ Lib.split s [46], x.length ≤ 281474976710656
def hParse : KF1 := fun ps R post => ∃ s, ps = [.d (.str s)] ∧ R = [] ∧ SplitOk s ∧ (parse3 s = none → post (.tup [.d (idD 0 0 0), .d (.bool false)], [])) ∧ (∀ t r i, parse3 s = some (t, r, i) → post (.tup [.d (idD t r i), .d (.bool true)], []))

theorem isD9 (x : List UInt8) : isD PR 9 (.str x) = true := by kernel_rfl
end Pi

/- Stamp: awake: what its run asks. -/
namespace Pi
open Go Go.Proofs
set_option maxRecDepth 100000
set_option maxHeartbeats 0
def hTextA : KF1 := fun ps R post => ps = [.d (idD 3 1 0)] ∧ R = [] ∧ post (.d (.str [51, 46, 49, 46, 48]), [])
def hParseA : KF1 := fun ps R post => ps = [.d (.str [51, 46, 49, 46, 48])] ∧ R = [] ∧ post (.tup [.d (idD 3 1 0), .d (.bool true)], []) ∨
  ps = [.d (.str [48, 51, 46, 49, 46, 48])] ∧ R = [] ∧ post (.tup [.d (idD 0 0 0), .d (.bool false)], [])
end Pi

/- Stamp: awake. -/
namespace Pi
open Go Go.Proofs
set_option maxRecDepth 100000
variable {X : XF}


theorem sp1 : Lib.split [51, 46, 49, 46, 48] [46] = [[51], [49], [48]] := by kernel_rfl
theorem sp2 : Lib.split [48, 51, 46, 49, 46, 48] [46] = [[48, 51], [49], [48]] := by kernel_rfl
theorem ct1 : Lib.count [51, 46, 49, 46, 48] [46] = 2 := by kernel_rfl
theorem ct2 : Lib.count [48, 51, 46, 49, 46, 48] [46] = 2 := by kernel_rfl
theorem at1 : atoiV [51] = 3 := by kernel_rfl
theorem at2 : atoiV [49] = 1 := by kernel_rfl
theorem at3 : atoiV [48] = 0 := by kernel_rfl
theorem at4 : atoiV [48, 51] = 3 := by kernel_rfl
theorem tx1 : textS 3 1 0 = [51, 46, 49, 46, 48] := by
  have d3 : Lib.decDigits 3 = [51] := by rw [Lib.decDigits]; rfl
  have d1 : Lib.decDigits 1 = [49] := by rw [Lib.decDigits]; rfl
  have d0 : Lib.decDigits 0 = [48] := by rw [Lib.decDigits]; rfl
  simp [textS, Lib.itoa, d3, d1, d0]
theorem rt1 : rightId 3 1 0 = true := by kernel_rfl

theorem okTextA : FD X 69 hTextA := okText.weaken (by
  intro ps R post hh
  obtain ⟨rfl, rfl, hp⟩ := hh
  refine ⟨3, 1, 0, rfl, rfl, ?_⟩
  rw [textId, if_pos rt1, tx1]
  exact hp)
def hAwake : KF1 := fun ps R post => ps = [] ∧ R = [] ∧ post (.d (.bool true), [])
end Pi

/- Stamp: texts, plain laws. -/
namespace Pi
open Go

/-! splitting at one byte -/
def splitBy (c : UInt8) : List UInt8 → List (List UInt8)
  | [] => [[]]
  | b :: l => if b = c then [] :: splitBy c l else match splitBy c l with | h :: t => (b :: h) :: t | [] => [[b]]
theorem splitBy_ne (c : UInt8) : ∀ l, splitBy c l ≠ []
  | [] => by simp [splitBy]
  | b :: l => by
    unfold splitBy
    split
    · simp
    · split <;> simp
theorem splitK_by (c : UInt8) : ∀ s : List UInt8, Lib.splitK [c] 0 (s.count c) s = splitBy c s
  | [] => rfl
  | b :: l => by
    have ih := splitK_by c l
    by_cases h : b = c
    · subst h
      rw [List.count_cons_self, splitBy, if_pos rfl, Lib.splitK]
      have hix : Lib.index (b :: l) [b] = 0 := by rw [Lib.index]; simp [List.isPrefixOf]
      rw [if_neg (by rw [hix]; decide), hix]
      simp [ih]
    · have hp : ([c] : List UInt8).isPrefixOf (b :: l) = false := by simp [List.isPrefixOf, Ne.symm h]
      have hix : Lib.index (b :: l) [c] = if Lib.index l [c] == -1 then -1 else Lib.index l [c] + 1 := by rw [Lib.index, hp]; simp
      rw [List.count_cons_of_ne (by simpa using h), splitBy, if_neg h]
      cases hk : l.count c with
      | zero =>
        rw [hk] at ih
        rw [← ih]
        rfl
      | succ m =>
        rw [hk] at ih
        have hc1 : Lib.count l [c] = m + 1 := by rw [Lib.count_one, hk]
        by_cases hm : Lib.index l [c] = -1
        · rw [Lib.count_miss hm] at hc1; omega
        · have hge := Lib.index_ge l [c]
          obtain ⟨j, hj⟩ : ∃ j : Nat, Lib.index l [c] = j := ⟨(Lib.index l [c]).toNat, by omega⟩
          rw [Lib.splitK, if_neg (by rw [hj]; simp), hj] at ih
          rw [Lib.splitK, hix, hj]
          have e1 : ((j : Int) == -1) = false := by rw [beq_eq_false_iff_ne]; omega
          have e2 : (((j : Int) + 1) == -1) = false := by rw [beq_eq_false_iff_ne]; omega
          simp only [e1, Bool.false_eq_true, if_false, e2]
          rw [← ih]
          simp only [List.length_singleton, Int.toNat_natCast, Nat.add_zero]
          rw [show ((j : Int) + 1).toNat = j + 1 by omega]
          simp
theorem split_by (c : UInt8) (s : List UInt8) : Lib.split s [c] = splitBy c s := by
  rw [Lib.split, Lib.count_one, splitK_by]
theorem splitBy_len (c : UInt8) : ∀ s : List UInt8, (splitBy c s).length = s.count c + 1
  | [] => rfl
  | b :: l => by
    have ih := splitBy_len c l
    unfold splitBy
    split
    · rename_i h; subst h; simp [ih]
    · rename_i h
      rw [List.count_cons_of_ne (by simpa using h), ← ih]
      split
      · rename_i e; rw [e]; rfl
      · rename_i e; exact absurd e (splitBy_ne c l)
theorem splitBy_each (c : UInt8) : ∀ s : List UInt8, ∀ x ∈ splitBy c s, x.length ≤ s.length
  | [], x, h => by simp [splitBy] at h; subst h; simp
  | b :: l, x, h => by
    have ih := splitBy_each c l
    unfold splitBy at h
    split at h
    · rcases List.mem_cons.1 h with rfl | h
      · simp
      · have := ih x h; simp; omega
    · split at h
      · rename_i y t e
        rcases List.mem_cons.1 h with rfl | h
        · have := ih y (by rw [e]; simp); simp; omega
        · have := ih x (by rw [e]; simp [h]); simp; omega
      · simp at h; subst h; simp
/-- Without the byte: one piece. -/
theorem splitBy_no (c : UInt8) : ∀ s : List UInt8, c ∉ s → splitBy c s = [s]
  | [], _ => rfl
  | b :: l, h => by
    simp at h
    unfold splitBy
    rw [if_neg (Ne.symm h.1), splitBy_no c l h.2]
theorem splitBy_app (c : UInt8) (t : List UInt8) : ∀ s : List UInt8, c ∉ s → splitBy c (s ++ c :: t) = s :: splitBy c t
  | [], _ => by simp [splitBy]
  | b :: l, h => by
    simp at h
    rw [List.cons_append, splitBy, if_neg (Ne.symm h.1), splitBy_app c t l h.2]

/-! numbers -/
def isDig (b : UInt8) : Bool := decide (48 ≤ b.toNat ∧ b.toNat ≤ 57)
def stepV (a : Nat) (b : UInt8) : Nat := a * 10 + (b.toNat - 48)
def numVal (l : List UInt8) : Nat := l.foldl stepV 0
def digitB (k : Nat) : UInt8 := UInt8.ofNat (48 + k)
theorem digitB_nat {k : Nat} (h : k < 10) : (digitB k).toNat = 48 + k := by
  unfold digitB
  rw [UInt8.toNat_ofNat']
  omega
theorem digitB_dig {k : Nat} (h : k < 10) : isDig (digitB k) = true := by
  unfold isDig; rw [digitB_nat h]; simp; omega
theorem dig_ofNat {b : UInt8} (h : isDig b = true) : ∃ k, k < 10 ∧ b = digitB k := by
  unfold isDig at h
  simp at h
  refine ⟨b.toNat - 48, by omega, ?_⟩
  apply UInt8.toNat_inj.1
  rw [digitB_nat (by omega)]
  omega
theorem dec_small {u : Nat} (h : u < 10) : Lib.decDigits u = [digitB u] := by rw [Lib.decDigits, dif_pos h]; rfl
theorem dec_big {u : Nat} (h : ¬ u < 10) : Lib.decDigits u = Lib.decDigits (u / 10) ++ [digitB (u % 10)] := by rw [Lib.decDigits, dif_neg h]; rfl
theorem numVal_app (l : List UInt8) (b : UInt8) : numVal (l ++ [b]) = stepV (numVal l) b := by simp [numVal]
theorem dec_dig : ∀ u : Nat, ∀ b ∈ Lib.decDigits u, isDig b = true := by
  intro u
  induction u using Nat.strongRecOn with
  | _ u ih =>
    intro b hb
    by_cases h : u < 10
    · rw [dec_small h] at hb; simp at hb; subst hb; exact digitB_dig h
    · rw [dec_big h] at hb
      rcases List.mem_append.1 hb with hb | hb
      · exact ih (u / 10) (by omega) b hb
      · simp at hb; subst hb; exact digitB_dig (by omega)
theorem dec_val : ∀ u : Nat, numVal (Lib.decDigits u) = u := by
  intro u
  induction u using Nat.strongRecOn with
  | _ u ih =>
    by_cases h : u < 10
    · rw [dec_small h]; simp [numVal, stepV, digitB_nat h]
    · rw [dec_big h, numVal_app, ih (u / 10) (by omega), stepV, digitB_nat (by omega)]; omega
theorem dec_ne (u : Nat) : Lib.decDigits u ≠ [] := by
  by_cases h : u < 10
  · rw [dec_small h]; simp
  · rw [dec_big h]; simp
theorem dec_head : ∀ u : Nat, 0 < u → (Lib.decDigits u).head? ≠ some 48 := by
  intro u
  induction u using Nat.strongRecOn with
  | _ u ih =>
    intro h0
    by_cases h : u < 10
    · rw [dec_small h]
      simp
      intro e
      have := congrArg UInt8.toNat e
      rw [digitB_nat h] at this
      simp at this
      omega
    · rw [dec_big h]
      have := ih (u / 10) (by omega) (by omega)
      cases hd : Lib.decDigits (u / 10) with
      | nil => exact absurd hd (dec_ne _)
      | cons x r => rw [hd] at this; simpa using this
theorem revInd {α : Type} {C : List α → Prop} (h0 : C []) (hs : ∀ l b, C l → C (l ++ [b])) (l : List α) : C l := by
  have : ∀ l : List α, C l.reverse := fun l => by
    induction l with
    | nil => exact h0
    | cons b l ih => rw [List.reverse_cons]; exact hs _ _ ih
  have h := this l.reverse
  rwa [List.reverse_reverse] at h
/-- Digits without a nought ahead are a number's. -/
theorem dec_of : ∀ l : List UInt8, l ≠ [] → (∀ b ∈ l, isDig b = true) → (l.head? = some 48 → l.length = 1) → Lib.decDigits (numVal l) = l := by
  refine revInd (fun h => absurd rfl h) ?_
  · intro l b ih _ hd hh
    obtain ⟨k, hk, rfl⟩ := dig_ofNat (hd b (by simp))
    rw [numVal_app, stepV, digitB_nat hk]
    cases l with
    | nil => simp [numVal]; rw [dec_small (by omega)]
    | cons x r =>
      have hx : x ≠ 48 := fun e => by
        subst e
        have := hh (by simp)
        simp at this
      have ih := ih (by simp) (fun b hb => hd b (List.mem_append_left _ hb)) (fun e => by simp at e; exact absurd e hx)
      have hpos : 0 < numVal (x :: r) := by
        refine Classical.byContradiction fun hc => ?_
        have h0 : numVal (x :: r) = 0 := by omega
        rw [h0, dec_small (by omega)] at ih
        injection ih with e1 _
        exact hx (by rw [← e1]; rfl)
      rw [show numVal (x :: r) * 10 + (48 + k - 48) = numVal (x :: r) * 10 + k by omega, dec_big (by omega), show (numVal (x :: r) * 10 + k) / 10 = numVal (x :: r) by omega, show (numVal (x :: r) * 10 + k) % 10 = k by omega, ih]
theorem dec_len : ∀ (k u : Nat), u < 10 ^ (k + 1) → (Lib.decDigits u).length ≤ k + 1
  | 0, u, h => by rw [dec_small (by simpa using h)]; simp
  | k + 1, u, h => by
    by_cases hu : u < 10
    · rw [dec_small hu]; simp
    · rw [dec_big hu]
      have := dec_len k (u / 10) (by rw [Nat.div_lt_iff_lt_mul (by omega)]; rw [Nat.pow_succ] at h; exact h)
      simp; omega
theorem numVal_ge : ∀ (l : List UInt8) (a : Nat), a ≤ l.foldl stepV a
  | [], a => Nat.le_refl _
  | b :: l, a => by
    have := numVal_ge l (stepV a b)
    simp only [List.foldl_cons]
    unfold stepV at this ⊢
    omega
theorem parseU : ∀ (l : List UInt8) (a : Nat), (∀ b ∈ l, isDig b = true) → l.foldl stepV a < 18446744073709551616 → Lib.parseUint10 a l = .ok (l.foldl stepV a)
  | [], a, _, _ => rfl
  | b :: l, a, hd, hlt => by
    have hb := hd b (by simp)
    unfold isDig at hb
    simp only [decide_eq_true_eq] at hb
    simp only [List.foldl_cons] at hlt ⊢
    have h1 := numVal_ge l (stepV a b)
    have h2 : stepV a b < 18446744073709551616 := by omega
    have e : a * 10 + (b.toNat - 48) = stepV a b := rfl
    rw [Lib.parseUint10, if_pos hb, if_neg (by unfold stepV at h2; omega), e, if_neg (by omega)]
    exact parseU l _ (fun b hb => hd b (by simp [hb])) hlt
theorem atoi_dec {u : Nat} (h : u < 9223372036854775808) : atoiV (Lib.decDigits u) = u := by
  have hv := dec_val u
  unfold numVal at hv
  have hp := parseU (Lib.decDigits u) 0 (dec_dig u) (by rw [hv]; omega)
  rw [hv] at hp
  unfold atoiV Lib.atoiAll
  cases hd : Lib.decDigits u with
  | nil => exact absurd hd (dec_ne u)
  | cons c r =>
    have hc := dec_dig u c (by rw [hd]; simp)
    unfold isDig at hc
    simp only [decide_eq_true_eq] at hc
    have e1 : ¬ (c.toNat = 43 ∨ c.toNat = 45) := by omega
    have e2 : ¬ c.toNat = 45 := by omega
    rw [hd] at hp
    have hm : Lib.parseMag (c :: r) = .ok u := by rw [Lib.parseMag, if_neg (by simp), hp]
    have e3 : ¬ (¬ c.toNat = 45 ∧ 9223372036854775808 ≤ u) := by omega
    have e4 : ¬ (c.toNat = 45 ∧ 9223372036854775808 < u) := by omega
    dsimp only
    rw [if_neg e1, hm]
    dsimp only
    rw [if_neg e3, if_neg e4, if_neg e2]

/-! the document's reading of an id -/
def digs (s : List UInt8) : List UInt8 := (s.take 16).takeWhile isDig
def numberV (s : List UInt8) : Option (Nat × List UInt8) :=
  if digs s = [] ∨ 15 < (digs s).length ∨ (s.head? = some 48 ∧ 1 < (digs s).length) then none else some (numVal (digs s), s.drop (digs s).length)
def dotV (s : List UInt8) : Option (Nat × List UInt8) := match s with | 46 :: r => numberV r | _ => none
def ref3 (s : List UInt8) : Option (Nat × Nat × Nat × List UInt8) := match numberV s with
  | none => none
  | some (a, r) => match dotV r with
    | none => none
    | some (b, r') => match dotV r' with
      | none => none
      | some (c, r'') => some (a, b, c, r'')
theorem takeWhile_app {α : Type} (p : α → Bool) : ∀ (d r : List α), (∀ b ∈ d, p b = true) → (∀ b, r.head? = some b → p b = false) → (d ++ r).takeWhile p = d
  | [], r, _, h => by
    cases r with
    | nil => rfl
    | cons x r => simp [h x rfl]
  | x :: d, r, hd, h => by
    simp [hd x (by simp)]
    exact takeWhile_app p d r (fun b hb => hd b (by simp [hb])) h
theorem numberV_some {s : List UInt8} {a : Nat} {r : List UInt8} (h : numberV s = some (a, r)) : s = Lib.decDigits a ++ r ∧ a < 10 ^ 15 := by
  unfold numberV at h
  split at h
  · cases h
  · rename_i hc
    simp only [not_or] at hc
    obtain ⟨h1, h2, h3⟩ := hc
    simp only [Option.some.injEq, Prod.mk.injEq] at h
    obtain ⟨rfl, rfl⟩ := h
    have hpre : s.take (digs s).length = digs s := by
      have h4 : digs s <+: s := (List.takeWhile_prefix _).trans (List.take_prefix _ _)
      exact (List.prefix_iff_eq_take.1 h4).symm
    have hdig : ∀ b ∈ digs s, isDig b = true := fun b hb => by
      have := List.all_takeWhile (p := isDig) (l := s.take 16)
      exact List.all_eq_true.1 this b hb
    have hhead : (digs s).head? = s.head? := by
      rw [← hpre]
      cases s with
      | nil => simp
      | cons x r =>
        cases hd : (digs (x :: r)).length with
        | zero => exact absurd (List.length_eq_zero_iff.1 hd) h1
        | succ k => simp
    have hdec : Lib.decDigits (numVal (digs s)) = digs s := dec_of _ h1 hdig (fun e => by
      rw [hhead] at e
      have := List.length_pos_iff.2 h1
      simp only [e, true_and] at h3
      omega)
    refine ⟨?_, ?_⟩
    · rw [hdec]
      conv => lhs; rw [← List.take_append_drop (digs s).length s]
      rw [hpre]
    · refine Nat.lt_of_lt_of_le ?_ (Nat.pow_le_pow_right (by omega) (by omega : (digs s).length ≤ 15))
      clear hdec hhead hpre h3 h2 h1
      have : ∀ l : List UInt8, (∀ b ∈ l, isDig b = true) → numVal l < 10 ^ l.length := by
        refine revInd (fun _ => by simp [numVal]) fun l b ih hd => ?_
        have h1 := ih fun b hb => hd b (List.mem_append_left _ hb)
        have h2 := hd b (by simp)
        unfold isDig at h2
        simp only [decide_eq_true_eq] at h2
        rw [numVal_app, stepV, List.length_append, List.length_singleton, Nat.pow_succ]
        omega
      exact this _ hdig
theorem numberV_of {a : Nat} (ha : a < 10 ^ 15) {r : List UInt8} (hr : ∀ b, r.head? = some b → isDig b = false) : numberV (Lib.decDigits a ++ r) = some (a, r) := by
  have hl := dec_len 14 a ha
  have hd : digs (Lib.decDigits a ++ r) = Lib.decDigits a := by
    unfold digs
    rw [List.take_append, List.take_of_length_le (by omega)]
    refine takeWhile_app isDig _ _ (dec_dig a) fun b hb => hr b ?_
    cases r with
    | nil => simp at hb
    | cons x r =>
      obtain ⟨k, hk⟩ : ∃ k, 16 - (Lib.decDigits a).length = k + 1 := ⟨15 - (Lib.decDigits a).length, by omega⟩
      rw [hk] at hb
      simpa using hb
  have hne := dec_ne a
  unfold numberV
  rw [hd, if_neg, dec_val, List.drop_left]
  rintro (h | h | ⟨h, h'⟩)
  · exact hne h
  · omega
  · have hh : (Lib.decDigits a ++ r).head? = (Lib.decDigits a).head? := by
      cases hda : Lib.decDigits a with
      | nil => exact absurd hda hne
      | cons x t => rfl
    rw [hh] at h
    by_cases h0 : a < 10
    · rw [dec_small h0] at h'; simp at h'
    · exact dec_head a (by omega) h
theorem ref3_some {s : List UInt8} {a b c : Nat} {r : List UInt8} (h : ref3 s = some (a, b, c, r)) : s = Lib.decDigits a ++ 46 :: (Lib.decDigits b ++ 46 :: (Lib.decDigits c ++ r)) ∧ a < 10 ^ 15 ∧ b < 10 ^ 15 ∧ c < 10 ^ 15 := by
  unfold ref3 at h
  split at h
  · cases h
  · rename_i a' r1 h1
    split at h
    · cases h
    · rename_i b' r2 h2
      split at h
      · cases h
      · rename_i c' r3 h3
        simp only [Option.some.injEq, Prod.mk.injEq] at h
        obtain ⟨rfl, rfl, rfl, rfl⟩ := h
        obtain ⟨e1, l1⟩ := numberV_some h1
        unfold dotV at h2 h3
        split at h2
        · rename_i q2
          split at h3
          · rename_i q3
            obtain ⟨e2, l2⟩ := numberV_some h2
            obtain ⟨e3, l3⟩ := numberV_some h3
            refine ⟨?_, l1, l2, l3⟩
            rw [e1, e2, e3]
          · cases h3
        · cases h2
theorem ref3_of {a b c : Nat} (ha : a < 10 ^ 15) (hb : b < 10 ^ 15) (hc : c < 10 ^ 15) : ref3 (Lib.decDigits a ++ 46 :: (Lib.decDigits b ++ 46 :: Lib.decDigits c)) = some (a, b, c, []) := by
  have h46 : ∀ (r : List UInt8) (x : UInt8), (46 :: r).head? = some x → isDig x = false := fun r x h => by simp at h; subst h; rfl
  have h1 := numberV_of ha (r := 46 :: (Lib.decDigits b ++ 46 :: Lib.decDigits c)) (h46 _)
  have h2 := numberV_of hb (r := 46 :: Lib.decDigits c) (h46 _)
  have h3 := numberV_of hc (r := []) (fun x h => by simp at h)
  rw [List.append_nil] at h3
  unfold ref3
  rw [h1]
  simp only [dotV, h2, h3]
theorem itoa_nat (a : Nat) : Lib.itoa (a : Int) = Lib.decDigits a := by unfold Lib.itoa; rw [if_neg (by omega)]; rfl
theorem no46 (a : Nat) : (46 : UInt8) ∉ Lib.decDigits a := fun h => by
  have := dec_dig a 46 h
  simp [isDig] at this
theorem split_text (a b c : Nat) : splitBy 46 (Lib.decDigits a ++ 46 :: (Lib.decDigits b ++ 46 :: Lib.decDigits c)) = [Lib.decDigits a, Lib.decDigits b, Lib.decDigits c] := by
  rw [splitBy_app _ _ _ (no46 a), splitBy_app _ _ _ (no46 b), splitBy_no _ _ (no46 c)]
end Pi

/- Stamp: the document's texts: what the runs ask. -/
namespace Pi
open Go Go.Proofs
set_option maxRecDepth 100000
set_option maxHeartbeats 0
abbrev sD (s : List UInt8) : P := .d (.str s)
abbrev digH (n : Int) (s : List UInt8) : S := ⟨37, [(0, iD n), (3, sD s)], []⟩
abbrev nbrH (s : List UInt8) (n i : Int) : S := ⟨55, [(0, sD s), (4, iD n), (5, iD i)], []⟩
def gDig : S → K (PX × S) := fun s post => ∃ n, s = digH n [] ∧ (0 ≤ n ∧ n ≤ 9223372036854775807) ∧ ∀ n' s', (0 ≤ n' ∧ n' ≤ 9 ∧ s'.length ≤ 9223372036854775807 ∧ Lib.decDigits n.toNat = digitB n'.toNat :: s') → post (.exit 0, ⟨37, [(0, iD n'), (3, sD s')], []⟩)
def gNbr : S → K (PX × S) := fun s post => ∃ l, s = nbrH l 0 0 ∧ l.length ≤ 9223372036854775807 ∧ post (.exit 0, ⟨55, [(0, sD l), (4, iD (numVal (digs l) : Nat)), (5, iD ((digs l).length : Nat))], []⟩)
def hDigits : KF1 := fun ps R post => ∃ n, ps = [iD n] ∧ R = [] ∧ (0 ≤ n ∧ n ≤ 9223372036854775807) ∧ post (sD (Lib.itoa n), [])
def hNumber : KF1 := fun ps R post => ∃ s, ps = [sD s] ∧ R = [] ∧ s.length ≤ 9223372036854775807 ∧ (numberV s = none → post (.tup [iD (-1), sD []], [])) ∧ ∀ n r, numberV s = some (n, r) → post (.tup [iD (n : Nat), sD r], [])
def hParseR : KF1 := fun ps R post => ∃ s, ps = [sD s] ∧ R = [] ∧ s.length ≤ 9223372036854775807 ∧ (parse3 s = none → post (.tup [.d (idD 0 0 0), .d (.bool false)], [])) ∧ (∀ t r i, parse3 s = some (t, r, i) → post (.tup [.d (idD t r i), .d (.bool true)], []))
theorem vcDigN (n : Int) (s : List UInt8) (post : PX × S → Prop) : (bif decide (n > (9 : Int)) then bif decide ((-9223372036854775808 : Int) ≤ (48 : Int) + Int.tmod n (10 : Int) ∧ (48 : Int) + Int.tmod n (10 : Int) ≤ (9223372036854775807 : Int)) then bif decide (List.length [UInt8.ofNat (Int.toNat (D.iVal (D.int IntKind.u8 (IntKind.wrap IntKind.u8 ((48 : Int) + Int.tmod n (10 : Int))))))] + List.length s ≤ 9223372036854775807) then bif decide ((-9223372036854775808 : Int) ≤ Int.tdiv n (10 : Int) ∧ Int.tdiv n (10 : Int) ≤ (9223372036854775807 : Int)) then post (PX.normal, S.mk 37 [(0, P.d (D.int IntKind.i64 (Int.tdiv n (10 : Int)))), (3, P.d (D.str ([UInt8.ofNat (Int.toNat (D.iVal (D.int IntKind.u8 (IntKind.wrap IntKind.u8 ((48 : Int) + Int.tmod n (10 : Int))))))] ++ s)))] []) else False else False else False else post (PX.exit 0, S.mk 37 [(0, P.d (D.int IntKind.i64 n)), (3, P.d (D.str s))] [])) = (roundL [] [] 64 4 (digH n s)) post := by kernel_rfl
theorem vcNbrN (s : List UInt8) (n i : Int) (post : PX × S → Prop) : (bif decide (i < (↑(List.length s) : Int)) then bif decide (i < (16 : Int)) then bif decide ((0 : Int) ≤ i ∧ i < (↑(List.length s) : Int)) then bif decide ((↑(UInt8.toNat (List.getD s (Int.toNat i) (0 : UInt8))) : Int) ≥ (48 : Int)) then bif decide ((0 : Int) ≤ i ∧ i < (↑(List.length s) : Int)) then bif decide ((↑(UInt8.toNat (List.getD s (Int.toNat i) (0 : UInt8))) : Int) ≤ (57 : Int)) then bif decide ((-9223372036854775808 : Int) ≤ n * (10 : Int) ∧ n * (10 : Int) ≤ (9223372036854775807 : Int)) then bif decide ((0 : Int) ≤ i ∧ i < (↑(List.length s) : Int)) then bif decide ((-9223372036854775808 : Int) ≤ (↑(UInt8.toNat (List.getD s (Int.toNat i) (0 : UInt8))) : Int) ∧ (↑(UInt8.toNat (List.getD s (Int.toNat i) (0 : UInt8))) : Int) ≤ (9223372036854775807 : Int)) then bif decide ((-9223372036854775808 : Int) ≤ n * (10 : Int) + (↑(UInt8.toNat (List.getD s (Int.toNat i) (0 : UInt8))) : Int) ∧ n * (10 : Int) + (↑(UInt8.toNat (List.getD s (Int.toNat i) (0 : UInt8))) : Int) ≤ (9223372036854775807 : Int)) then bif decide ((-9223372036854775808 : Int) ≤ n * (10 : Int) + (↑(UInt8.toNat (List.getD s (Int.toNat i) (0 : UInt8))) : Int) - (48 : Int) ∧ n * (10 : Int) + (↑(UInt8.toNat (List.getD s (Int.toNat i) (0 : UInt8))) : Int) - (48 : Int) ≤ (9223372036854775807 : Int)) then bif decide ((-9223372036854775808 : Int) ≤ i + (1 : Int) ∧ i + (1 : Int) ≤ (9223372036854775807 : Int)) then post (PX.normal, S.mk 55 [(0, P.d (D.str s)), (4, P.d (D.int IntKind.i64 (n * (10 : Int) + (↑(UInt8.toNat (List.getD s (Int.toNat i) (0 : UInt8))) : Int) - (48 : Int)))), (5, P.d (D.int IntKind.i64 (i + (1 : Int))))] []) else False else False else False else False else False else False else post (PX.exit 0, S.mk 55 [(0, P.d (D.str s)), (4, P.d (D.int IntKind.i64 n)), (5, P.d (D.int IntKind.i64 i))] []) else False else post (PX.exit 0, S.mk 55 [(0, P.d (D.str s)), (4, P.d (D.int IntKind.i64 n)), (5, P.d (D.int IntKind.i64 i))] []) else False else post (PX.exit 0, S.mk 55 [(0, P.d (D.str s)), (4, P.d (D.int IntKind.i64 n)), (5, P.d (D.int IntKind.i64 i))] []) else post (PX.exit 0, S.mk 55 [(0, P.d (D.str s)), (4, P.d (D.int IntKind.i64 n)), (5, P.d (D.int IntKind.i64 i))] [])) = (roundL [] [] 83 3 (nbrH s n i)) post := by kernel_rfl
theorem vcDig (n : Int) (post : P × List (Nat × En) → Prop) : (bif decide (n < (0 : Int)) then bif decide ((-9223372036854775808 : Int) ≤ (0 : Int) - n ∧ (0 : Int) - n ≤ (9223372036854775807 : Int)) then False else False else ∃ (n_1 : Int), S.mk 37 [(0, P.d (D.int IntKind.i64 n)), (3, P.d (D.str []))] [] = S.mk 37 [(0, P.d (D.int IntKind.i64 n_1)), (3, P.d (D.str []))] [] ∧ ((0 : Int) ≤ n_1 ∧ n_1 ≤ (9223372036854775807 : Int)) ∧ ∀ (n' : Int) (s' : List UInt8), (0 : Int) ≤ n' ∧ n' ≤ (9 : Int) ∧ List.length s' ≤ 9223372036854775807 ∧ Lib.decDigits (Int.toNat n_1) = digitB (Int.toNat n') :: s' → bif decide ((-9223372036854775808 : Int) ≤ (48 : Int) + n' ∧ (48 : Int) + n' ≤ (9223372036854775807 : Int)) then bif decide (List.length [UInt8.ofNat (Int.toNat (D.iVal (D.int IntKind.u8 (IntKind.wrap IntKind.u8 ((48 : Int) + n')))))] + List.length s' ≤ 9223372036854775807) then post (P.d (D.str ([UInt8.ofNat (Int.toNat (D.iVal (D.int IntKind.u8 (IntKind.wrap IntKind.u8 ((48 : Int) + n')))))] ++ s')), []) else False else False) = (bodyF [(64, fun _ _ _ => False)] [(4, loopHook (kpF 64 4) gDig)] 64 [iD n] []) post := by kernel_rfl
theorem vcNbr (s : List UInt8) (post : P × List (Nat × En) → Prop) : (∃ (l : List UInt8), S.mk 55 [(0, P.d (D.str s)), (4, P.d (D.int IntKind.i64 (0 : Int))), (5, P.d (D.int IntKind.i64 (0 : Int)))] [] = S.mk 55 [(0, P.d (D.str l)), (4, P.d (D.int IntKind.i64 (0 : Int))), (5, P.d (D.int IntKind.i64 (0 : Int)))] [] ∧ List.length l ≤ 9223372036854775807 ∧ bif (↑(List.length (digs l)) : Int) == (0 : Int) then post (P.tup [P.d (D.int IntKind.i64 (-1 : Int)), P.d (D.str [])], []) else bif decide ((↑(List.length (digs l)) : Int) > (15 : Int)) then post (P.tup [P.d (D.int IntKind.i64 (-1 : Int)), P.d (D.str [])], []) else bif decide ((0 : Int) ≤ (0 : Int) ∧ (0 : Int) < (↑(List.length l) : Int)) then bif (↑(UInt8.toNat (List.getD l 0 (0 : UInt8))) : Int) == (48 : Int) then bif decide ((↑(List.length (digs l)) : Int) > (1 : Int)) then post (P.tup [P.d (D.int IntKind.i64 (-1 : Int)), P.d (D.str [])], []) else bif decide ((0 : Int) ≤ (↑(List.length (digs l)) : Int) ∧ (↑(List.length (digs l)) : Int) ≤ (↑(List.length l) : Int)) then post (P.tup [P.d (D.int IntKind.i64 (↑(numVal (digs l)) : Int)), P.d (D.str (List.drop (List.length (digs l)) (List.take (List.length l) l)))], []) else False else bif decide ((0 : Int) ≤ (↑(List.length (digs l)) : Int) ∧ (↑(List.length (digs l)) : Int) ≤ (↑(List.length l) : Int)) then post (P.tup [P.d (D.int IntKind.i64 (↑(numVal (digs l)) : Int)), P.d (D.str (List.drop (List.length (digs l)) (List.take (List.length l) l)))], []) else False else False) = (bodyF [] [(3, loopHook (kpF 83 3) gNbr)] 83 [sD s] []) post := by kernel_rfl
theorem vcParseR (s : List UInt8) (post : P × List (Nat × En) → Prop) : (∃ (s_1 : List UInt8), [P.d (D.str s)] = [P.d (D.str s_1)] ∧ EqR [] [] ∧ List.length s_1 ≤ 9223372036854775807 ∧ (numberV s_1 = none → post (P.tup [P.d (D.agg [D.int IntKind.i64 (0 : Int), D.int IntKind.i64 (0 : Int), D.int IntKind.i64 (0 : Int)]), P.d (D.bool false)], [])) ∧ ∀ (n : Nat) (r : List UInt8), numberV s_1 = some (n, r) → bif r == [] then post (P.tup [P.d (D.agg [D.int IntKind.i64 (0 : Int), D.int IntKind.i64 (0 : Int), D.int IntKind.i64 (0 : Int)]), P.d (D.bool false)], []) else bif decide ((0 : Int) ≤ (0 : Int) ∧ (0 : Int) < (↑(List.length r) : Int)) then bif (↑(UInt8.toNat (List.getD r 0 (0 : UInt8))) : Int) != (46 : Int) then post (P.tup [P.d (D.agg [D.int IntKind.i64 (0 : Int), D.int IntKind.i64 (0 : Int), D.int IntKind.i64 (0 : Int)]), P.d (D.bool false)], []) else bif decide ((0 : Int) ≤ (1 : Int) ∧ (1 : Int) ≤ (↑(List.length r) : Int)) then ∃ (s : List UInt8), [P.d (D.str (List.drop 1 (List.take (List.length r) r)))] = [P.d (D.str s)] ∧ EqR [] [] ∧ List.length s ≤ 9223372036854775807 ∧ (numberV s = none → post (P.tup [P.d (D.agg [D.int IntKind.i64 (0 : Int), D.int IntKind.i64 (0 : Int), D.int IntKind.i64 (0 : Int)]), P.d (D.bool false)], [])) ∧ ∀ (n_1 : Nat) (r : List UInt8), numberV s = some (n_1, r) → bif r == [] then post (P.tup [P.d (D.agg [D.int IntKind.i64 (0 : Int), D.int IntKind.i64 (0 : Int), D.int IntKind.i64 (0 : Int)]), P.d (D.bool false)], []) else bif decide ((0 : Int) ≤ (0 : Int) ∧ (0 : Int) < (↑(List.length r) : Int)) then bif (↑(UInt8.toNat (List.getD r 0 (0 : UInt8))) : Int) != (46 : Int) then post (P.tup [P.d (D.agg [D.int IntKind.i64 (0 : Int), D.int IntKind.i64 (0 : Int), D.int IntKind.i64 (0 : Int)]), P.d (D.bool false)], []) else bif decide ((0 : Int) ≤ (1 : Int) ∧ (1 : Int) ≤ (↑(List.length r) : Int)) then ∃ (s : List UInt8), [P.d (D.str (List.drop 1 (List.take (List.length r) r)))] = [P.d (D.str s)] ∧ EqR [] [] ∧ List.length s ≤ 9223372036854775807 ∧ (numberV s = none → post (P.tup [P.d (D.agg [D.int IntKind.i64 (0 : Int), D.int IntKind.i64 (0 : Int), D.int IntKind.i64 (0 : Int)]), P.d (D.bool false)], [])) ∧ ∀ (n_2 : Nat) (r : List UInt8), numberV s = some (n_2, r) → bif !r == [] then post (P.tup [P.d (D.agg [D.int IntKind.i64 (0 : Int), D.int IntKind.i64 (0 : Int), D.int IntKind.i64 (0 : Int)]), P.d (D.bool false)], []) else ∃ (t : Int), ∃ (r : Int), ∃ (i : Int), [P.d (D.agg [D.int IntKind.i64 (D.iVal (D.nth [D.int IntKind.i64 (↑n : Int), D.int IntKind.i64 (↑n_1 : Int), D.int IntKind.i64 (↑n_2 : Int)] 0)), D.int IntKind.i64 (D.iVal (D.nth [D.int IntKind.i64 (↑n : Int), D.int IntKind.i64 (↑n_1 : Int), D.int IntKind.i64 (↑n_2 : Int)] 1)), D.int IntKind.i64 (D.iVal (D.nth [D.int IntKind.i64 (↑n : Int), D.int IntKind.i64 (↑n_1 : Int), D.int IntKind.i64 (↑n_2 : Int)] 2))])] = [P.d (D.agg [D.int IntKind.i64 t, D.int IntKind.i64 r, D.int IntKind.i64 i])] ∧ EqR [] [] ∧ bif !rightId t r i then post (P.tup [P.d (D.agg [D.int IntKind.i64 (0 : Int), D.int IntKind.i64 (0 : Int), D.int IntKind.i64 (0 : Int)]), P.d (D.bool false)], []) else post (P.tup [P.d (D.agg [D.int IntKind.i64 (D.iVal (D.nth [D.int IntKind.i64 (↑n : Int), D.int IntKind.i64 (↑n_1 : Int), D.int IntKind.i64 (↑n_2 : Int)] 0)), D.int IntKind.i64 (D.iVal (D.nth [D.int IntKind.i64 (↑n : Int), D.int IntKind.i64 (↑n_1 : Int), D.int IntKind.i64 (↑n_2 : Int)] 1)), D.int IntKind.i64 (D.iVal (D.nth [D.int IntKind.i64 (↑n : Int), D.int IntKind.i64 (↑n_1 : Int), D.int IntKind.i64 (↑n_2 : Int)] 2))]), P.d (D.bool true)], []) else False else False else False else False) = (bodyF [(83, hNumber), (25, hRightId)] [] 63 [sD s] []) post := by kernel_rfl
theorem vcTextR (t r i : Int) (post : P × List (Nat × En) → Prop) : (∃ (t_1 : Int), ∃ (r_1 : Int), ∃ (i_1 : Int), [P.d (D.agg [D.int IntKind.i64 t, D.int IntKind.i64 r, D.int IntKind.i64 i])] = [P.d (D.agg [D.int IntKind.i64 t_1, D.int IntKind.i64 r_1, D.int IntKind.i64 i_1])] ∧ EqR [] [] ∧ bif !rightId t_1 r_1 i_1 then post (P.d (D.str []), []) else ∃ (n : Int), [P.d (D.int IntKind.i64 t)] = [P.d (D.int IntKind.i64 n)] ∧ EqR [] [] ∧ ((0 : Int) ≤ n ∧ n ≤ (9223372036854775807 : Int)) ∧ bif decide (List.length (Lib.itoa n) + 1 ≤ 9223372036854775807) then ∃ (n_1 : Int), [P.d (D.int IntKind.i64 r)] = [P.d (D.int IntKind.i64 n_1)] ∧ EqR [] [] ∧ ((0 : Int) ≤ n_1 ∧ n_1 ≤ (9223372036854775807 : Int)) ∧ bif decide (List.length (Lib.itoa n ++ [(46 : UInt8)]) + List.length (Lib.itoa n_1) ≤ 9223372036854775807) then bif decide (List.length (Lib.itoa n ++ [(46 : UInt8)] ++ Lib.itoa n_1) + 1 ≤ 9223372036854775807) then ∃ (n_2 : Int), [P.d (D.int IntKind.i64 i)] = [P.d (D.int IntKind.i64 n_2)] ∧ EqR [] [] ∧ ((0 : Int) ≤ n_2 ∧ n_2 ≤ (9223372036854775807 : Int)) ∧ bif decide (List.length (Lib.itoa n ++ [(46 : UInt8)] ++ Lib.itoa n_1 ++ [(46 : UInt8)]) + List.length (Lib.itoa n_2) ≤ 9223372036854775807) then post (P.d (D.str (Lib.itoa n ++ [(46 : UInt8)] ++ Lib.itoa n_1 ++ [(46 : UInt8)] ++ Lib.itoa n_2)), []) else False else False else False else False) = (bodyF [(64, hDigits), (25, hRightId)] [] 45 [.d (idD t r i)] []) post := by kernel_rfl
end Pi

/- Stamp: the document's texts. -/
namespace Pi
open Go Go.Proofs
set_option maxRecDepth 100000
variable {X : XF}
theorem digit_wrap {k : Int} (h0 : 0 ≤ k) (h1 : k ≤ 9) : UInt8.ofNat (Int.toNat (D.iVal (D.int .u8 (IntKind.wrap .u8 (48 + k))))) = digitB k.toNat := by
  have : IntKind.wrap .u8 (48 + k) = 48 + k := IntWalk.u8_in (48 + k) ⟨by omega, by omega⟩
  simp only [D.iVal, this, digitB]
  congr 1
  omega
theorem loopDig : LD X 64 4 (loopHook (kpF 64 4) gDig) := LD.par (H := []) (hk := []) (by kernel_rfl) (by kernel_rfl) .nil .nil
  (A := Int) (B := Int × List UInt8) (fun _ b => digH b.1 b.2)
  (fun a b => 0 ≤ b.1 ∧ b.1 ≤ 9223372036854775807 ∧ b.1.toNat + b.2.length ≤ 9223372036854775807 ∧ Lib.decDigits a.toNat = Lib.decDigits b.1.toNat ++ b.2)
  (fun _ b => b.1.toNat)
  (fun a x => ∃ n' s', (0 ≤ n' ∧ n' ≤ 9 ∧ s'.length ≤ 9223372036854775807 ∧ Lib.decDigits a.toNat = digitB n'.toNat :: s') ∧ x = (.exit 0, ⟨37, [(0, iD n'), (3, sD s')], []⟩))
  (by
    rintro a ⟨n, s⟩ ⟨h0, h1, hl, he⟩
    dsimp only at *
    rw [← vcDigN]
    refine condP (fun h => ?_) fun h => ?_
    · have ed : Int.tdiv n 10 = ((n.toNat / 10 : Nat) : Int) := by rw [Int.tdiv_eq_ediv_of_nonneg (by omega)]; omega
      have em : Int.tmod n 10 = ((n.toNat % 10 : Nat) : Int) := by rw [Int.tmod_eq_emod_of_nonneg (by omega)]; omega
      rw [ed, em, digit_wrap (by omega) (by omega)]
      refine oblP (by omega) (oblP (by simp; omega) (oblP (by omega) ?_))
      refine ⟨_, ?_, (((n.toNat / 10 : Nat) : Int), digitB (n.toNat % 10) :: s), rfl, ⟨by omega, by dsimp only; omega, by simp; omega, ?_⟩, rfl⟩
      · dsimp only; omega
      · rw [he, dec_big (by omega : ¬ n.toNat < 10)]
        simp only [Int.toNat_natCast, List.append_assoc, List.singleton_append]
    · rw [dec_small (u := n.toNat) (by omega)] at he
      exact ⟨n, s, ⟨h0, by omega, by omega, he⟩, rfl⟩)
  (by
    rintro s post ⟨n, rfl, ⟨h1, h2⟩, h3⟩
    refine ⟨n, (n, []), rfl, ⟨h1, h2, by simp; omega, by simp⟩, ?_⟩
    rintro x ⟨n', s', h, rfl⟩
    exact h3 n' s' h)
theorem itoa_len21 {n : Int} (h0 : 0 ≤ n) (h1 : n ≤ 9223372036854775807) : (Lib.itoa n).length ≤ 21 := by
  have h := dec_len 20 n.toNat (by have : (10 : Nat) ^ 21 = 1000000000000000000000 := by decide
                                   omega)
  unfold Lib.itoa
  rw [if_neg (by omega)]
  exact h
theorem okDigits : FD X 64 hDigits := FD.mk (H := [(64, fun _ _ _ => False)]) (hk := [(4, loopHook (kpF 64 4) gDig)]) (by kernel_rfl) (.cons (fun _ _ _ h => h.elim) .nil) (.cons loopDig .nil) (by
  intro ps R post hh
  obtain ⟨n, rfl, rfl, ⟨h0, h1⟩, hp⟩ := hh
  rw [← vcDig]
  refine condP (fun h => by omega) fun h => ⟨n, rfl, ⟨h0, h1⟩, ?_⟩
  rintro n' s' ⟨a0, a1, a2, a3⟩
  have hs : Lib.itoa n = digitB n'.toNat :: s' := by rw [← a3]; unfold Lib.itoa; rw [if_neg (by omega)]
  rw [digit_wrap a0 a1]
  have hl : (Lib.itoa n).length ≤ 21 := itoa_len21 h0 h1
  rw [hs] at hl hp
  simp at hl
  exact oblP (by omega) (oblP (by simp; omega) hp))
theorem digs_le (s : List UInt8) : (digs s).length ≤ s.length ∧ (digs s).length ≤ 16 := by
  have h1 := (List.takeWhile_prefix (p := isDig) (l := s.take 16)).length_le
  have : (digs s).length ≤ (s.take 16).length := h1
  simp at this
  omega
theorem digs_pre (s : List UInt8) : s.take (digs s).length = digs s := by
  have h4 : digs s <+: s := (List.takeWhile_prefix _).trans (List.take_prefix _ _)
  exact (List.prefix_iff_eq_take.1 h4).symm
theorem digs_in {s : List UInt8} {i : Nat} (h : i < (digs s).length) : isDig (s.getD i 0) = true := by
  have h1 := List.all_takeWhile (p := isDig) (l := s.take 16)
  have h2 : (digs s)[i] ∈ digs s := List.getElem_mem h
  have h3 := List.all_eq_true.1 h1 _ h2
  have h4 := (digs_le s).1
  have e : (digs s)[i] = s[i] := by
    have := digs_pre s
    have h5 : (s.take (digs s).length)[i]'(by simp; omega) = (digs s)[i] := by congr 1
    rw [← h5, List.getElem_take]
  rw [e] at h3
  simpa [List.getD_eq_getElem?_getD, show i < s.length by omega] using h3
theorem takeWhile_stop {α : Type} (p : α → Bool) : ∀ (l : List α), (l.takeWhile p).length < l.length → ∃ x, l[(l.takeWhile p).length]? = some x ∧ p x = false
  | [], h => by simp at h
  | x :: l, h => by
    cases hx : p x with
    | false => refine ⟨x, ?_, hx⟩; simp [List.takeWhile, hx]
    | true =>
      simp only [List.takeWhile, hx, List.length_cons] at h ⊢
      obtain ⟨y, h1, h2⟩ := takeWhile_stop p l (by omega)
      exact ⟨y, by simpa using h1, h2⟩
theorem digs_stop {s : List UInt8} (h : (digs s).length < s.length) (h' : (digs s).length < 16) : isDig (s.getD (digs s).length 0) = false := by
  obtain ⟨x, h1, h2⟩ := takeWhile_stop isDig (s.take 16) (by
    have : ((s.take 16).takeWhile isDig).length = (digs s).length := rfl
    rw [this]; simp; omega)
  have : ((s.take 16).takeWhile isDig).length = (digs s).length := rfl
  rw [this] at h1
  rw [List.getElem?_take, if_pos h'] at h1
  simp [List.getD_eq_getElem?_getD, h1, h2]
theorem numVal_take {s : List UInt8} {i : Nat} (h : i < s.length) : numVal (s.take (i + 1)) = stepV (numVal (s.take i)) (s.getD i 0) := by
  rw [List.take_add_one, List.getElem?_eq_getElem h]
  simp only [Option.toList_some]
  rw [numVal_app]
  simp [List.getD_eq_getElem?_getD, h]
theorem numVal_lt {l : List UInt8} : (∀ b ∈ l, isDig b = true) → numVal l < 10 ^ l.length := by
  refine revInd (C := fun l => (∀ b ∈ l, isDig b = true) → numVal l < 10 ^ l.length) (fun _ => by simp [numVal]) (fun l b ih hd => ?_) l
  have h1 := ih fun b hb => hd b (List.mem_append_left _ hb)
  have h2 := hd b (by simp)
  unfold isDig at h2
  simp only [decide_eq_true_eq] at h2
  rw [numVal_app, stepV, List.length_append, List.length_singleton, Nat.pow_succ]
  omega
theorem loopNbr : LD X 83 3 (loopHook (kpF 83 3) gNbr) := LD.par (H := []) (hk := []) (by kernel_rfl) (by kernel_rfl) .nil .nil
  (A := List UInt8) (B := Int × Int) (fun a b => nbrH a b.1 b.2)
  (fun a b => a.length ≤ 9223372036854775807 ∧ 0 ≤ b.2 ∧ b.2 ≤ (digs a).length ∧ b.1 = (numVal (a.take b.2.toNat) : Nat))
  (fun a b => ((digs a).length - b.2).toNat)
  (fun a x => x = (.exit 0, ⟨55, [(0, sD a), (4, iD (numVal (digs a) : Nat)), (5, iD ((digs a).length : Nat))], []⟩))
  (by
    rintro l ⟨n, i⟩ ⟨hl, h0, h1, hn⟩
    dsimp only at *
    rw [← vcNbrN]
    have hle := digs_le l
    have hout : ∀ (hc : ¬ (i < (digs l).length)), nbrH l n i = ⟨55, [(0, sD l), (4, iD (numVal (digs l) : Nat)), (5, iD ((digs l).length : Nat))], []⟩ := fun hc => by
      have e : i.toNat = (digs l).length := by omega
      rw [e, digs_pre] at hn
      rw [hn, show i = ((digs l).length : Int) by omega]
    have hstop : (hc : i < (digs l).length) → isDig (l.getD i.toNat 0) = true := fun hc => digs_in (by omega)
    have hgo : i < l.length → i < 16 → isDig (l.getD i.toNat 0) = true → i < (digs l).length := fun a1 a2 a3 => by
      refine Classical.byContradiction fun hc => ?_
      have e : i.toNat = (digs l).length := by omega
      have := digs_stop (s := l) (by omega) (by omega)
      rw [← e, a3] at this
      cases this
    have hdg : ∀ b : UInt8, isDig b = true ↔ (48 ≤ (b.toNat : Int) ∧ (b.toNat : Int) ≤ 57) := fun b => by unfold isDig; simp; omega
    rw [hdg] at hgo hstop
    generalize hb : (((l.getD i.toNat 0).toNat : Nat) : Int) = b at *
    have hout' : ¬ (i < (digs l).length) → (fun x : PX × S => x = (.exit 0, ⟨55, [(0, sD l), (4, iD (numVal (digs l) : Nat)), (5, iD ((digs l).length : Nat))], []⟩)) (.exit 0, nbrH l n i) := fun hc => by
      show (_, _) = _
      rw [hout hc]
    refine condP (fun c1 => condP (fun c2 => oblP ⟨h0, c1⟩ (condP (fun c3 => oblP ⟨h0, c1⟩ (condP (fun c4 => ?_) fun c4 => hout' fun hc => by have := hstop hc; omega)) fun c3 => hout' fun hc => by have := hstop hc; omega)) fun c2 => hout' fun hc => by omega) fun c1 => hout' fun hc => by omega
    have hlt := hgo c1 c2 ⟨c3, c4⟩
    have hi : i.toNat < l.length := by omega
    have hv := numVal_take hi
    have hbd : numVal (l.take i.toNat) < 10 ^ (l.take i.toNat).length := numVal_lt fun b hb => by
      obtain ⟨j, hj, rfl⟩ := List.getElem_of_mem hb
      simp at hj
      have := digs_in (s := l) (i := j) (by omega)
      simpa [List.getD_eq_getElem?_getD, show j < l.length by omega] using this
    have hbd2 : numVal (l.take i.toNat) < 10 ^ 16 := Nat.lt_of_lt_of_le hbd (Nat.pow_le_pow_right (by omega) (by simp; omega))
    have hx : numVal (l.take i.toNat) < 10000000000000000 := by simpa using hbd2
    refine oblP (by omega) (oblP ⟨h0, c1⟩ (oblP (by omega) (oblP (by omega) (oblP (by omega) (oblP (by omega) ?_)))))
    refine ⟨_, ?_, (n * 10 + b - 48, i + 1), rfl, ⟨hl, by dsimp only; omega, by dsimp only; omega, ?_⟩, rfl⟩
    · dsimp only; omega
    · dsimp only
      rw [show (i + 1).toNat = i.toNat + 1 by omega, hv, stepV]
      omega)
  (by
    rintro s post ⟨l, rfl, h1, h2⟩
    refine ⟨l, (0, 0), rfl, ⟨h1, by simp, by simp, by simp [numVal]⟩, ?_⟩
    rintro x rfl
    exact h2)
theorem okNumber : FD X 83 hNumber := FD.mk (H := []) (hk := [(3, loopHook (kpF 83 3) gNbr)]) (by kernel_rfl) .nil (.cons loopNbr .nil) (by
  intro ps R post hh
  obtain ⟨s, rfl, rfl, hl, hno, hyes⟩ := hh
  rw [← vcNbr]
  have hle := digs_le s
  have hz : digs s = [] ↔ (digs s).length = 0 := by rw [List.length_eq_zero_iff]
  have hhd : 0 < s.length → ((s.head? = some 48) ↔ (((s.getD 0 0).toNat : Nat) : Int) = 48) := fun h => by
    cases s with
    | nil => simp at h
    | cons x r =>
      simp only [List.head?_cons, Option.some.injEq, List.getD_cons_zero]
      constructor
      · rintro rfl; rfl
      · intro e; apply UInt8.toNat_inj.1; simp; omega
  unfold numberV at hno hyes
  refine ⟨s, rfl, hl, condE (fun h => ?_) fun h => condP (fun h' => ?_) fun h' => oblP (by omega) (condE (fun h2 => condP (fun h3 => ?_) fun h3 => ?_) fun h2 => ?_)⟩
  · exact hno (by rw [if_pos (.inl (hz.2 (by omega)))])
  · exact hno (by rw [if_pos (.inr (.inl (by omega)))])
  · exact hno (by rw [if_pos (.inr (.inr ⟨(hhd (by omega)).2 h2, by omega⟩))])
  · refine oblP (by omega) ?_
    rw [List.take_length]
    exact hyes _ _ (by rw [if_neg (by rw [hz, hhd (by omega)]; omega)])
  · refine oblP (by omega) ?_
    rw [List.take_length]
    exact hyes _ _ (by rw [if_neg (by rw [hz, hhd (by omega)]; omega)]))
theorem okTextR : FD X 45 hText := FD.mk (H := [(64, hDigits), (25, hRightId)]) (hk := []) (by kernel_rfl) (.cons okDigits (.cons okRightIdR .nil)) .nil (by
  intro ps R post hh
  obtain ⟨t, r, i, rfl, rfl, hp⟩ := hh
  rw [← vcTextR]
  refine ⟨_, _, _, rfl, rfl, condI (fun h => ?_) fun h => ?_⟩
  · have h : rightId t r i = false := by simpa using h
    rw [textId, if_neg (by simp [h])] at hp
    exact hp
  · have h : rightId t r i = true := by simpa using h
    rw [textId, if_pos h] at hp
    simp only [rightId, decide_eq_true_eq] at h
    have l1 := itoa_len (n := t) (by omega) (by omega)
    have l2 := itoa_len (n := r) (by omega) (by omega)
    have l3 := itoa_len (n := i) (by omega) (by omega)
    exact ⟨_, rfl, rfl, ⟨by omega, by omega⟩, oblI (by simp; omega) ⟨_, rfl, rfl, ⟨by omega, by omega⟩, oblI (by simp; omega) (oblI (by simp; omega) ⟨_, rfl, rfl, ⟨by omega, by omega⟩, oblI (by simp; omega) hp⟩)⟩⟩)
/-- What the program reads is what the document reads. -/
def fin3 (a b c : Nat) (r : List UInt8) : Option (Int × Int × Int) := if r = [] ∧ rightId a b c = true then some ((a : Int), (b : Int), (c : Int)) else none
def refC (a b : Nat) (r : List UInt8) : Option (Int × Int × Int) := match dotV r with | none => none | some (c, r') => fin3 a b c r'
def refB (a : Nat) (r : List UInt8) : Option (Int × Int × Int) := match dotV r with | none => none | some (b, r') => refC a b r'
def refParse (s : List UInt8) : Option (Int × Int × Int) := match numberV s with | none => none | some (a, r) => refB a r
theorem refParse_eq (s : List UInt8) : refParse s = match ref3 s with | some (a, b, c, r) => fin3 a b c r | none => none := by
  unfold refParse ref3
  cases numberV s with
  | none => rfl
  | some x =>
    obtain ⟨a, r⟩ := x
    simp only
    unfold refB
    cases dotV r with
    | none => rfl
    | some x =>
      obtain ⟨b, r'⟩ := x
      simp only
      unfold refC
      cases dotV r' with
      | none => rfl
      | some x => rfl
theorem rightId_lt {a b c : Nat} (h : rightId a b c = true) : a < 10 ^ 15 ∧ b < 10 ^ 15 ∧ c < 10 ^ 15 := by
  simp only [rightId, decide_eq_true_eq] at h
  have : (10 : Nat) ^ 15 = 1000000000000000 := by decide
  omega
theorem textS_nat (a b c : Nat) : textS a b c = Lib.decDigits a ++ 46 :: (Lib.decDigits b ++ 46 :: Lib.decDigits c) := by
  simp [textS, itoa_nat]
theorem parse3_text {a b c : Nat} (h : rightId a b c = true) : parse3 (textS a b c) = some ((a : Int), (b : Int), (c : Int)) := by
  obtain ⟨h1, h2, h3⟩ := rightId_lt h
  have p15 : (10 : Nat) ^ 15 = 1000000000000000 := by decide
  unfold parse3
  rw [split_by, textS_nat, split_text]
  simp only [atoi_dec (u := a) (by omega), atoi_dec (u := b) (by omega), atoi_dec (u := c) (by omega)]
  rw [if_pos ⟨h, by rw [textS_nat]⟩]
theorem parse3_some {s : List UInt8} {t r i : Int} (h : parse3 s = some (t, r, i)) : rightId t r i = true ∧ textS t r i = s := by
  unfold parse3 at h
  split at h
  · split at h
    · rename_i hc
      simp only [Option.some.injEq, Prod.mk.injEq] at h
      obtain ⟨rfl, rfl, rfl⟩ := h
      exact hc
    · cases h
  · cases h
theorem nat3 {t r i : Int} (h : rightId t r i = true) : ∃ a b c : Nat, t = a ∧ r = b ∧ i = c := by
  simp only [rightId, decide_eq_true_eq] at h
  exact ⟨t.toNat, r.toNat, i.toNat, by omega, by omega, by omega⟩
theorem parse3_ref (s : List UInt8) : parse3 s = refParse s := by
  cases h : parse3 s with
  | some x =>
    obtain ⟨t, r, i⟩ := x
    obtain ⟨h1, h2⟩ := parse3_some h
    obtain ⟨a, b, c, rfl, rfl, rfl⟩ := nat3 h1
    obtain ⟨l1, l2, l3⟩ := rightId_lt h1
    rw [← h2, textS_nat, refParse_eq, ref3_of l1 l2 l3]
    simp only [fin3, h1, and_self, if_true]
  | none =>
    rw [refParse_eq]
    cases hr : ref3 s with
    | none => rfl
    | some x =>
      obtain ⟨a, b, c, r⟩ := x
      simp only [fin3]
      rw [if_neg]
      rintro ⟨rfl, hid⟩
      obtain ⟨e, _⟩ := ref3_some hr
      rw [List.append_nil, ← textS_nat] at e
      rw [e, parse3_text hid] at h
      cases h
theorem okParseR : FD X 63 hParseR := FD.mk (H := [(83, hNumber), (25, hRightId)]) (hk := []) (by kernel_rfl) (.cons okNumber (.cons okRightIdR .nil)) .nil (by
  intro ps R post hh
  obtain ⟨s, rfl, rfl, hl, hno, hyes⟩ := hh
  rw [← vcParseR]
  rw [parse3_ref] at hno
  simp only [parse3_ref] at hyes
  have dot : ∀ (r : List UInt8), (∀ q, r ≠ 46 :: q) → dotV r = none := fun r h => by
    unfold dotV
    split
    · rename_i q; exact absurd rfl (h q)
    · rfl
  refine ⟨s, rfl, rfl, hl, fun h1 => hno (by rw [refParse, h1]), fun n1 r1 h1 => ?_⟩
  have l1 : r1.length ≤ s.length := by rw [(numberV_some h1).1]; simp
  have e1 : refParse s = refB n1 r1 := by rw [refParse, h1]
  rw [e1] at hno hyes
  refine condI (fun c => hno (by rw [refB, dot r1 (fun q e => by rw [e] at c; simp at c)])) fun c => ?_
  obtain ⟨b1, q1, rfl⟩ : ∃ b q, r1 = b :: q := by cases r1 with | nil => simp at c | cons b q => exact ⟨b, q, rfl⟩
  simp only [List.getD_cons_zero, List.take_length, List.drop_succ_cons, List.drop_zero]
  refine oblP (by simp) (condN (fun c' => hno (by rw [refB, dot _ (fun q e => by simp at e; obtain ⟨e, _⟩ := e; rw [e] at c'; exact c' rfl)])) fun c' => oblP (by simp; omega) ?_)
  have eb : b1 = 46 := UInt8.toNat_inj.1 (by simp; omega)
  subst eb
  refine ⟨q1, rfl, rfl, by simp at l1; omega, fun h2 => hno (by rw [refB, dotV, h2]), fun n2 r2 h2 => ?_⟩
  have e2 : refB n1 (46 :: q1) = refC n1 n2 r2 := by rw [refB, dotV, h2]
  rw [e2] at hno hyes
  have l2 : r2.length ≤ q1.length := by rw [(numberV_some h2).1]; simp
  refine condI (fun c => hno (by rw [refC, dot r2 (fun q e => by rw [e] at c; simp at c)])) fun c => ?_
  obtain ⟨b2, q2, rfl⟩ : ∃ b q, r2 = b :: q := by cases r2 with | nil => simp at c | cons b q => exact ⟨b, q, rfl⟩
  simp only [List.getD_cons_zero, List.drop_succ_cons, List.drop_zero]
  refine oblP (by simp) (condN (fun c' => hno (by rw [refC, dot _ (fun q e => by simp at e; obtain ⟨e, _⟩ := e; rw [e] at c'; exact c' rfl)])) fun c' => oblP (by simp; omega) ?_)
  have eb : b2 = 46 := UInt8.toNat_inj.1 (by simp; omega)
  subst eb
  refine ⟨q2, rfl, rfl, by simp at l1 l2; omega, fun h3 => hno (by rw [refC, dotV, h3]), fun n3 r3 h3 => ?_⟩
  have e3 : refC n1 n2 (46 :: q2) = fin3 n1 n2 n3 r3 := by rw [refC, dotV, h3]
  rw [e3] at hno hyes
  unfold fin3 at hno hyes
  refine condI (fun c => hno ?_) fun c => ?_
  · rw [if_neg (fun h => by rw [h.1] at c; simp at c)]
  have e3 : r3 = [] := by simpa using c
  subst e3
  refine ⟨(n1 : Int), (n2 : Int), (n3 : Int), rfl, rfl, condI (fun h => hno ?_) fun h => hyes _ _ _ ?_⟩
  · rw [if_neg (by simpa using h)]
  · rw [if_pos (by simpa using h)]
    rfl)
end Pi

/- Pathname: plain laws. -/
namespace Pi
open Go

def signsL : List UInt8 := [48, 49, 50, 51, 52, 53, 54, 55, 56, 57, 65, 66, 67, 68, 69, 70, 71, 72, 73, 74, 75, 76, 77, 78, 79, 80, 81, 82, 83, 84, 85, 86, 87, 88, 89, 90, 97, 98, 99, 100, 101, 102, 103, 104, 105, 106, 107, 108, 109, 110, 111, 112, 113, 114, 115, 116, 117, 118, 119, 120, 121, 122, 46, 45, 95]
def nameB (b : UInt8) : Bool := decide ((48 ≤ b.toNat ∧ b.toNat ≤ 57) ∨ (65 ≤ b.toNat ∧ b.toNat ≤ 90) ∨ (97 ≤ b.toNat ∧ b.toNat ≤ 122) ∨ b.toNat = 46 ∨ b.toNat = 45 ∨ b.toNat = 95)
theorem signs_fin : ∀ n : Fin 256, signsL.contains (UInt8.ofNat n.val) = nameB (UInt8.ofNat n.val) := by decide +kernel
theorem signs_name (b : UInt8) : signsL.contains b = nameB b := by
  have := signs_fin ⟨b.toNat, b.toNat_lt⟩
  simpa using this
def nameOk (s : List UInt8) : Bool := decide (s ≠ [] ∧ s.length ≤ 32 ∧ s ≠ [46] ∧ s ≠ [46, 46] ∧ ∀ b ∈ s, nameB b = true)
theorem dropWhile_nil {α : Type} (p : α → Bool) : ∀ l : List α, l.dropWhile p = [] ↔ ∀ b ∈ l, p b = true
  | [] => by simp
  | x :: l => by
    cases h : p x with
    | true => simp [List.dropWhile, h, dropWhile_nil p l]
    | false => simp [List.dropWhile, h]
theorem trim_nil (s cs : List UInt8) : Lib.trimS s cs = [] ↔ ∀ b ∈ s, cs.contains b = true := by
  unfold Lib.trimS Lib.trimLeftS Lib.trimRightS
  rw [dropWhile_nil]
  constructor
  · intro h b hb
    have hr : b ∈ s.reverse := by simpa using hb
    rw [← List.takeWhile_append_dropWhile (p := (cs.contains ·)) (l := s.reverse)] at hr
    rcases List.mem_append.1 hr with h1 | h1
    · exact List.all_eq_true.1 (List.all_takeWhile (p := (cs.contains ·)) (l := s.reverse)) b h1
    · exact h b (by simpa using h1)
  · intro h b hb
    have hb : b ∈ s.reverse.dropWhile (cs.contains ·) := by simpa using hb
    exact h b (by simpa using (List.dropWhile_sublist _).subset hb)

/-! the first of a byte -/
def pre (c : UInt8) (s : List UInt8) : List UInt8 := s.takeWhile (· != c)
theorem pre_le (c : UInt8) (s : List UInt8) : (pre c s).length ≤ s.length := (List.takeWhile_prefix _).length_le
theorem pre_take (c : UInt8) (s : List UInt8) : s.take (pre c s).length = pre c s := (List.prefix_iff_eq_take.1 (List.takeWhile_prefix _)).symm
theorem pre_no (c : UInt8) (s : List UInt8) : c ∉ pre c s := fun h => by
  have := List.all_eq_true.1 (List.all_takeWhile (p := (· != c)) (l := s)) c h
  simp at this
theorem pre_in {c : UInt8} {s : List UInt8} {i : Nat} (h : i < (pre c s).length) : s.getD i 0 ≠ c := by
  intro e
  have h4 := pre_le c s
  have h5 : (s.take (pre c s).length)[i]'(by simp; omega) = (pre c s)[i] := by congr 1; exact pre_take c s
  rw [List.getElem_take] at h5
  have h6 : s.getD i 0 = s[i] := by simp [List.getD_eq_getElem?_getD, show i < s.length by omega]
  rw [h6, h5] at e
  have h7 : (pre c s)[i] ∈ pre c s := List.getElem_mem h
  rw [e] at h7
  exact pre_no c s h7
theorem pre_stop {c : UInt8} {s : List UInt8} (h : (pre c s).length < s.length) : s.getD (pre c s).length 0 = c := by
  obtain ⟨x, h1, h2⟩ := takeWhile_stop (· != c) s h
  have h1 : s[(pre c s).length]? = some x := h1
  simp only [List.getD_eq_getElem?_getD, h1, Option.getD_some]
  simpa using h2
theorem pre_full {c : UInt8} {s : List UInt8} : (pre c s).length = s.length ↔ c ∉ s := by
  constructor
  · intro h hc
    have := pre_take c s
    rw [h, List.take_length] at this
    exact pre_no c s (this ▸ hc)
  · intro h
    have := pre_le c s
    refine Classical.byContradiction fun hc => h ?_
    have h1 := pre_stop (c := c) (s := s) (by omega)
    rw [List.getD_eq_getElem?_getD, List.getElem?_eq_getElem (by omega)] at h1
    exact h1 ▸ List.getElem_mem (by omega)
theorem index_one (c : UInt8) : ∀ s : List UInt8, Lib.index s [c] = if c ∈ s then ((pre c s).length : Int) else -1
  | [] => by simp [Lib.index]
  | b :: l => by
    by_cases h : b = c
    · subst h
      simp [Lib.index, List.isPrefixOf, pre, List.takeWhile]
    · have hp : ([c] : List UInt8).isPrefixOf (b :: l) = false := by simp [List.isPrefixOf, Ne.symm h]
      rw [Lib.index, hp, index_one c l]
      have hb : (b != c) = true := by simpa using h
      have hm : (c ∈ b :: l) ↔ c ∈ l := by simp [Ne.symm h]
      simp only [pre, List.takeWhile, hb, hm]
      by_cases hc : c ∈ l
      · simp only [hc, if_true]
        have : (((List.takeWhile (fun x => x != c) l).length : Int) == -1) = false := by rw [beq_eq_false_iff_ne]; omega
        simp [this]
      · simp [hc]
theorem cut_yes {c : UInt8} {s : List UInt8} (h : c ∈ s) : Lib.cut s [c] = (pre c s, s.drop ((pre c s).length + 1), true) := by
  unfold Lib.cut
  rw [index_one, if_pos h, if_pos (by omega)]
  simp [pre_take]
theorem cut_no {c : UInt8} {s : List UInt8} (h : c ∉ s) : Lib.cut s [c] = (s, [], false) := by
  unfold Lib.cut
  rw [index_one, if_neg h, if_neg (by omega)]
theorem pre_all {c : UInt8} {s : List UInt8} (h : c ∉ s) : pre c s = s := by
  have := pre_take c s
  rw [pre_full.2 h, List.take_length] at this
  exact this.symm
theorem pre_app {c : UInt8} (t : List UInt8) : ∀ {s : List UInt8}, c ∉ s → pre c (s ++ c :: t) = s
  | [], _ => by simp [pre]
  | b :: l, h => by
    simp at h
    have hb : (b != c) = true := by simpa using Ne.symm h.1
    have ih := pre_app t h.2
    unfold pre at ih ⊢
    simp [hb, ih]
/-- A name, or one that clashed. -/
def seenOk (s : List UInt8) : Bool := nameOk (pre 126 s) && (decide (126 ∉ s) || (parse3 (s.drop ((pre 126 s).length + 1))).isSome)

/-! paths -/
def joinP (l : List (List UInt8)) : List UInt8 := 47 :: Lib.join l [47]
theorem join_cons2 (x y : List UInt8) (l : List (List UInt8)) : Lib.join (x :: y :: l) [47] = x ++ 47 :: Lib.join (y :: l) [47] := by
  simp [Lib.join, List.intercalate]
theorem join_one (x : List UInt8) : Lib.join [x] [47] = x := by simp [Lib.join, List.intercalate]
theorem join_split : ∀ s : List UInt8, Lib.join (splitBy 47 s) [47] = s
  | [] => by simp [splitBy, join_one]
  | b :: l => by
    have ih := join_split l
    unfold splitBy
    split
    · rename_i h
      subst h
      cases hs : splitBy 47 l with
      | nil => exact absurd hs (splitBy_ne _ _)
      | cons y t => rw [join_cons2, ← hs, ih]; rfl
    · cases hs : splitBy 47 l with
      | nil => exact absurd hs (splitBy_ne _ _)
      | cons y t =>
        rw [hs] at ih
        cases t with
        | nil => rw [join_one] at ih; simp only [join_one]; rw [ih]
        | cons z t => rw [join_cons2] at ih; simp only [join_cons2]; rw [List.cons_append, ih]
theorem split_join : ∀ l : List (List UInt8), l ≠ [] → (∀ x ∈ l, (47 : UInt8) ∉ x) → splitBy 47 (Lib.join l [47]) = l
  | [], h, _ => absurd rfl h
  | [x], _, h => by rw [join_one, splitBy_no _ _ (h x (by simp))]
  | x :: y :: l, _, h => by
    rw [join_cons2, splitBy_app _ _ _ (h x (by simp)), split_join (y :: l) (by simp) fun z hz => h z (by simp [hz])]
/-- What a path is split into: an error's number, and names. -/
def splitP (p : List UInt8) : Int × List (List UInt8) := match p with
  | 47 :: rest => if rest = [] then (0, []) else if (splitBy 47 rest).all seenOk = true then (if 20 < (splitBy 47 rest).length then (2, []) else (0, splitBy 47 rest)) else (70, [])
  | _ => (71, [])
theorem join_splitP {p : List UInt8} (h : (splitP p).1 = 0) : joinP (splitP p).2 = p := by
  unfold splitP at h ⊢
  split
  · rename_i rest
    simp only at h
    split
    · rename_i hr; rw [hr]; rfl
    · rename_i hr
      rw [if_neg hr] at h
      split
      · rename_i ha
        rw [if_pos ha] at h
        split
        · rename_i hl; rw [if_pos hl] at h; cases h
        · simp only [joinP, join_split]
      · rename_i ha; rw [if_neg ha] at h; cases h
  · rename_i hp
    split at h
    · rename_i rest; exact absurd rfl (hp rest)
    · cases h
theorem name_no {s : List UInt8} {c : UInt8} (h : nameOk s = true) (hc : nameB c = false) : c ∉ s := fun hm => by
  simp only [nameOk, decide_eq_true_eq] at h
  rw [h.2.2.2.2 c hm] at hc
  cases hc
theorem text_no {t r i : Int} (h : rightId t r i = true) {c : UInt8} (hc : isDig c = false) (hd : c ≠ 46) : c ∉ textS t r i := by
  obtain ⟨a, b, d, rfl, rfl, rfl⟩ := nat3 h
  rw [textS_nat]
  have no : ∀ u, c ∉ Lib.decDigits u := fun u hm => by rw [dec_dig u c hm] at hc; cases hc
  simp [no, hd]
theorem seen_no {s : List UInt8} (h : seenOk s = true) : (47 : UInt8) ∉ s := by
  simp only [seenOk, Bool.and_eq_true, Bool.or_eq_true, decide_eq_true_eq] at h
  obtain ⟨h1, h2⟩ := h
  have hn : (47 : UInt8) ∉ pre 126 s := name_no h1 rfl
  rcases h2 with h2 | h2
  · rwa [pre_all h2] at hn
  · by_cases hm : (126 : UInt8) ∈ s
    · obtain ⟨x, hx⟩ := Option.isSome_iff_exists.1 h2
      obtain ⟨t, r, i⟩ := x
      obtain ⟨h3, h4⟩ := parse3_some hx
      have hd : (47 : UInt8) ∉ s.drop ((pre 126 s).length + 1) := by rw [← h4]; exact text_no h3 rfl (by decide)
      intro hmem
      have hlt : (pre 126 s).length < s.length := by
        have := pre_le 126 s
        refine Nat.lt_of_le_of_ne this fun e => pre_full.1 e hm
      rw [← List.take_append_drop (pre 126 s).length s, pre_take, List.drop_eq_getElem_cons hlt] at hmem
      have hst := pre_stop hlt
      rw [List.getD_eq_getElem?_getD, List.getElem?_eq_getElem hlt, Option.getD_some] at hst
      rcases List.mem_append.1 hmem with hh | hh
      · exact hn hh
      · rw [hst] at hh
        rcases List.mem_cons.1 hh with hh | hh
        · exact absurd hh (by decide)
        · exact hd hh
    · rwa [pre_all hm] at hn
theorem seen_ne {s : List UInt8} (h : seenOk s = true) : s ≠ [] := fun e => by
  subst e
  exact absurd h (by decide +kernel)
/-- Names that may be are joined and split as they were. -/
theorem splitP_join {l : List (List UInt8)} (h : ∀ x ∈ l, seenOk x = true) : splitP (joinP l) = if 20 < l.length then (2, []) else (0, l) := by
  cases l with
  | nil => rfl
  | cons x l =>
    have hs : splitBy 47 (Lib.join (x :: l) [47]) = x :: l := split_join _ (by simp) fun y hy => seen_no (h y hy)
    have hne : Lib.join (x :: l) [47] ≠ [] := fun e => by
      rw [e] at hs
      simp only [splitBy, List.cons.injEq] at hs
      exact seen_ne (h x (by simp)) hs.1.symm
    unfold splitP joinP
    simp only
    rw [if_neg hne, hs, if_pos (List.all_eq_true.2 h)]
/-- What a name that clashes is seen as. -/
def clashP (s : List UInt8) (t r i : Int) : List UInt8 × Int := if nameOk s = true then (if rightId t r i = true then (s ++ 126 :: textS t r i, 0) else ([], 1)) else ([], 70)
theorem clash_pre {s : List UInt8} {t r i : Int} (h : nameOk s = true) : pre 126 (s ++ 126 :: textS t r i) = s := pre_app _ (name_no h rfl)
theorem clash_seen {s : List UInt8} {t r i : Int} (h : nameOk s = true) (h' : rightId t r i = true) : seenOk (s ++ 126 :: textS t r i) = true := by
  have hd : (s ++ 126 :: textS t r i).drop (s.length + 1) = textS t r i := by simp
  simp only [seenOk, clash_pre h, h, hd, Bool.true_and]
  obtain ⟨a, b, c, rfl, rfl, rfl⟩ := nat3 h'
  rw [parse3_text h']
  simp
theorem clash_name {s : List UInt8} {t r i : Int} : nameOk (s ++ 126 :: textS t r i) = false := by
  cases h : nameOk (s ++ 126 :: textS t r i) with
  | false => rfl
  | true => exact absurd (by simp) (name_no h (c := 126) rfl)
theorem clash_inj {s s' : List UInt8} {t r i t' r' i' : Int} (h : nameOk s = true) (h1 : rightId t r i = true) (h' : nameOk s' = true) (h1' : rightId t' r' i' = true) (e : s ++ 126 :: textS t r i = s' ++ 126 :: textS t' r' i') : s = s' ∧ t = t' ∧ r = r' ∧ i = i' := by
  have hp := congrArg (pre 126) e
  rw [clash_pre h, clash_pre h'] at hp
  subst hp
  have ht : textS t r i = textS t' r' i' := by simpa using e
  obtain ⟨a, b, c, rfl, rfl, rfl⟩ := nat3 h1
  obtain ⟨a', b', c', rfl, rfl, rfl⟩ := nat3 h1'
  have := parse3_text h1
  rw [ht, parse3_text h1'] at this
  simp only [Option.some.injEq, Prod.mk.injEq] at this
  exact ⟨rfl, this.1.symm, this.2.1.symm, this.2.2.symm⟩
end Pi

/- Stamp: the laws on texts: what their runs ask. -/
namespace Pi
open Go Go.Proofs
set_option maxRecDepth 100000
set_option maxHeartbeats 0
end Pi

