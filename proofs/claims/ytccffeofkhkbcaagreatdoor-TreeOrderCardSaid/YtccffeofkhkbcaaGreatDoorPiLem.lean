/- The text PiLem. -/
import Derived.Test.YtccffeofkhkbcaaGreatDoorPiX
import Derived.IntWalk
/- Small facts on leaves. -/
namespace Pi
open Go

theorem cF (p : Prop) [Decidable p] (q : Prop) : (bif decide p then q else False) = (p ∧ q) := by by_cases h : p <;> simp [h]
theorem cB (b : Bool) (q : Prop) : (bif b then q else False) = (b = true ∧ q) := by cases b <;> simp
theorem cP (p : Prop) [Decidable p] (q r : Prop) : (bif decide p then q else r) = ((p → q) ∧ (¬ p → r)) := by by_cases h : p <;> simp [h]
theorem cI (b : Bool) (q r : Prop) : (bif b then q else r) = ((b = true → q) ∧ (b = false → r)) := by cases b <;> simp
theorem oblI {b : Bool} {A : Prop} (hb : b = true) (h : A) : cond b A False := by subst hb; exact h
theorem condI {b : Bool} {A B : Prop} (h1 : b = true → A) (h2 : b = false → B) : cond b A B := by cases b with | true => exact h1 rfl | false => exact h2 rfl
theorem condT {b : Bool} {A B : Prop} (hb : b = true) (h : A) : cond b A B := by subst hb; exact h
theorem condF {b : Bool} {A B : Prop} (hb : b = false) (h : B) : cond b A B := by subst hb; exact h

theorem all_of {Q : Program} (l : List TypeId) (ts : List TypeId) (h : (Nat.beq ts.length l.length && ts.all fun t => Q.readableRec t && Nat.blt t Q.types.size) = true) : ∀ t ∈ ts, Q.readableRec t = true ∧ t < Q.types.size := fun t ht => by
  simp only [Bool.and_eq_true] at h
  have := List.all_eq_true.1 h.2 t ht
  simp only [Bool.and_eq_true] at this
  exact ⟨this.1, Nat.le_of_ble_eq_true this.2⟩
theorem all_of2 {Q : Program} {m : Nat} (l : List TypeId) (ts : List TypeId) (h : (Nat.beq ts.length l.length && ts.all fun t => plainT Q m t) = true) : ∀ t ∈ ts, plainT Q m t = true := fun t ht => by
  simp only [Bool.and_eq_true] at h
  exact List.all_eq_true.1 h.2 t ht

theorem fitAll_cons {Q : Program} {m : Nat} {t : TypeId} {ts : List TypeId} : ∀ {xs : List D}, FitAll Q m (t :: ts) xs → ∃ x r, xs = x :: r ∧ FitE Q m t x ∧ FitAll Q m ts r
  | [], h => h.elim
  | x :: r, h => ⟨x, r, rfl, h.1, h.2⟩
theorem fitAll_nil {Q : Program} {m : Nat} : ∀ {xs : List D}, FitAll Q m [] xs → xs = []
  | [], _ => rfl
  | _ :: _, h => h.elim

def EqP (a b : List P) : Prop := a = b
def EqR (a b : List (Nat × En)) : Prop := a = b

/-- A byte, as data. -/
def bD (b : UInt8) : D := .int .u8 b.toNat

@[simp] theorem bytesOf_take : ∀ (l : List D) (k : Nat), bytesOf (l.take k) = (bytesOf l).take k
  | [], k => by simp [bytesOf]
  | x :: r, 0 => by simp [bytesOf]
  | x :: r, k + 1 => by simp [bytesOf, bytesOf_take r k]
@[simp] theorem bytesOf_drop : ∀ (l : List D) (k : Nat), bytesOf (l.drop k) = (bytesOf l).drop k
  | [], k => by simp [bytesOf]
  | x :: r, 0 => by simp
  | x :: r, k + 1 => by simp [bytesOf, bytesOf_drop r k]
@[simp] theorem bytesOf_append : ∀ (l m : List D), bytesOf (l ++ m) = bytesOf l ++ bytesOf m
  | [], m => rfl
  | x :: r, m => by simp [bytesOf, bytesOf_append r m]
@[simp] theorem bytesOf_map : ∀ s : List UInt8, bytesOf (s.map bD) = s
  | [] => rfl
  | b :: r => by simp [bytesOf, bytesOf_map r, D.iVal, bD]
theorem bytesB_take : ∀ (l : List D) (k : Nat), bytesB l = true → bytesB (l.take k) = true
  | [], k, _ => by simp [bytesB]
  | x :: r, 0, _ => by simp [bytesB]
  | x :: r, k + 1, h => by
    cases x with
    | int kd n => cases kd <;> simp [bytesB] at h ⊢; exact bytesB_take r k h
    | _ => simp [bytesB] at h
@[simp] theorem bytesB_map : ∀ s : List UInt8, bytesB (s.map bD) = true
  | [] => rfl
  | b :: r => by simp [bytesB, bytesB_map r, bD]
@[simp] theorem bytesB_take_map (s : List UInt8) (n : Nat) : bytesB ((s.map bD).take n) = true := bytesB_take _ _ (bytesB_map s)

theorem nth_map {α : Type} (f : α → D) (l : List α) (i : Nat) (h : i < l.length) : D.nth (l.map f) i = f l[i] := by simp [D.nth, h]

/-- Loops that are told what to do: a head is found, and it goes on from there. -/
def loopHook (keep : Option (List Nat × List Nat)) (g : S → K (PX × S)) : S → K (PX × S) := fun s post => match headOf keep s with | some s0 => g s0 post | none => False

theorem loopHook_ok {body : Nat → Nat → S → Option (PX × S)} {keep : Option (List Nat × List Nat)} {g : S → K (PX × S)} (h : ∀ s0, KW (g s0) (fun x => LoopsTo body keep s0 x)) (s : S) : KW (loopHook keep g s) (fun x => Ev fun a b => ploop (body a b) keep a s = some x) := fun post hp => by
  unfold loopHook at hp
  split at hp
  · rename_i s0 h0
    obtain ⟨x, h1, h2⟩ := h s0 post hp
    exact ⟨x, h1.ev h0, h2⟩
  · exact hp.elim

theorem noLoops {Q : Program} {kp : Cfg} {f : FuncId} : ∀ id g, lk ([] : List (Nat × (S → K (PX × S)))) id = some g → ∀ s, KW (g s) (fun x => Ev fun a b => ploop (pexec Q (runF Q kp a b) (kp f) a (loopOf Q f id)) (kp f id) a s = some x) := fun id g h => by simp [lk] at h
theorem oneLoop {Q : Program} {kp : Cfg} {f id : Nat} {g : S → K (PX × S)} (h : ∀ s, KW (g s) (fun x => Ev fun a b => ploop (pexec Q (runF Q kp a b) (kp f) a (loopOf Q f id)) (kp f id) a s = some x)) {r : List (Nat × (S → K (PX × S)))}
    (hr : ∀ id g, lk r id = some g → ∀ s, KW (g s) (fun x => Ev fun a b => ploop (pexec Q (runF Q kp a b) (kp f) a (loopOf Q f id)) (kp f id) a s = some x)) :
    ∀ id' g', lk ((id, g) :: r) id' = some g' → ∀ s, KW (g' s) (fun x => Ev fun a b => ploop (pexec Q (runF Q kp a b) (kp f) a (loopOf Q f id')) (kp f id') a s = some x) := fun id' g' h' => by
  simp only [lk] at h'
  split at h'
  · rename_i he
    have he := Nat.eq_of_beq_eq_true he
    subst he
    simp only [Option.some.injEq] at h'
    subst h'
    exact h
  · exact hr id' g' h'
end Pi

