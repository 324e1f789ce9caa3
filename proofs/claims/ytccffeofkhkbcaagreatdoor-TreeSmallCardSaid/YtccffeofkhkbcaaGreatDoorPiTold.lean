/- The text PiTold. -/
import Derived.Test.YtccffeofkhkbcaaGreatDoorPiLem
/- Told functions, one by one. -/
namespace Pi
open Go

abbrev TF := List P → List (Nat × En) → Option (P × List (Nat × En))
def xOf : List (Nat × TF) → CF
  | [], _, _, _ => none
  | (n, g) :: r, f, ps, R => if Nat.beq n f then g ps R else xOf r f ps R
/-- A told function does what it is told to do. -/
def XOK (Q : Program) (w0 : World) (fid : Nat) (g : TF) : Prop :=
  w0.drawn = 0 → ∀ ps R p R1, g ps R = some (p, R1) → ∀ (F : Nat → Prop) (G : Nat → Value) (w : World) (vs : List Value), HRel Q ⟨G, w0⟩ F G w R → vs.length = ps.length →
    (∀ (i : Nat) (v : Value) (c : P), vs[i]? = some v → ps[i]? = some c → PRep F w G R v c) →
    CallOut Q fid ⟨vs⟩ w (fun v w' => ∃ F' G', HRel Q ⟨G, w0⟩ F' G' w' R1 ∧ PRep F' w' G' R1 v p ∧ Ext (Own G R) (Own G' R1) F F' w w')
inductive XAll (Q : Program) (w0 : World) : List (Nat × TF) → Prop
  | nil : XAll Q w0 []
  | cons {n : Nat} {g : TF} {r : List (Nat × TF)} (h : XOK Q w0 n g) (hr : XAll Q w0 r) : XAll Q w0 ((n, g) :: r)
theorem XAll.ok {Q : Program} {w0 : World} {l : List (Nat × TF)} (h0 : w0.drawn = 0) (h : XAll Q w0 l) : CFOK Q w0 (xOf l) := by
  induction h with
  | nil => intro f ps R p R1 h; cases h
  | cons h hr ih =>
    intro f ps R p R1 h'
    unfold xOf at h'
    split at h'
    · rename_i hf
      have hf := Nat.eq_of_beq_eq_true hf
      subst hf
      exact h h0 ps R p R1 h'
    · exact ih f ps R p R1 h'

theorem cell_of_cells {w : World} {b : Nat} {cs : Array Value} {T : TypeId} {fr : Nat × Nat} (h : w.heap[b]? = some (.cells cs T fr)) (i : Nat) : w.cell? ⟨b, i, none⟩ = cs[i]? := by
  simp [World.cell?, h]

theorem get_getD {cs : Array Value} {i : Nat} (h : i < cs.size) : cs[i]? = some (cs.getD i undef) := by
  simp [Array.getD_eq_getD_getElem?, h]
theorem enters {Q : Program} {f : FuncId} {fn : Func} (hfn : Q.funcs[f]? = some fn) (hbody : fn.body.isSome = true) (hname : (fn.name == "runtime.NumGoroutine") = false) (vs : Array Value) (w : World) : (callFunc f vs).run Q w = .ok (.enter f vs) w := by
  simp [callFunc, hfn]
  rw [if_neg (by simpa using hname)]
  cases hb : fn.body with
  | none => rw [hb] at hbody; cases hbody
  | some c => simp
end Pi

