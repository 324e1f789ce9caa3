/- The text PiSeat. -/
import Derived.Test.YtccffeofkhkbcaaGreatDoorPiSort
/- Told functions do not matter to a led run. -/
namespace Pi
open Go
theorem bodyK_X (Q : Program) (kf : KF) (kp : FuncId → Nat → Option (List Nat × List Nat)) (xs : List Nat) (X Y : CF) (hk : List (Nat × (S → K (PX × S)))) (dc : FuncId → Nat → Nat) (lf : Nat) :
    bodyK Q kf ⟨kp, xs, X⟩ hk dc lf = bodyK Q kf ⟨kp, xs, Y⟩ hk dc lf := rfl
theorem runK_X (Q : Program) (kp : FuncId → Nat → Option (List Nat × List Nat)) (xs : List Nat) (X Y : CF) (dc : FuncId → Nat → Nat) (H : List (FuncId × KF1)) (lf : Nat) : ∀ k,
    runK Q ⟨kp, xs, X⟩ dc H lf k = runK Q ⟨kp, xs, Y⟩ dc H lf k
  | 0 => rfl
  | k + 1 => by
    funext f ps R
    unfold runK
    rw [runK_X Q kp xs X Y dc H lf k, bodyK_X Q _ kp xs X Y]
end Pi

