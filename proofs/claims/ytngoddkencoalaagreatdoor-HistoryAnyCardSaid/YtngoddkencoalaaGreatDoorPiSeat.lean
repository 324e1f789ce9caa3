/- The text PiSeat. -/
import Derived.Test.YtngoddkencoalaaGreatDoorPiSort
namespace Pi
open Go
theorem TS (Q:Program) (kf:KF) (kp:FuncId->Nat->Option (List Nat×List Nat)) (xs:List Nat) (X Y:CF) (hk:List (Nat×(S->K (PX×S)))) (dc:FuncId->Nat->Nat) (lf:Nat):
 lQ Q kf ⟨kp,xs,X⟩ hk dc lf=lQ Q kf ⟨kp,xs,Y⟩ hk dc lf:=rfl
theorem BT (Q:Program) (kp:FuncId->Nat->Option (List Nat×List Nat)) (xs:List Nat) (X Y:CF) (dc:FuncId->Nat->Nat) (H:List (FuncId×bm)) (lf:Nat): ∀k,
  runK Q ⟨kp,xs,X⟩ dc H lf k=runK Q ⟨kp,xs,Y⟩ dc H lf k
 |0=>rfl
 |k+1=>by
  funext f ps R
  unfold runK
  rw[BT Q kp xs X Y dc H lf k,TS Q _ kp xs X Y]
end Pi
