/- The text PiBulk. -/
import Derived.Test.YtngoddkencoalaaGreatDoorPiSeat
namespace Pi
open Go Go.ChangeShapes Go.WideShapes Go.RowKit
mutual
def Xb:D->Nat
 | .str l=>l.length
 | .sl _ es=>Xc es
 | .agg cs=>Ot cs
 |_=>0
def Xc:List D->Nat
 | []=>0
 |x::r=>1+Xb x+Xc r
def Ot:List D->Nat
 | []=>0
 |x::r=>Xb x+Ot r
end
mutual
def qdt {H:Type}:DataW H->Nat
 | .lit (.string bytes)=>bytes.length+1
 | .slice elems spare=>BU elems+BU spare+1
 | .agg parts=>BU parts+1
 |_=>1
def BU {H:Type}:List (DataW H)->Nat
 | []=>0
 |d::r=>qdt d+BU r
end
section
variable {H:Type} {enc:TypeId×Value->H} {Q:Program} {w:World}
end
end Pi
