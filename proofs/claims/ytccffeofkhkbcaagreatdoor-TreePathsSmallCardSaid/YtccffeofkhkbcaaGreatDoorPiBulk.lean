/- The text PiBulk. -/
import Derived.Test.YtccffeofkhkbcaaGreatDoorPiSeat
/- How much the arguments hold. -/
namespace Pi
open Go Go.ChangeShapes Go.WideShapes Go.RowKit

mutual
def bulk1 : D → Nat
  | .str l => l.length
  | .sl _ es => bulkL es
  | .agg cs => bulkCs cs
  | _ => 0
def bulkL : List D → Nat
  | [] => 0
  | x :: r => 1 + bulk1 x + bulkL r
def bulkCs : List D → Nat
  | [] => 0
  | x :: r => bulk1 x + bulkCs r
end
mutual
def bulkW {H : Type} : DataW H → Nat
  | .lit (.string bytes) => bytes.length + 1
  | .slice elems spare => bulkWs elems + bulkWs spare + 1
  | .agg parts => bulkWs parts + 1
  | _ => 1
def bulkWs {H : Type} : List (DataW H) → Nat
  | [] => 0
  | d :: r => bulkW d + bulkWs r
end

section
variable {H : Type} {enc : TypeId × Value → H} {Q : Program} {w : World}

end
end Pi

