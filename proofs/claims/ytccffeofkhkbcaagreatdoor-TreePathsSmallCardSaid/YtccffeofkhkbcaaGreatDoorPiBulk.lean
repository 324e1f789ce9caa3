/- The text PiBulk. -/
import Derived.Test.YtccffeofkhkbcaaGreatDoorPiSeat
/- How much the arguments hold. -/
namespace Pi
open Go Go.ChangeShapes Go.WideShapes Go.RowKit

mutual
end
mutual
end

section
variable {H : Type} {enc : TypeId × Value → H} {Q : Program} {w : World}

end
end Pi

