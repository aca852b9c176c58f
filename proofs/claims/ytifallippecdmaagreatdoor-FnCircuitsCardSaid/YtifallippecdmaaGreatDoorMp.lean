/- Maps of numbers to truths that the call makes: sets of states; looked up, written, ranged over. -/
import Derived.Test.YtifallippecdmaaGreatDoorImplA
import Derived.Maps.Own
import Derived.Maps.OwnOps
import Derived.Maps.OwnSet
import Derived.Maps.RangeWalk
namespace Go.Proofs.YtifallippecdmaaGreatDoor
open Go Go.RowKit Go.Sw Go.Maps
set_option maxRecDepth 100000
set_option linter.unusedVariables false

end Go.Proofs.YtifallippecdmaaGreatDoor
