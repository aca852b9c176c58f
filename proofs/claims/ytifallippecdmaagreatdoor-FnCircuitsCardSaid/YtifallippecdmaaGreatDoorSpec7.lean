/- The reference's influences in any number of steps. -/
import Derived.Test.YtifallippecdmaaGreatDoorSpecC
import Derived.Test.YtifallippecdmaaGreatDoorP1
import Derived.Test.YtifallippecdmaaGreatDoorSl
import Derived.Deep.LoopGhost
namespace Go.Proofs.YtifallippecdmaaGreatDoor
open Go Go.RowKit Go.Sw
set_option maxRecDepth 100000
set_option linter.unusedVariables false


end Go.Proofs.YtifallippecdmaaGreatDoor
