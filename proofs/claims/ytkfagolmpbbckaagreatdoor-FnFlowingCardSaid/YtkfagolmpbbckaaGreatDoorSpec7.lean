/- The reference's influences in any number of steps. -/
import Derived.Test.YtkfagolmpbbckaaGreatDoorSpecC
import Derived.Test.YtkfagolmpbbckaaGreatDoorP1
import Derived.Test.YtkfagolmpbbckaaGreatDoorSl
import Derived.Deep.LoopGhost
namespace Go.Proofs.YtkfagolmpbbckaaGreatDoor
open Go Go.RowKit Go.Sw
set_option maxRecDepth 100000
set_option linter.unusedVariables false


end Go.Proofs.YtkfagolmpbbckaaGreatDoor
