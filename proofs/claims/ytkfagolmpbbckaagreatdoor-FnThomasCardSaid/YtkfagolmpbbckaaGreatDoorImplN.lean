/- The program's terms in order, and traps. -/
import Derived.Test.YtkfagolmpbbckaaGreatDoorImplG
import Derived.Test.YtkfagolmpbbckaaGreatDoorSy
import Derived.Test.YtkfagolmpbbckaaGreatDoorP2
namespace Go.Proofs.YtkfagolmpbbckaaGreatDoor
open Go Go.RowKit Go.Sw
set_option maxRecDepth 100000
set_option linter.unusedVariables false

end Go.Proofs.YtkfagolmpbbckaaGreatDoor
