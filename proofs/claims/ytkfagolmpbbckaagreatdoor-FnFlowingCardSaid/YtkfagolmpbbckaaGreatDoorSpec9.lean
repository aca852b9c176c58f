/- The reference's removing of switches: which can be, states with one put in. -/
import Derived.Test.YtkfagolmpbbckaaGreatDoorSpecC
import Derived.Test.YtkfagolmpbbckaaGreatDoorP1
import Derived.Test.YtkfagolmpbbckaaGreatDoorSl
namespace Go.Proofs.YtkfagolmpbbckaaGreatDoor
open Go Go.RowKit Go.Sw
set_option maxRecDepth 100000
set_option linter.unusedVariables false





end Go.Proofs.YtkfagolmpbbckaaGreatDoor
