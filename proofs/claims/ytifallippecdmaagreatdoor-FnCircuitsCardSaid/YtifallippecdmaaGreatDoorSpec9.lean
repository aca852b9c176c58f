/- The reference's removing of switches: which can be, states with one put in. -/
import Derived.Test.YtifallippecdmaaGreatDoorSpecC
import Derived.Test.YtifallippecdmaaGreatDoorP1
import Derived.Test.YtifallippecdmaaGreatDoorSl
namespace Go.Proofs.YtifallippecdmaaGreatDoor
open Go Go.RowKit Go.Sw
set_option maxRecDepth 100000
set_option linter.unusedVariables false





end Go.Proofs.YtifallippecdmaaGreatDoor
