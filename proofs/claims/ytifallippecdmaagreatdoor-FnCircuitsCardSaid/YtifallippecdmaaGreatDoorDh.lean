/- The reference's draws of networks that are mostly monotone. -/
import Derived.Test.YtifallippecdmaaGreatDoorMa
namespace Go.Proofs.YtifallippecdmaaGreatDoor
open Go Go.RowKit Go.Sw
set_option maxRecDepth 100000
set_option linter.unusedVariables false

end Go.Proofs.YtifallippecdmaaGreatDoor
