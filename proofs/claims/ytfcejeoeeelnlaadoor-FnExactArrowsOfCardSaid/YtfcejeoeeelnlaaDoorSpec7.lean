/- The reference's influences in any number of steps. -/
import Derived.Test.YtfcejeoeeelnlaaDoorSpecC
import Derived.Test.YtfcejeoeeelnlaaDoorPu
import Derived.Test.YtfcejeoeeelnlaaDoorSl
import Derived.Deep.LoopGhost
namespace Go.Proofs.YtfcejeoeeelnlaaDoor
open Go Go.RowKit Go.Sw
set_option maxRecDepth 100000
set_option linter.unusedVariables false


end Go.Proofs.YtfcejeoeeelnlaaDoor
