/- The reference's influences in any number of steps. -/
import Derived.Test.YtkfagolmpbbckaaDoorSpecC
import Derived.Test.YtkfagolmpbbckaaDoorPu
import Derived.Test.YtkfagolmpbbckaaDoorSl
import Derived.Deep.LoopGhost
namespace Go.Proofs.YtkfagolmpbbckaaDoor
open Go Go.RowKit Go.Sw
set_option maxRecDepth 100000
set_option linter.unusedVariables false


end Go.Proofs.YtkfagolmpbbckaaDoor
