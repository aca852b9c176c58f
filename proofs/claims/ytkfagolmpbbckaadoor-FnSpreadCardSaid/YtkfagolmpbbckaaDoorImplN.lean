/- The program's terms in order, and traps. -/
import Derived.Test.YtkfagolmpbbckaaDoorImplG
import Derived.Test.YtkfagolmpbbckaaDoorSy
import Derived.Test.YtkfagolmpbbckaaDoorTm
namespace Go.Proofs.YtkfagolmpbbckaaDoor
open Go Go.RowKit Go.Sw
set_option maxRecDepth 100000
set_option linter.unusedVariables false

end Go.Proofs.YtkfagolmpbbckaaDoor
