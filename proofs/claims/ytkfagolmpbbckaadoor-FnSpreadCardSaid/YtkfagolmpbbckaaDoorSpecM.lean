/- The statement's terms in order, traps, the least and the greatest of them. -/
import Derived.Test.YtkfagolmpbbckaaDoorSpecF
import Derived.Test.YtkfagolmpbbckaaDoorSy
import Derived.Test.YtkfagolmpbbckaaDoorTm
import Derived.Test.YtkfagolmpbbckaaDoorImplN
import Derived.Deep.RegionHeld3
import Derived.Deep.AppendLies
namespace Go.Proofs.YtkfagolmpbbckaaDoor
open Go Go.RowKit Go.Sw
set_option maxRecDepth 100000
set_option linter.unusedVariables false

theorem drewN_two (w : World) (a b : Nat) : ∃ m, (w.drewN a).drewN b = w.drewN m := ⟨a + b, by simp [World.drewN, Nat.add_assoc]⟩
end Go.Proofs.YtkfagolmpbbckaaDoor
