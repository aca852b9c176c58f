/- What the cards of this seat ask of the whole program, each fact by itself; no condition. -/
import Derived.Test.YtkfagolmpbbckaaDoorTie
import Derived.Test.YtkfagolmpbbckaaDoorCards
import Derived.ProofKit
import Derived.SevenTiedAt
namespace Go.Proofs.YtkfagolmpbbckaaDoor
open Go
set_option maxRecDepth 100000
theorem and2 {a b : Bool} (ha : a = true) (hb : b = true) : (a && b) = true := by rw [ha, hb]; rfl
theorem fact_laidOut : laidOutB Tryd.prog = true := by kernel_rfl
theorem fact_mapsRowed : mapsRowed Tryd.prog = true := by kernel_rfl
theorem fact_looks : false = Tryd.prog.looks [] := by kernel_rfl
theorem fact_plainKeys : (Rows.fnJoinRow.plainKeys == Tryd.prog.plainKeys) = true := by kernel_rfl
theorem fact_stopsHeard : Tryd.prog.stopsHeard = true := by kernel_rfl
theorem fact_mayEnter : Tryd.prog.mayEnter = true := by kernel_rfl
theorem fact_lifted : (Rows.fnJoinRow.lifted == Tryd.prog.liftsFinal) = true := by kernel_rfl
end Go.Proofs.YtkfagolmpbbckaaDoor
