/- What the cards of this seat ask of the whole program, each fact by itself; no condition. -/
import Derived.Test.YtkfagolmpbbckaaGreatDoorTie
import Derived.Test.YtkfagolmpbbckaaGreatDoorCards
import Derived.ProofKit
import Derived.SevenTiedAt
namespace Go.Proofs.YtkfagolmpbbckaaGreatDoor
open Go
set_option maxRecDepth 100000
theorem and2 {a b : Bool} (ha : a = true) (hb : b = true) : (a && b) = true := by rw [ha, hb]; rfl
theorem fact_laidOut : laidOutB Tryz.prog = true := by kernel_rfl
theorem fact_mapsRowed : mapsRowed Tryz.prog = true := by kernel_rfl
theorem fact_looks : false = Tryz.prog.looks [] := by kernel_rfl
theorem fact_plainKeys : (Rows.fnThomasRow.plainKeys == Tryz.prog.plainKeys) = true := by kernel_rfl
theorem fact_stopsHeard : Tryz.prog.stopsHeard = true := by kernel_rfl
theorem fact_mayEnter : Tryz.prog.mayEnter = true := by kernel_rfl
theorem fact_lifted : (Rows.fnThomasRow.lifted == Tryz.prog.liftsFinal) = true := by kernel_rfl
end Go.Proofs.YtkfagolmpbbckaaGreatDoor
