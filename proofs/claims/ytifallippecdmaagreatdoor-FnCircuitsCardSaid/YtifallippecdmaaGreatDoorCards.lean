/-
  DERIVED. GIVEN WITH THE SEED: THE CARDS: each row of YtifallippecdmaaGreatDoorRows.lean that lists a variable, with what it lists TIED to the program's text (the seventh form; the later family's looks); each row that meets fmt, with fmt's text TOLD by the authors' own Lean function (tested against real Go, not proved from fmt's source: count such statements apart). THE CARD IS WHAT COUNTS. Prove the row's statement (the work); the ties are given (YtifallippecdmaaGreatDoorTie.lean); close each card by the builder's one call (the guide's Derived/Test/ToyasCard.lean, 'card_holds'). Laid BY PROGRAM, IN A SANDBOX (cutbox-door.mjs). By AI agents, Wed Nov 11 2026. No macro, syntax, notation, axiom, sorry.
-/
import Derived.Test.YtifallippecdmaaGreatDoorRows
import GoSem.ClaimSeven
namespace Go.Proofs.YtifallippecdmaaGreatDoor
namespace Rows

/-- THE TIED CARD OF 'laws.FnCircuits'. -/
def fnCircuitsCard : Claim7 := { stood := { row := fnCircuitsRow, standIns := [], harness := (true, "b7113a5b0010e4bf12f65d35e16f4718fdfe01a4a3707d524a4d2bc87f6d2959"), looks := false }, kinds := [], alts := [], laidByText := true, laidKinds := [.data, .data, .data, .data, .pinned], laidTests := true, laidLooks := .later }
def FnCircuitsCardSaid : Prop := Claim7.holds Tryz.pinned (.plain (OpenSpec.ofChange fnCircuitsSpec)) fnCircuitsCard

/-- THE SECOND FORM's CARD OF 'laws.FnCircuits'. -/
def fnCircuitsUptoCard : Claim7 := { stood := { row := fnCircuitsUptoRow, standIns := [], harness := (true, "b7113a5b0010e4bf12f65d35e16f4718fdfe01a4a3707d524a4d2bc87f6d2959"), looks := false }, kinds := [], alts := [], laidByText := true, laidKinds := [.data, .data, .data, .data, .pinned], laidTests := true, laidLooks := .later }
def FnCircuitsUptoCardSaid : Prop := Claim7.holds Tryz.pinned (.plain (OpenSpec.upto fnCircuitsSpec)) fnCircuitsUptoCard
end Rows
end Go.Proofs.YtifallippecdmaaGreatDoor
