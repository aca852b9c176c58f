/-
  DERIVED. GIVEN WITH THE SEED: THE CARDS: each row of YtkfagolmpbbckaaGreatDoorRows.lean that lists a variable, with what it lists TIED to the program's text (the seventh form; the later family's looks); each row that meets fmt, with fmt's text TOLD by the authors' own Lean function (tested against real Go, not proved from fmt's source: count such statements apart). THE CARD IS WHAT COUNTS. Prove the row's statement (the work); the ties are given (YtkfagolmpbbckaaGreatDoorTie.lean); close each card by the builder's one call (the guide's Derived/Test/ToyasCard.lean, 'card_holds'). Laid BY PROGRAM, IN A SANDBOX (cutbox-door.mjs). By AI agents, Wed Nov 11 2026. No macro, syntax, notation, axiom, sorry.
-/
import Derived.Test.YtkfagolmpbbckaaGreatDoorRows
import GoSem.ClaimSeven
namespace Go.Proofs.YtkfagolmpbbckaaGreatDoor
namespace Rows

/-- THE TIED CARD OF 'laws.FnThomas'. -/
def fnThomasCard : Claim7 := { stood := { row := fnThomasRow, standIns := [], harness := (true, "ff9b14f5152aaf5dfb2600cb911a84ffdd32697056646bc6a2be74ca2dd6c774"), looks := false }, kinds := [], alts := [], laidByText := true, laidKinds := [.data, .data, .data, .data, .pinned], laidTests := true, laidLooks := .later }
def FnThomasCardSaid : Prop := Claim7.holds Tryz.pinned (.plain (OpenSpec.ofChange fnThomasSpec)) fnThomasCard

/-- THE TIED CARD OF 'laws.FnTurns'. -/
def fnTurnsCard : Claim7 := { stood := { row := fnTurnsRow, standIns := [], harness := (true, "ff9b14f5152aaf5dfb2600cb911a84ffdd32697056646bc6a2be74ca2dd6c774"), looks := false }, kinds := [], alts := [], laidByText := true, laidKinds := [.data, .pinned], laidTests := true, laidLooks := .later }
def FnTurnsCardSaid : Prop := Claim7.holds Tryz.pinned (.plain (OpenSpec.ofChange fnTurnsSpec)) fnTurnsCard

/-- THE TIED CARD OF 'laws.FnFlowing'. -/
def fnFlowingCard : Claim7 := { stood := { row := fnFlowingRow, standIns := [], harness := (true, "ff9b14f5152aaf5dfb2600cb911a84ffdd32697056646bc6a2be74ca2dd6c774"), looks := false }, kinds := [], alts := [], laidByText := true, laidKinds := [.data, .pinned], laidTests := true, laidLooks := .later }
def FnFlowingCardSaid : Prop := Claim7.holds Tryz.pinned (.plain (OpenSpec.ofChange fnFlowingSpec)) fnFlowingCard

/-- THE TIED CARD OF 'laws.FnBreakingSet'. -/
def fnBreakingSetCard : Claim7 := { stood := { row := fnBreakingSetRow, standIns := [], harness := (true, "ff9b14f5152aaf5dfb2600cb911a84ffdd32697056646bc6a2be74ca2dd6c774"), looks := false }, kinds := [], alts := [], laidByText := true, laidKinds := [.data, .data, .data, .data, .pinned], laidTests := true, laidLooks := .later }
def FnBreakingSetCardSaid : Prop := Claim7.holds Tryz.pinned (.plain (OpenSpec.ofChange fnBreakingSetSpec)) fnBreakingSetCard

/-- THE SECOND FORM's CARD OF 'laws.FnThomas'. -/
def fnThomasUptoCard : Claim7 := { stood := { row := fnThomasUptoRow, standIns := [], harness := (true, "ff9b14f5152aaf5dfb2600cb911a84ffdd32697056646bc6a2be74ca2dd6c774"), looks := false }, kinds := [], alts := [], laidByText := true, laidKinds := [.data, .data, .data, .data, .pinned], laidTests := true, laidLooks := .later }
def FnThomasUptoCardSaid : Prop := Claim7.holds Tryz.pinned (.plain (OpenSpec.upto fnThomasSpec)) fnThomasUptoCard

/-- THE SECOND FORM's CARD OF 'laws.FnTurns'. -/
def fnTurnsUptoCard : Claim7 := { stood := { row := fnTurnsUptoRow, standIns := [], harness := (true, "ff9b14f5152aaf5dfb2600cb911a84ffdd32697056646bc6a2be74ca2dd6c774"), looks := false }, kinds := [], alts := [], laidByText := true, laidKinds := [.data, .pinned], laidTests := true, laidLooks := .later }
def FnTurnsUptoCardSaid : Prop := Claim7.holds Tryz.pinned (.plain (OpenSpec.upto fnTurnsSpec)) fnTurnsUptoCard

/-- THE SECOND FORM's CARD OF 'laws.FnFlowing'. -/
def fnFlowingUptoCard : Claim7 := { stood := { row := fnFlowingUptoRow, standIns := [], harness := (true, "ff9b14f5152aaf5dfb2600cb911a84ffdd32697056646bc6a2be74ca2dd6c774"), looks := false }, kinds := [], alts := [], laidByText := true, laidKinds := [.data, .pinned], laidTests := true, laidLooks := .later }
def FnFlowingUptoCardSaid : Prop := Claim7.holds Tryz.pinned (.plain (OpenSpec.upto fnFlowingSpec)) fnFlowingUptoCard

/-- THE SECOND FORM's CARD OF 'laws.FnBreakingSet'. -/
def fnBreakingSetUptoCard : Claim7 := { stood := { row := fnBreakingSetUptoRow, standIns := [], harness := (true, "ff9b14f5152aaf5dfb2600cb911a84ffdd32697056646bc6a2be74ca2dd6c774"), looks := false }, kinds := [], alts := [], laidByText := true, laidKinds := [.data, .data, .data, .data, .pinned], laidTests := true, laidLooks := .later }
def FnBreakingSetUptoCardSaid : Prop := Claim7.holds Tryz.pinned (.plain (OpenSpec.upto fnBreakingSetSpec)) fnBreakingSetUptoCard
end Rows
end Go.Proofs.YtkfagolmpbbckaaGreatDoor
