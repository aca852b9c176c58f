/-
  DERIVED. GIVEN WITH THE SEED: THE CARDS: each row of YtfcejeoeeelnlaaDoorRows.lean that lists a variable, with what it lists TIED to the program's text (the seventh form; the later family's looks); each row that meets fmt, with fmt's text TOLD by the authors' own Lean function (tested against real Go, not proved from fmt's source: count such statements apart). THE CARD IS WHAT COUNTS. Prove the row's statement (the work); the ties are given (YtfcejeoeeelnlaaDoorTie.lean); close each card by the builder's one call (the guide's Derived/Test/ToyasCard.lean, 'card_holds'). Laid BY PROGRAM, IN A SANDBOX (cutbox-door.mjs). By AI agents, Wed Nov 11 2026. No macro, syntax, notation, axiom, sorry.
-/
import Derived.Test.YtfcejeoeeelnlaaDoorRows
import GoSem.ClaimSeven
namespace Go.Proofs.YtfcejeoeeelnlaaDoor
namespace Rows

/-- THE TIED CARD OF 'laws.FnExactIsFlowing'. -/
def fnExactIsFlowingCard : Claim7 := { stood := { row := fnExactIsFlowingRow, standIns := [], harness := (true, "d7cee6b3b24503e7a327e8e51f08dcf9a08f17af4bfe48699ea1eb837bef9d67"), looks := false }, kinds := [], alts := [], laidByText := true, laidKinds := [.data, .pinned], laidTests := true, laidLooks := .later }
def FnExactIsFlowingCardSaid : Prop := Claim7.holds Tryd.pinned (.plain (OpenSpec.ofChange fnExactIsFlowingSpec)) fnExactIsFlowingCard

/-- THE TIED CARD OF 'laws.FnExactTurnsToMonotone'. -/
def fnExactTurnsToMonotoneCard : Claim7 := { stood := { row := fnExactTurnsToMonotoneRow, standIns := [], harness := (true, "d7cee6b3b24503e7a327e8e51f08dcf9a08f17af4bfe48699ea1eb837bef9d67"), looks := false }, kinds := [], alts := [], laidByText := true, laidKinds := [.data, .pinned], laidTests := true, laidLooks := .later }
def FnExactTurnsToMonotoneCardSaid : Prop := Claim7.holds Tryd.pinned (.plain (OpenSpec.ofChange fnExactTurnsToMonotoneSpec)) fnExactTurnsToMonotoneCard

/-- THE TIED CARD OF 'laws.FnExactHasCircuit'. -/
def fnExactHasCircuitCard : Claim7 := { stood := { row := fnExactHasCircuitRow, standIns := [], harness := (true, "d7cee6b3b24503e7a327e8e51f08dcf9a08f17af4bfe48699ea1eb837bef9d67"), looks := false }, kinds := [], alts := [], laidByText := true, laidKinds := [.data, .pinned], laidTests := true, laidLooks := .later }
def FnExactHasCircuitCardSaid : Prop := Claim7.holds Tryd.pinned (.plain (OpenSpec.ofChange fnExactHasCircuitSpec)) fnExactHasCircuitCard

/-- THE TIED CARD OF 'laws.FnExactTrapOf'. -/
def fnExactTrapOfCard : Claim7 := { stood := { row := fnExactTrapOfRow, standIns := [], harness := (true, "d7cee6b3b24503e7a327e8e51f08dcf9a08f17af4bfe48699ea1eb837bef9d67"), looks := false }, kinds := [], alts := [], laidByText := true, laidKinds := [.data, .pinned], laidTests := true, laidLooks := .later }
def FnExactTrapOfCardSaid : Prop := Claim7.holds Tryd.pinned (.plain (OpenSpec.ofChange fnExactTrapOfSpec)) fnExactTrapOfCard

/-- THE TIED CARD OF 'laws.FnExactLiftPoint'. -/
def fnExactLiftPointCard : Claim7 := { stood := { row := fnExactLiftPointRow, standIns := [], harness := (true, "d7cee6b3b24503e7a327e8e51f08dcf9a08f17af4bfe48699ea1eb837bef9d67"), looks := false }, kinds := [], alts := [], laidByText := true, laidKinds := [.data, .pinned], laidTests := true, laidLooks := .later }
def FnExactLiftPointCardSaid : Prop := Claim7.holds Tryd.pinned (.plain (OpenSpec.ofChange fnExactLiftPointSpec)) fnExactLiftPointCard

/-- THE TIED CARD OF 'laws.FnExactRemoveSwitch'. -/
def fnExactRemoveSwitchCard : Claim7 := { stood := { row := fnExactRemoveSwitchRow, standIns := [], harness := (true, "d7cee6b3b24503e7a327e8e51f08dcf9a08f17af4bfe48699ea1eb837bef9d67"), looks := false }, kinds := [], alts := [], laidByText := true, laidKinds := [.data, .pinned], laidTests := true, laidLooks := .later }
def FnExactRemoveSwitchCardSaid : Prop := Claim7.holds Tryd.pinned (.plain (OpenSpec.ofChange fnExactRemoveSwitchSpec)) fnExactRemoveSwitchCard

/-- THE TIED CARD OF 'laws.FnExactLeastTraps'. -/
def fnExactLeastTrapsCard : Claim7 := { stood := { row := fnExactLeastTrapsRow, standIns := [], harness := (true, "d7cee6b3b24503e7a327e8e51f08dcf9a08f17af4bfe48699ea1eb837bef9d67"), looks := false }, kinds := [], alts := [], laidByText := true, laidKinds := [.data, .pinned], laidTests := true, laidLooks := .later }
def FnExactLeastTrapsCardSaid : Prop := Claim7.holds Tryd.pinned (.plain (OpenSpec.ofChange fnExactLeastTrapsSpec)) fnExactLeastTrapsCard

/-- THE TIED CARD OF 'laws.FnExactGreatestTraps'. -/
def fnExactGreatestTrapsCard : Claim7 := { stood := { row := fnExactGreatestTrapsRow, standIns := [], harness := (true, "d7cee6b3b24503e7a327e8e51f08dcf9a08f17af4bfe48699ea1eb837bef9d67"), looks := false }, kinds := [], alts := [], laidByText := true, laidKinds := [.data, .pinned], laidTests := true, laidLooks := .later }
def FnExactGreatestTrapsCardSaid : Prop := Claim7.holds Tryd.pinned (.plain (OpenSpec.ofChange fnExactGreatestTrapsSpec)) fnExactGreatestTrapsCard

/-- THE TIED CARD OF 'laws.FnExactBreakingSet'. -/
def fnExactBreakingSetCard : Claim7 := { stood := { row := fnExactBreakingSetRow, standIns := [], harness := (true, "d7cee6b3b24503e7a327e8e51f08dcf9a08f17af4bfe48699ea1eb837bef9d67"), looks := false }, kinds := [], alts := [], laidByText := true, laidKinds := [.data, .pinned], laidTests := true, laidLooks := .later }
def FnExactBreakingSetCardSaid : Prop := Claim7.holds Tryd.pinned (.plain (OpenSpec.ofChange fnExactBreakingSetSpec)) fnExactBreakingSetCard

/-- THE TIED CARD OF 'laws.FnExactReduceNetwork'. -/
def fnExactReduceNetworkCard : Claim7 := { stood := { row := fnExactReduceNetworkRow, standIns := [], harness := (true, "d7cee6b3b24503e7a327e8e51f08dcf9a08f17af4bfe48699ea1eb837bef9d67"), looks := false }, kinds := [], alts := [], laidByText := true, laidKinds := [.data, .pinned], laidTests := true, laidLooks := .later }
def FnExactReduceNetworkCardSaid : Prop := Claim7.holds Tryd.pinned (.plain (OpenSpec.ofChange fnExactReduceNetworkSpec)) fnExactReduceNetworkCard

/-- THE TIED CARD OF 'laws.FnExactAttractorsIn'. -/
def fnExactAttractorsInCard : Claim7 := { stood := { row := fnExactAttractorsInRow, standIns := [], harness := (true, "d7cee6b3b24503e7a327e8e51f08dcf9a08f17af4bfe48699ea1eb837bef9d67"), looks := false }, kinds := [], alts := [], laidByText := true, laidKinds := [.data, .pinned], laidTests := true, laidLooks := .later }
def FnExactAttractorsInCardSaid : Prop := Claim7.holds Tryd.pinned (.plain (OpenSpec.ofChange fnExactAttractorsInSpec)) fnExactAttractorsInCard

/-- THE TIED CARD OF 'laws.FnExactArrowsOf'. -/
def fnExactArrowsOfCard : Claim7 := { stood := { row := fnExactArrowsOfRow, standIns := [], harness := (true, "d7cee6b3b24503e7a327e8e51f08dcf9a08f17af4bfe48699ea1eb837bef9d67"), looks := false }, kinds := [], alts := [], laidByText := true, laidKinds := [.data, .data, .data, .data, .pinned], laidTests := true, laidLooks := .later }
def FnExactArrowsOfCardSaid : Prop := Claim7.holds Tryd.pinned (.plain (OpenSpec.ofChange fnExactArrowsOfSpec)) fnExactArrowsOfCard

/-- THE SECOND FORM's CARD OF 'laws.FnExactIsFlowing'. -/
def fnExactIsFlowingUptoCard : Claim7 := { stood := { row := fnExactIsFlowingUptoRow, standIns := [], harness := (true, "d7cee6b3b24503e7a327e8e51f08dcf9a08f17af4bfe48699ea1eb837bef9d67"), looks := false }, kinds := [], alts := [], laidByText := true, laidKinds := [.data, .pinned], laidTests := true, laidLooks := .later }
def FnExactIsFlowingUptoCardSaid : Prop := Claim7.holds Tryd.pinned (.plain (OpenSpec.upto fnExactIsFlowingSpec)) fnExactIsFlowingUptoCard

/-- THE SECOND FORM's CARD OF 'laws.FnExactTurnsToMonotone'. -/
def fnExactTurnsToMonotoneUptoCard : Claim7 := { stood := { row := fnExactTurnsToMonotoneUptoRow, standIns := [], harness := (true, "d7cee6b3b24503e7a327e8e51f08dcf9a08f17af4bfe48699ea1eb837bef9d67"), looks := false }, kinds := [], alts := [], laidByText := true, laidKinds := [.data, .pinned], laidTests := true, laidLooks := .later }
def FnExactTurnsToMonotoneUptoCardSaid : Prop := Claim7.holds Tryd.pinned (.plain (OpenSpec.upto fnExactTurnsToMonotoneSpec)) fnExactTurnsToMonotoneUptoCard

/-- THE SECOND FORM's CARD OF 'laws.FnExactHasCircuit'. -/
def fnExactHasCircuitUptoCard : Claim7 := { stood := { row := fnExactHasCircuitUptoRow, standIns := [], harness := (true, "d7cee6b3b24503e7a327e8e51f08dcf9a08f17af4bfe48699ea1eb837bef9d67"), looks := false }, kinds := [], alts := [], laidByText := true, laidKinds := [.data, .pinned], laidTests := true, laidLooks := .later }
def FnExactHasCircuitUptoCardSaid : Prop := Claim7.holds Tryd.pinned (.plain (OpenSpec.upto fnExactHasCircuitSpec)) fnExactHasCircuitUptoCard

/-- THE SECOND FORM's CARD OF 'laws.FnExactTrapOf'. -/
def fnExactTrapOfUptoCard : Claim7 := { stood := { row := fnExactTrapOfUptoRow, standIns := [], harness := (true, "d7cee6b3b24503e7a327e8e51f08dcf9a08f17af4bfe48699ea1eb837bef9d67"), looks := false }, kinds := [], alts := [], laidByText := true, laidKinds := [.data, .pinned], laidTests := true, laidLooks := .later }
def FnExactTrapOfUptoCardSaid : Prop := Claim7.holds Tryd.pinned (.plain (OpenSpec.upto fnExactTrapOfSpec)) fnExactTrapOfUptoCard

/-- THE SECOND FORM's CARD OF 'laws.FnExactLiftPoint'. -/
def fnExactLiftPointUptoCard : Claim7 := { stood := { row := fnExactLiftPointUptoRow, standIns := [], harness := (true, "d7cee6b3b24503e7a327e8e51f08dcf9a08f17af4bfe48699ea1eb837bef9d67"), looks := false }, kinds := [], alts := [], laidByText := true, laidKinds := [.data, .pinned], laidTests := true, laidLooks := .later }
def FnExactLiftPointUptoCardSaid : Prop := Claim7.holds Tryd.pinned (.plain (OpenSpec.upto fnExactLiftPointSpec)) fnExactLiftPointUptoCard

/-- THE SECOND FORM's CARD OF 'laws.FnExactRemoveSwitch'. -/
def fnExactRemoveSwitchUptoCard : Claim7 := { stood := { row := fnExactRemoveSwitchUptoRow, standIns := [], harness := (true, "d7cee6b3b24503e7a327e8e51f08dcf9a08f17af4bfe48699ea1eb837bef9d67"), looks := false }, kinds := [], alts := [], laidByText := true, laidKinds := [.data, .pinned], laidTests := true, laidLooks := .later }
def FnExactRemoveSwitchUptoCardSaid : Prop := Claim7.holds Tryd.pinned (.plain (OpenSpec.upto fnExactRemoveSwitchSpec)) fnExactRemoveSwitchUptoCard

/-- THE SECOND FORM's CARD OF 'laws.FnExactLeastTraps'. -/
def fnExactLeastTrapsUptoCard : Claim7 := { stood := { row := fnExactLeastTrapsUptoRow, standIns := [], harness := (true, "d7cee6b3b24503e7a327e8e51f08dcf9a08f17af4bfe48699ea1eb837bef9d67"), looks := false }, kinds := [], alts := [], laidByText := true, laidKinds := [.data, .pinned], laidTests := true, laidLooks := .later }
def FnExactLeastTrapsUptoCardSaid : Prop := Claim7.holds Tryd.pinned (.plain (OpenSpec.upto fnExactLeastTrapsSpec)) fnExactLeastTrapsUptoCard

/-- THE SECOND FORM's CARD OF 'laws.FnExactGreatestTraps'. -/
def fnExactGreatestTrapsUptoCard : Claim7 := { stood := { row := fnExactGreatestTrapsUptoRow, standIns := [], harness := (true, "d7cee6b3b24503e7a327e8e51f08dcf9a08f17af4bfe48699ea1eb837bef9d67"), looks := false }, kinds := [], alts := [], laidByText := true, laidKinds := [.data, .pinned], laidTests := true, laidLooks := .later }
def FnExactGreatestTrapsUptoCardSaid : Prop := Claim7.holds Tryd.pinned (.plain (OpenSpec.upto fnExactGreatestTrapsSpec)) fnExactGreatestTrapsUptoCard

/-- THE SECOND FORM's CARD OF 'laws.FnExactBreakingSet'. -/
def fnExactBreakingSetUptoCard : Claim7 := { stood := { row := fnExactBreakingSetUptoRow, standIns := [], harness := (true, "d7cee6b3b24503e7a327e8e51f08dcf9a08f17af4bfe48699ea1eb837bef9d67"), looks := false }, kinds := [], alts := [], laidByText := true, laidKinds := [.data, .pinned], laidTests := true, laidLooks := .later }
def FnExactBreakingSetUptoCardSaid : Prop := Claim7.holds Tryd.pinned (.plain (OpenSpec.upto fnExactBreakingSetSpec)) fnExactBreakingSetUptoCard

/-- THE SECOND FORM's CARD OF 'laws.FnExactReduceNetwork'. -/
def fnExactReduceNetworkUptoCard : Claim7 := { stood := { row := fnExactReduceNetworkUptoRow, standIns := [], harness := (true, "d7cee6b3b24503e7a327e8e51f08dcf9a08f17af4bfe48699ea1eb837bef9d67"), looks := false }, kinds := [], alts := [], laidByText := true, laidKinds := [.data, .pinned], laidTests := true, laidLooks := .later }
def FnExactReduceNetworkUptoCardSaid : Prop := Claim7.holds Tryd.pinned (.plain (OpenSpec.upto fnExactReduceNetworkSpec)) fnExactReduceNetworkUptoCard

/-- THE SECOND FORM's CARD OF 'laws.FnExactAttractorsIn'. -/
def fnExactAttractorsInUptoCard : Claim7 := { stood := { row := fnExactAttractorsInUptoRow, standIns := [], harness := (true, "d7cee6b3b24503e7a327e8e51f08dcf9a08f17af4bfe48699ea1eb837bef9d67"), looks := false }, kinds := [], alts := [], laidByText := true, laidKinds := [.data, .pinned], laidTests := true, laidLooks := .later }
def FnExactAttractorsInUptoCardSaid : Prop := Claim7.holds Tryd.pinned (.plain (OpenSpec.upto fnExactAttractorsInSpec)) fnExactAttractorsInUptoCard

/-- THE SECOND FORM's CARD OF 'laws.FnExactArrowsOf'. -/
def fnExactArrowsOfUptoCard : Claim7 := { stood := { row := fnExactArrowsOfUptoRow, standIns := [], harness := (true, "d7cee6b3b24503e7a327e8e51f08dcf9a08f17af4bfe48699ea1eb837bef9d67"), looks := false }, kinds := [], alts := [], laidByText := true, laidKinds := [.data, .data, .data, .data, .pinned], laidTests := true, laidLooks := .later }
def FnExactArrowsOfUptoCardSaid : Prop := Claim7.holds Tryd.pinned (.plain (OpenSpec.upto fnExactArrowsOfSpec)) fnExactArrowsOfUptoCard
end Rows
end Go.Proofs.YtfcejeoeeelnlaaDoor
