/-
  DERIVED. GIVEN WITH THE SEED: THE CARDS: each row of YtgbjnddfmalbfaaDoorRows.lean that lists a variable, with what it lists TIED to the program's text (the seventh form; the later family's looks); each row that meets fmt, with fmt's text TOLD by the authors' own Lean function (tested against real Go, not proved from fmt's source: count such statements apart). THE CARD IS WHAT COUNTS. Prove the row's statement (the work); the ties are given (YtgbjnddfmalbfaaDoorTie.lean); close each card by the builder's one call (the guide's Derived/Test/ToyasCard.lean, 'card_holds'). Laid BY PROGRAM, IN A SANDBOX (cutbox-door.mjs). By AI agents, Wed Nov 11 2026. No macro, syntax, notation, axiom, sorry.
-/
import Derived.Test.YtgbjnddfmalbfaaDoorRows
import GoSem.ClaimSeven
namespace Go.Proofs.YtgbjnddfmalbfaaDoor
namespace Rows

/-- THE TIED CARD OF 'laws.FnExactMeetPoints'. -/
def fnExactMeetPointsCard : Claim7 := { stood := { row := fnExactMeetPointsRow, standIns := [], harness := (true, "947130853cb662c3e2fba707a1f89b127981742d142322428503862c7722d056"), looks := false }, kinds := [], alts := [], laidByText := true, laidKinds := [.data, .pinned], laidTests := true, laidLooks := .later }
def FnExactMeetPointsCardSaid : Prop := Claim7.holds Tryd.pinned (.plain (OpenSpec.ofChange fnExactMeetPointsSpec)) fnExactMeetPointsCard

/-- THE TIED CARD OF 'laws.FnExactHasCircuit'. -/
def fnExactHasCircuitCard : Claim7 := { stood := { row := fnExactHasCircuitRow, standIns := [], harness := (true, "947130853cb662c3e2fba707a1f89b127981742d142322428503862c7722d056"), looks := false }, kinds := [], alts := [], laidByText := true, laidKinds := [.data, .pinned], laidTests := true, laidLooks := .later }
def FnExactHasCircuitCardSaid : Prop := Claim7.holds Tryd.pinned (.plain (OpenSpec.ofChange fnExactHasCircuitSpec)) fnExactHasCircuitCard

/-- THE TIED CARD OF 'laws.FnExactTrapOf'. -/
def fnExactTrapOfCard : Claim7 := { stood := { row := fnExactTrapOfRow, standIns := [], harness := (true, "947130853cb662c3e2fba707a1f89b127981742d142322428503862c7722d056"), looks := false }, kinds := [], alts := [], laidByText := true, laidKinds := [.data, .pinned], laidTests := true, laidLooks := .later }
def FnExactTrapOfCardSaid : Prop := Claim7.holds Tryd.pinned (.plain (OpenSpec.ofChange fnExactTrapOfSpec)) fnExactTrapOfCard

/-- THE TIED CARD OF 'laws.FnExactLiftPoint'. -/
def fnExactLiftPointCard : Claim7 := { stood := { row := fnExactLiftPointRow, standIns := [], harness := (true, "947130853cb662c3e2fba707a1f89b127981742d142322428503862c7722d056"), looks := false }, kinds := [], alts := [], laidByText := true, laidKinds := [.data, .pinned], laidTests := true, laidLooks := .later }
def FnExactLiftPointCardSaid : Prop := Claim7.holds Tryd.pinned (.plain (OpenSpec.ofChange fnExactLiftPointSpec)) fnExactLiftPointCard

/-- THE TIED CARD OF 'laws.FnExactRemoveSwitch'. -/
def fnExactRemoveSwitchCard : Claim7 := { stood := { row := fnExactRemoveSwitchRow, standIns := [], harness := (true, "947130853cb662c3e2fba707a1f89b127981742d142322428503862c7722d056"), looks := false }, kinds := [], alts := [], laidByText := true, laidKinds := [.data, .pinned], laidTests := true, laidLooks := .later }
def FnExactRemoveSwitchCardSaid : Prop := Claim7.holds Tryd.pinned (.plain (OpenSpec.ofChange fnExactRemoveSwitchSpec)) fnExactRemoveSwitchCard

/-- THE TIED CARD OF 'laws.FnExactLeastTraps'. -/
def fnExactLeastTrapsCard : Claim7 := { stood := { row := fnExactLeastTrapsRow, standIns := [], harness := (true, "947130853cb662c3e2fba707a1f89b127981742d142322428503862c7722d056"), looks := false }, kinds := [], alts := [], laidByText := true, laidKinds := [.data, .pinned], laidTests := true, laidLooks := .later }
def FnExactLeastTrapsCardSaid : Prop := Claim7.holds Tryd.pinned (.plain (OpenSpec.ofChange fnExactLeastTrapsSpec)) fnExactLeastTrapsCard

/-- THE TIED CARD OF 'laws.FnExactGreatestTraps'. -/
def fnExactGreatestTrapsCard : Claim7 := { stood := { row := fnExactGreatestTrapsRow, standIns := [], harness := (true, "947130853cb662c3e2fba707a1f89b127981742d142322428503862c7722d056"), looks := false }, kinds := [], alts := [], laidByText := true, laidKinds := [.data, .pinned], laidTests := true, laidLooks := .later }
def FnExactGreatestTrapsCardSaid : Prop := Claim7.holds Tryd.pinned (.plain (OpenSpec.ofChange fnExactGreatestTrapsSpec)) fnExactGreatestTrapsCard

/-- THE TIED CARD OF 'laws.FnExactBreakingSet'. -/
def fnExactBreakingSetCard : Claim7 := { stood := { row := fnExactBreakingSetRow, standIns := [], harness := (true, "947130853cb662c3e2fba707a1f89b127981742d142322428503862c7722d056"), looks := false }, kinds := [], alts := [], laidByText := true, laidKinds := [.data, .pinned], laidTests := true, laidLooks := .later }
def FnExactBreakingSetCardSaid : Prop := Claim7.holds Tryd.pinned (.plain (OpenSpec.ofChange fnExactBreakingSetSpec)) fnExactBreakingSetCard

/-- THE TIED CARD OF 'laws.FnExactReduceNetwork'. -/
def fnExactReduceNetworkCard : Claim7 := { stood := { row := fnExactReduceNetworkRow, standIns := [], harness := (true, "947130853cb662c3e2fba707a1f89b127981742d142322428503862c7722d056"), looks := false }, kinds := [], alts := [], laidByText := true, laidKinds := [.data, .pinned], laidTests := true, laidLooks := .later }
def FnExactReduceNetworkCardSaid : Prop := Claim7.holds Tryd.pinned (.plain (OpenSpec.ofChange fnExactReduceNetworkSpec)) fnExactReduceNetworkCard

/-- THE TIED CARD OF 'laws.FnExactAttractorsIn'. -/
def fnExactAttractorsInCard : Claim7 := { stood := { row := fnExactAttractorsInRow, standIns := [], harness := (true, "947130853cb662c3e2fba707a1f89b127981742d142322428503862c7722d056"), looks := false }, kinds := [], alts := [], laidByText := true, laidKinds := [.data, .pinned], laidTests := true, laidLooks := .later }
def FnExactAttractorsInCardSaid : Prop := Claim7.holds Tryd.pinned (.plain (OpenSpec.ofChange fnExactAttractorsInSpec)) fnExactAttractorsInCard

/-- THE TIED CARD OF 'laws.FnTraps'. -/
def fnTrapsCard : Claim7 := { stood := { row := fnTrapsRow, standIns := [], harness := (true, "947130853cb662c3e2fba707a1f89b127981742d142322428503862c7722d056"), looks := false }, kinds := [], alts := [], laidByText := true, laidKinds := [.data, .pinned], laidTests := true, laidLooks := .later }
def FnTrapsCardSaid : Prop := Claim7.holds Tryd.pinned (.plain (OpenSpec.ofChange fnTrapsSpec)) fnTrapsCard

/-- THE TIED CARD OF 'laws.FnDropSwitch'. -/
def fnDropSwitchCard : Claim7 := { stood := { row := fnDropSwitchRow, standIns := [], harness := (true, "947130853cb662c3e2fba707a1f89b127981742d142322428503862c7722d056"), looks := false }, kinds := [], alts := [], laidByText := true, laidKinds := [.data, .pinned], laidTests := true, laidLooks := .later }
def FnDropSwitchCardSaid : Prop := Claim7.holds Tryd.pinned (.plain (OpenSpec.ofChange fnDropSwitchSpec)) fnDropSwitchCard

/-- THE SECOND FORM's CARD OF 'laws.FnExactMeetPoints'. -/
def fnExactMeetPointsUptoCard : Claim7 := { stood := { row := fnExactMeetPointsUptoRow, standIns := [], harness := (true, "947130853cb662c3e2fba707a1f89b127981742d142322428503862c7722d056"), looks := false }, kinds := [], alts := [], laidByText := true, laidKinds := [.data, .pinned], laidTests := true, laidLooks := .later }
def FnExactMeetPointsUptoCardSaid : Prop := Claim7.holds Tryd.pinned (.plain (OpenSpec.upto fnExactMeetPointsSpec)) fnExactMeetPointsUptoCard

/-- THE SECOND FORM's CARD OF 'laws.FnExactHasCircuit'. -/
def fnExactHasCircuitUptoCard : Claim7 := { stood := { row := fnExactHasCircuitUptoRow, standIns := [], harness := (true, "947130853cb662c3e2fba707a1f89b127981742d142322428503862c7722d056"), looks := false }, kinds := [], alts := [], laidByText := true, laidKinds := [.data, .pinned], laidTests := true, laidLooks := .later }
def FnExactHasCircuitUptoCardSaid : Prop := Claim7.holds Tryd.pinned (.plain (OpenSpec.upto fnExactHasCircuitSpec)) fnExactHasCircuitUptoCard

/-- THE SECOND FORM's CARD OF 'laws.FnExactTrapOf'. -/
def fnExactTrapOfUptoCard : Claim7 := { stood := { row := fnExactTrapOfUptoRow, standIns := [], harness := (true, "947130853cb662c3e2fba707a1f89b127981742d142322428503862c7722d056"), looks := false }, kinds := [], alts := [], laidByText := true, laidKinds := [.data, .pinned], laidTests := true, laidLooks := .later }
def FnExactTrapOfUptoCardSaid : Prop := Claim7.holds Tryd.pinned (.plain (OpenSpec.upto fnExactTrapOfSpec)) fnExactTrapOfUptoCard

/-- THE SECOND FORM's CARD OF 'laws.FnExactLiftPoint'. -/
def fnExactLiftPointUptoCard : Claim7 := { stood := { row := fnExactLiftPointUptoRow, standIns := [], harness := (true, "947130853cb662c3e2fba707a1f89b127981742d142322428503862c7722d056"), looks := false }, kinds := [], alts := [], laidByText := true, laidKinds := [.data, .pinned], laidTests := true, laidLooks := .later }
def FnExactLiftPointUptoCardSaid : Prop := Claim7.holds Tryd.pinned (.plain (OpenSpec.upto fnExactLiftPointSpec)) fnExactLiftPointUptoCard

/-- THE SECOND FORM's CARD OF 'laws.FnExactRemoveSwitch'. -/
def fnExactRemoveSwitchUptoCard : Claim7 := { stood := { row := fnExactRemoveSwitchUptoRow, standIns := [], harness := (true, "947130853cb662c3e2fba707a1f89b127981742d142322428503862c7722d056"), looks := false }, kinds := [], alts := [], laidByText := true, laidKinds := [.data, .pinned], laidTests := true, laidLooks := .later }
def FnExactRemoveSwitchUptoCardSaid : Prop := Claim7.holds Tryd.pinned (.plain (OpenSpec.upto fnExactRemoveSwitchSpec)) fnExactRemoveSwitchUptoCard

/-- THE SECOND FORM's CARD OF 'laws.FnExactLeastTraps'. -/
def fnExactLeastTrapsUptoCard : Claim7 := { stood := { row := fnExactLeastTrapsUptoRow, standIns := [], harness := (true, "947130853cb662c3e2fba707a1f89b127981742d142322428503862c7722d056"), looks := false }, kinds := [], alts := [], laidByText := true, laidKinds := [.data, .pinned], laidTests := true, laidLooks := .later }
def FnExactLeastTrapsUptoCardSaid : Prop := Claim7.holds Tryd.pinned (.plain (OpenSpec.upto fnExactLeastTrapsSpec)) fnExactLeastTrapsUptoCard

/-- THE SECOND FORM's CARD OF 'laws.FnExactGreatestTraps'. -/
def fnExactGreatestTrapsUptoCard : Claim7 := { stood := { row := fnExactGreatestTrapsUptoRow, standIns := [], harness := (true, "947130853cb662c3e2fba707a1f89b127981742d142322428503862c7722d056"), looks := false }, kinds := [], alts := [], laidByText := true, laidKinds := [.data, .pinned], laidTests := true, laidLooks := .later }
def FnExactGreatestTrapsUptoCardSaid : Prop := Claim7.holds Tryd.pinned (.plain (OpenSpec.upto fnExactGreatestTrapsSpec)) fnExactGreatestTrapsUptoCard

/-- THE SECOND FORM's CARD OF 'laws.FnExactBreakingSet'. -/
def fnExactBreakingSetUptoCard : Claim7 := { stood := { row := fnExactBreakingSetUptoRow, standIns := [], harness := (true, "947130853cb662c3e2fba707a1f89b127981742d142322428503862c7722d056"), looks := false }, kinds := [], alts := [], laidByText := true, laidKinds := [.data, .pinned], laidTests := true, laidLooks := .later }
def FnExactBreakingSetUptoCardSaid : Prop := Claim7.holds Tryd.pinned (.plain (OpenSpec.upto fnExactBreakingSetSpec)) fnExactBreakingSetUptoCard

/-- THE SECOND FORM's CARD OF 'laws.FnExactReduceNetwork'. -/
def fnExactReduceNetworkUptoCard : Claim7 := { stood := { row := fnExactReduceNetworkUptoRow, standIns := [], harness := (true, "947130853cb662c3e2fba707a1f89b127981742d142322428503862c7722d056"), looks := false }, kinds := [], alts := [], laidByText := true, laidKinds := [.data, .pinned], laidTests := true, laidLooks := .later }
def FnExactReduceNetworkUptoCardSaid : Prop := Claim7.holds Tryd.pinned (.plain (OpenSpec.upto fnExactReduceNetworkSpec)) fnExactReduceNetworkUptoCard

/-- THE SECOND FORM's CARD OF 'laws.FnExactAttractorsIn'. -/
def fnExactAttractorsInUptoCard : Claim7 := { stood := { row := fnExactAttractorsInUptoRow, standIns := [], harness := (true, "947130853cb662c3e2fba707a1f89b127981742d142322428503862c7722d056"), looks := false }, kinds := [], alts := [], laidByText := true, laidKinds := [.data, .pinned], laidTests := true, laidLooks := .later }
def FnExactAttractorsInUptoCardSaid : Prop := Claim7.holds Tryd.pinned (.plain (OpenSpec.upto fnExactAttractorsInSpec)) fnExactAttractorsInUptoCard

/-- THE SECOND FORM's CARD OF 'laws.FnTraps'. -/
def fnTrapsUptoCard : Claim7 := { stood := { row := fnTrapsUptoRow, standIns := [], harness := (true, "947130853cb662c3e2fba707a1f89b127981742d142322428503862c7722d056"), looks := false }, kinds := [], alts := [], laidByText := true, laidKinds := [.data, .pinned], laidTests := true, laidLooks := .later }
def FnTrapsUptoCardSaid : Prop := Claim7.holds Tryd.pinned (.plain (OpenSpec.upto fnTrapsSpec)) fnTrapsUptoCard

/-- THE SECOND FORM's CARD OF 'laws.FnDropSwitch'. -/
def fnDropSwitchUptoCard : Claim7 := { stood := { row := fnDropSwitchUptoRow, standIns := [], harness := (true, "947130853cb662c3e2fba707a1f89b127981742d142322428503862c7722d056"), looks := false }, kinds := [], alts := [], laidByText := true, laidKinds := [.data, .pinned], laidTests := true, laidLooks := .later }
def FnDropSwitchUptoCardSaid : Prop := Claim7.holds Tryd.pinned (.plain (OpenSpec.upto fnDropSwitchSpec)) fnDropSwitchUptoCard
end Rows
end Go.Proofs.YtgbjnddfmalbfaaDoor
