/-
  DERIVED. GIVEN WITH THE SEED: THE CARDS: each row of YtcddnacbjdahbaaDoorRows.lean that lists a variable, with what it lists TIED to the program's text (the seventh form; the later family's looks); each row that meets fmt, with fmt's text TOLD by the authors' own Lean function (tested against real Go, not proved from fmt's source: count such statements apart). THE CARD IS WHAT COUNTS. Prove the row's statement (the work); the ties are given (YtcddnacbjdahbaaDoorTie.lean); close each card by the builder's one call (the guide's Derived/Test/ToyasCard.lean, 'card_holds'). Laid BY PROGRAM, IN A SANDBOX (cutbox-door.mjs). By AI agents, Wed Nov 11 2026. No macro, syntax, notation, axiom, sorry.
-/
import Derived.Test.YtcddnacbjdahbaaDoorRows
import GoSem.ClaimSeven
namespace Go.Proofs.YtcddnacbjdahbaaDoor
namespace Rows

/-- THE TIED CARD OF 'laws.FnExactAttractorsIn'. -/
def fnExactAttractorsInCard : Claim7 := { stood := { row := fnExactAttractorsInRow, standIns := [], harness := (true, "48311bd77d7e7519132bc7beca08eacd34b7568ad4caf972d8ccd1d2b34eb6f3"), looks := false }, kinds := [], alts := [], laidByText := true, laidKinds := [.data, .pinned], laidTests := true, laidLooks := .later }
def FnExactAttractorsInCardSaid : Prop := Claim7.holds Tryd.pinned (.plain (OpenSpec.ofChange fnExactAttractorsInSpec)) fnExactAttractorsInCard

/-- THE TIED CARD OF 'laws.FnTraps'. -/
def fnTrapsCard : Claim7 := { stood := { row := fnTrapsRow, standIns := [], harness := (true, "48311bd77d7e7519132bc7beca08eacd34b7568ad4caf972d8ccd1d2b34eb6f3"), looks := false }, kinds := [], alts := [], laidByText := true, laidKinds := [.data, .pinned], laidTests := true, laidLooks := .later }
def FnTrapsCardSaid : Prop := Claim7.holds Tryd.pinned (.plain (OpenSpec.ofChange fnTrapsSpec)) fnTrapsCard

/-- THE TIED CARD OF 'laws.FnDropSwitch'. -/
def fnDropSwitchCard : Claim7 := { stood := { row := fnDropSwitchRow, standIns := [], harness := (true, "48311bd77d7e7519132bc7beca08eacd34b7568ad4caf972d8ccd1d2b34eb6f3"), looks := false }, kinds := [], alts := [], laidByText := true, laidKinds := [.data, .pinned], laidTests := true, laidLooks := .later }
def FnDropSwitchCardSaid : Prop := Claim7.holds Tryd.pinned (.plain (OpenSpec.ofChange fnDropSwitchSpec)) fnDropSwitchCard

/-- THE TIED CARD OF 'laws.FnGroups'. -/
def fnGroupsCard : Claim7 := { stood := { row := fnGroupsRow, standIns := [], harness := (true, "48311bd77d7e7519132bc7beca08eacd34b7568ad4caf972d8ccd1d2b34eb6f3"), looks := false }, kinds := [], alts := [], laidByText := true, laidKinds := [.data, .pinned], laidTests := true, laidLooks := .later }
def FnGroupsCardSaid : Prop := Claim7.holds Tryd.pinned (.plain (OpenSpec.ofChange fnGroupsSpec)) fnGroupsCard

/-- THE TIED CARD OF 'laws.FnSpread'. -/
def fnSpreadCard : Claim7 := { stood := { row := fnSpreadRow, standIns := [], harness := (true, "48311bd77d7e7519132bc7beca08eacd34b7568ad4caf972d8ccd1d2b34eb6f3"), looks := false }, kinds := [], alts := [], laidByText := true, laidKinds := [.data, .pinned], laidTests := true, laidLooks := .later }
def FnSpreadCardSaid : Prop := Claim7.holds Tryd.pinned (.plain (OpenSpec.ofChange fnSpreadSpec)) fnSpreadCard

/-- THE TIED CARD OF 'laws.FnMonotone'. -/
def fnMonotoneCard : Claim7 := { stood := { row := fnMonotoneRow, standIns := [], harness := (true, "48311bd77d7e7519132bc7beca08eacd34b7568ad4caf972d8ccd1d2b34eb6f3"), looks := false }, kinds := [], alts := [], laidByText := true, laidKinds := [.data, .pinned], laidTests := true, laidLooks := .later }
def FnMonotoneCardSaid : Prop := Claim7.holds Tryd.pinned (.plain (OpenSpec.ofChange fnMonotoneSpec)) fnMonotoneCard

/-- THE TIED CARD OF 'laws.FnTrapOf'. -/
def fnTrapOfCard : Claim7 := { stood := { row := fnTrapOfRow, standIns := [], harness := (true, "48311bd77d7e7519132bc7beca08eacd34b7568ad4caf972d8ccd1d2b34eb6f3"), looks := false }, kinds := [], alts := [], laidByText := true, laidKinds := [.data, .pinned], laidTests := true, laidLooks := .later }
def FnTrapOfCardSaid : Prop := Claim7.holds Tryd.pinned (.plain (OpenSpec.ofChange fnTrapOfSpec)) fnTrapOfCard

/-- THE TIED CARD OF 'laws.FnRemovedPoints'. -/
def fnRemovedPointsCard : Claim7 := { stood := { row := fnRemovedPointsRow, standIns := [], harness := (true, "48311bd77d7e7519132bc7beca08eacd34b7568ad4caf972d8ccd1d2b34eb6f3"), looks := false }, kinds := [], alts := [], laidByText := true, laidKinds := [.data, .pinned], laidTests := true, laidLooks := .later }
def FnRemovedPointsCardSaid : Prop := Claim7.holds Tryd.pinned (.plain (OpenSpec.ofChange fnRemovedPointsSpec)) fnRemovedPointsCard

/-- THE TIED CARD OF 'laws.FnRemoveSwitch'. -/
def fnRemoveSwitchCard : Claim7 := { stood := { row := fnRemoveSwitchRow, standIns := [], harness := (true, "48311bd77d7e7519132bc7beca08eacd34b7568ad4caf972d8ccd1d2b34eb6f3"), looks := false }, kinds := [], alts := [], laidByText := true, laidKinds := [.data, .pinned], laidTests := true, laidLooks := .later }
def FnRemoveSwitchCardSaid : Prop := Claim7.holds Tryd.pinned (.plain (OpenSpec.ofChange fnRemoveSwitchSpec)) fnRemoveSwitchCard

/-- THE TIED CARD OF 'laws.FnLeastTraps'. -/
def fnLeastTrapsCard : Claim7 := { stood := { row := fnLeastTrapsRow, standIns := [], harness := (true, "48311bd77d7e7519132bc7beca08eacd34b7568ad4caf972d8ccd1d2b34eb6f3"), looks := false }, kinds := [], alts := [], laidByText := true, laidKinds := [.data, .pinned], laidTests := true, laidLooks := .later }
def FnLeastTrapsCardSaid : Prop := Claim7.holds Tryd.pinned (.plain (OpenSpec.ofChange fnLeastTrapsSpec)) fnLeastTrapsCard

/-- THE TIED CARD OF 'laws.FnReduce'. -/
def fnReduceCard : Claim7 := { stood := { row := fnReduceRow, standIns := [], harness := (true, "48311bd77d7e7519132bc7beca08eacd34b7568ad4caf972d8ccd1d2b34eb6f3"), looks := false }, kinds := [], alts := [], laidByText := true, laidKinds := [.data, .pinned], laidTests := true, laidLooks := .later }
def FnReduceCardSaid : Prop := Claim7.holds Tryd.pinned (.plain (OpenSpec.ofChange fnReduceSpec)) fnReduceCard

/-- THE TIED CARD OF 'laws.FnTrap'. -/
def fnTrapCard : Claim7 := { stood := { row := fnTrapRow, standIns := [], harness := (true, "48311bd77d7e7519132bc7beca08eacd34b7568ad4caf972d8ccd1d2b34eb6f3"), looks := false }, kinds := [], alts := [], laidByText := true, laidKinds := [.data, .pinned], laidTests := true, laidLooks := .later }
def FnTrapCardSaid : Prop := Claim7.holds Tryd.pinned (.plain (OpenSpec.ofChange fnTrapSpec)) fnTrapCard

/-- THE SECOND FORM's CARD OF 'laws.FnExactAttractorsIn'. -/
def fnExactAttractorsInUptoCard : Claim7 := { stood := { row := fnExactAttractorsInUptoRow, standIns := [], harness := (true, "48311bd77d7e7519132bc7beca08eacd34b7568ad4caf972d8ccd1d2b34eb6f3"), looks := false }, kinds := [], alts := [], laidByText := true, laidKinds := [.data, .pinned], laidTests := true, laidLooks := .later }
def FnExactAttractorsInUptoCardSaid : Prop := Claim7.holds Tryd.pinned (.plain (OpenSpec.upto fnExactAttractorsInSpec)) fnExactAttractorsInUptoCard

/-- THE SECOND FORM's CARD OF 'laws.FnTraps'. -/
def fnTrapsUptoCard : Claim7 := { stood := { row := fnTrapsUptoRow, standIns := [], harness := (true, "48311bd77d7e7519132bc7beca08eacd34b7568ad4caf972d8ccd1d2b34eb6f3"), looks := false }, kinds := [], alts := [], laidByText := true, laidKinds := [.data, .pinned], laidTests := true, laidLooks := .later }
def FnTrapsUptoCardSaid : Prop := Claim7.holds Tryd.pinned (.plain (OpenSpec.upto fnTrapsSpec)) fnTrapsUptoCard

/-- THE SECOND FORM's CARD OF 'laws.FnDropSwitch'. -/
def fnDropSwitchUptoCard : Claim7 := { stood := { row := fnDropSwitchUptoRow, standIns := [], harness := (true, "48311bd77d7e7519132bc7beca08eacd34b7568ad4caf972d8ccd1d2b34eb6f3"), looks := false }, kinds := [], alts := [], laidByText := true, laidKinds := [.data, .pinned], laidTests := true, laidLooks := .later }
def FnDropSwitchUptoCardSaid : Prop := Claim7.holds Tryd.pinned (.plain (OpenSpec.upto fnDropSwitchSpec)) fnDropSwitchUptoCard

/-- THE SECOND FORM's CARD OF 'laws.FnGroups'. -/
def fnGroupsUptoCard : Claim7 := { stood := { row := fnGroupsUptoRow, standIns := [], harness := (true, "48311bd77d7e7519132bc7beca08eacd34b7568ad4caf972d8ccd1d2b34eb6f3"), looks := false }, kinds := [], alts := [], laidByText := true, laidKinds := [.data, .pinned], laidTests := true, laidLooks := .later }
def FnGroupsUptoCardSaid : Prop := Claim7.holds Tryd.pinned (.plain (OpenSpec.upto fnGroupsSpec)) fnGroupsUptoCard

/-- THE SECOND FORM's CARD OF 'laws.FnSpread'. -/
def fnSpreadUptoCard : Claim7 := { stood := { row := fnSpreadUptoRow, standIns := [], harness := (true, "48311bd77d7e7519132bc7beca08eacd34b7568ad4caf972d8ccd1d2b34eb6f3"), looks := false }, kinds := [], alts := [], laidByText := true, laidKinds := [.data, .pinned], laidTests := true, laidLooks := .later }
def FnSpreadUptoCardSaid : Prop := Claim7.holds Tryd.pinned (.plain (OpenSpec.upto fnSpreadSpec)) fnSpreadUptoCard

/-- THE SECOND FORM's CARD OF 'laws.FnMonotone'. -/
def fnMonotoneUptoCard : Claim7 := { stood := { row := fnMonotoneUptoRow, standIns := [], harness := (true, "48311bd77d7e7519132bc7beca08eacd34b7568ad4caf972d8ccd1d2b34eb6f3"), looks := false }, kinds := [], alts := [], laidByText := true, laidKinds := [.data, .pinned], laidTests := true, laidLooks := .later }
def FnMonotoneUptoCardSaid : Prop := Claim7.holds Tryd.pinned (.plain (OpenSpec.upto fnMonotoneSpec)) fnMonotoneUptoCard

/-- THE SECOND FORM's CARD OF 'laws.FnTrapOf'. -/
def fnTrapOfUptoCard : Claim7 := { stood := { row := fnTrapOfUptoRow, standIns := [], harness := (true, "48311bd77d7e7519132bc7beca08eacd34b7568ad4caf972d8ccd1d2b34eb6f3"), looks := false }, kinds := [], alts := [], laidByText := true, laidKinds := [.data, .pinned], laidTests := true, laidLooks := .later }
def FnTrapOfUptoCardSaid : Prop := Claim7.holds Tryd.pinned (.plain (OpenSpec.upto fnTrapOfSpec)) fnTrapOfUptoCard

/-- THE SECOND FORM's CARD OF 'laws.FnRemovedPoints'. -/
def fnRemovedPointsUptoCard : Claim7 := { stood := { row := fnRemovedPointsUptoRow, standIns := [], harness := (true, "48311bd77d7e7519132bc7beca08eacd34b7568ad4caf972d8ccd1d2b34eb6f3"), looks := false }, kinds := [], alts := [], laidByText := true, laidKinds := [.data, .pinned], laidTests := true, laidLooks := .later }
def FnRemovedPointsUptoCardSaid : Prop := Claim7.holds Tryd.pinned (.plain (OpenSpec.upto fnRemovedPointsSpec)) fnRemovedPointsUptoCard

/-- THE SECOND FORM's CARD OF 'laws.FnRemoveSwitch'. -/
def fnRemoveSwitchUptoCard : Claim7 := { stood := { row := fnRemoveSwitchUptoRow, standIns := [], harness := (true, "48311bd77d7e7519132bc7beca08eacd34b7568ad4caf972d8ccd1d2b34eb6f3"), looks := false }, kinds := [], alts := [], laidByText := true, laidKinds := [.data, .pinned], laidTests := true, laidLooks := .later }
def FnRemoveSwitchUptoCardSaid : Prop := Claim7.holds Tryd.pinned (.plain (OpenSpec.upto fnRemoveSwitchSpec)) fnRemoveSwitchUptoCard

/-- THE SECOND FORM's CARD OF 'laws.FnLeastTraps'. -/
def fnLeastTrapsUptoCard : Claim7 := { stood := { row := fnLeastTrapsUptoRow, standIns := [], harness := (true, "48311bd77d7e7519132bc7beca08eacd34b7568ad4caf972d8ccd1d2b34eb6f3"), looks := false }, kinds := [], alts := [], laidByText := true, laidKinds := [.data, .pinned], laidTests := true, laidLooks := .later }
def FnLeastTrapsUptoCardSaid : Prop := Claim7.holds Tryd.pinned (.plain (OpenSpec.upto fnLeastTrapsSpec)) fnLeastTrapsUptoCard

/-- THE SECOND FORM's CARD OF 'laws.FnReduce'. -/
def fnReduceUptoCard : Claim7 := { stood := { row := fnReduceUptoRow, standIns := [], harness := (true, "48311bd77d7e7519132bc7beca08eacd34b7568ad4caf972d8ccd1d2b34eb6f3"), looks := false }, kinds := [], alts := [], laidByText := true, laidKinds := [.data, .pinned], laidTests := true, laidLooks := .later }
def FnReduceUptoCardSaid : Prop := Claim7.holds Tryd.pinned (.plain (OpenSpec.upto fnReduceSpec)) fnReduceUptoCard

/-- THE SECOND FORM's CARD OF 'laws.FnTrap'. -/
def fnTrapUptoCard : Claim7 := { stood := { row := fnTrapUptoRow, standIns := [], harness := (true, "48311bd77d7e7519132bc7beca08eacd34b7568ad4caf972d8ccd1d2b34eb6f3"), looks := false }, kinds := [], alts := [], laidByText := true, laidKinds := [.data, .pinned], laidTests := true, laidLooks := .later }
def FnTrapUptoCardSaid : Prop := Claim7.holds Tryd.pinned (.plain (OpenSpec.upto fnTrapSpec)) fnTrapUptoCard
end Rows
end Go.Proofs.YtcddnacbjdahbaaDoor
