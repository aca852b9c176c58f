/-
  DERIVED. GIVEN WITH THE SEED: THE CARDS: each row of YtkkacglcjfgbiaaDoorRows.lean that lists a variable, with what it lists TIED to the program's text (the seventh form; the later family's looks); each row that meets fmt, with fmt's text TOLD by the authors' own Lean function (tested against real Go, not proved from fmt's source: count such statements apart). THE CARD IS WHAT COUNTS. Prove the row's statement (the work); the ties are given (YtkkacglcjfgbiaaDoorTie.lean); close each card by the builder's one call (the guide's Derived/Test/ToyasCard.lean, 'card_holds'). Laid BY PROGRAM, IN A SANDBOX (cutbox-door.mjs). By AI agents, Wed Nov 11 2026. No macro, syntax, notation, axiom, sorry.
-/
import Derived.Test.YtkkacglcjfgbiaaDoorRows
import GoSem.ClaimSeven
namespace Go.Proofs.YtkkacglcjfgbiaaDoor
namespace Rows

/-- THE TIED CARD OF 'laws.FnExactLiftState'. -/
def fnExactLiftStateCard : Claim7 := { stood := { row := fnExactLiftStateRow, standIns := [], harness := (true, "03439703c3e9b5ab584b7797b2587ca4a3b3dfd48b43746b062f1893c5495514"), looks := false }, kinds := [], alts := [], laidByText := true, laidKinds := [.data, .pinned], laidTests := true, laidLooks := .later }
def FnExactLiftStateCardSaid : Prop := Claim7.holds Tryd.pinned (.plain (OpenSpec.ofChange fnExactLiftStateSpec)) fnExactLiftStateCard

/-- THE TIED CARD OF 'laws.FnExactRemovable'. -/
def fnExactRemovableCard : Claim7 := { stood := { row := fnExactRemovableRow, standIns := [], harness := (true, "03439703c3e9b5ab584b7797b2587ca4a3b3dfd48b43746b062f1893c5495514"), looks := false }, kinds := [], alts := [], laidByText := true, laidKinds := [.data, .pinned], laidTests := true, laidLooks := .later }
def FnExactRemovableCardSaid : Prop := Claim7.holds Tryd.pinned (.plain (OpenSpec.ofChange fnExactRemovableSpec)) fnExactRemovableCard

/-- THE TIED CARD OF 'laws.FnExactActsOn'. -/
def fnExactActsOnCard : Claim7 := { stood := { row := fnExactActsOnRow, standIns := [], harness := (true, "03439703c3e9b5ab584b7797b2587ca4a3b3dfd48b43746b062f1893c5495514"), looks := false }, kinds := [], alts := [], laidByText := true, laidKinds := [.data, .pinned], laidTests := true, laidLooks := .later }
def FnExactActsOnCardSaid : Prop := Claim7.holds Tryd.pinned (.plain (OpenSpec.ofChange fnExactActsOnSpec)) fnExactActsOnCard

/-- THE TIED CARD OF 'laws.FnExactFallFrom'. -/
def fnExactFallFromCard : Claim7 := { stood := { row := fnExactFallFromRow, standIns := [], harness := (true, "03439703c3e9b5ab584b7797b2587ca4a3b3dfd48b43746b062f1893c5495514"), looks := false }, kinds := [], alts := [], laidByText := true, laidKinds := [.data, .pinned], laidTests := true, laidLooks := .later }
def FnExactFallFromCardSaid : Prop := Claim7.holds Tryd.pinned (.plain (OpenSpec.ofChange fnExactFallFromSpec)) fnExactFallFromCard

/-- THE TIED CARD OF 'laws.FnExactRiseFrom'. -/
def fnExactRiseFromCard : Claim7 := { stood := { row := fnExactRiseFromRow, standIns := [], harness := (true, "03439703c3e9b5ab584b7797b2587ca4a3b3dfd48b43746b062f1893c5495514"), looks := false }, kinds := [], alts := [], laidByText := true, laidKinds := [.data, .pinned], laidTests := true, laidLooks := .later }
def FnExactRiseFromCardSaid : Prop := Claim7.holds Tryd.pinned (.plain (OpenSpec.ofChange fnExactRiseFromSpec)) fnExactRiseFromCard

/-- THE TIED CARD OF 'laws.FnExactLeastPoint'. -/
def fnExactLeastPointCard : Claim7 := { stood := { row := fnExactLeastPointRow, standIns := [], harness := (true, "03439703c3e9b5ab584b7797b2587ca4a3b3dfd48b43746b062f1893c5495514"), looks := false }, kinds := [], alts := [], laidByText := true, laidKinds := [.data, .pinned], laidTests := true, laidLooks := .later }
def FnExactLeastPointCardSaid : Prop := Claim7.holds Tryd.pinned (.plain (OpenSpec.ofChange fnExactLeastPointSpec)) fnExactLeastPointCard

/-- THE TIED CARD OF 'laws.FnExactGreatestPoint'. -/
def fnExactGreatestPointCard : Claim7 := { stood := { row := fnExactGreatestPointRow, standIns := [], harness := (true, "03439703c3e9b5ab584b7797b2587ca4a3b3dfd48b43746b062f1893c5495514"), looks := false }, kinds := [], alts := [], laidByText := true, laidKinds := [.data, .pinned], laidTests := true, laidLooks := .later }
def FnExactGreatestPointCardSaid : Prop := Claim7.holds Tryd.pinned (.plain (OpenSpec.ofChange fnExactGreatestPointSpec)) fnExactGreatestPointCard

/-- THE TIED CARD OF 'laws.FnExactGroupsOf'. -/
def fnExactGroupsOfCard : Claim7 := { stood := { row := fnExactGroupsOfRow, standIns := [], harness := (true, "03439703c3e9b5ab584b7797b2587ca4a3b3dfd48b43746b062f1893c5495514"), looks := false }, kinds := [], alts := [], laidByText := true, laidKinds := [.data, .pinned], laidTests := true, laidLooks := .later }
def FnExactGroupsOfCardSaid : Prop := Claim7.holds Tryd.pinned (.plain (OpenSpec.ofChange fnExactGroupsOfSpec)) fnExactGroupsOfCard

/-- THE TIED CARD OF 'laws.FnExactIsFlowing'. -/
def fnExactIsFlowingCard : Claim7 := { stood := { row := fnExactIsFlowingRow, standIns := [], harness := (true, "03439703c3e9b5ab584b7797b2587ca4a3b3dfd48b43746b062f1893c5495514"), looks := false }, kinds := [], alts := [], laidByText := true, laidKinds := [.data, .pinned], laidTests := true, laidLooks := .later }
def FnExactIsFlowingCardSaid : Prop := Claim7.holds Tryd.pinned (.plain (OpenSpec.ofChange fnExactIsFlowingSpec)) fnExactIsFlowingCard

/-- THE TIED CARD OF 'laws.FnExactTurnsToMonotone'. -/
def fnExactTurnsToMonotoneCard : Claim7 := { stood := { row := fnExactTurnsToMonotoneRow, standIns := [], harness := (true, "03439703c3e9b5ab584b7797b2587ca4a3b3dfd48b43746b062f1893c5495514"), looks := false }, kinds := [], alts := [], laidByText := true, laidKinds := [.data, .pinned], laidTests := true, laidLooks := .later }
def FnExactTurnsToMonotoneCardSaid : Prop := Claim7.holds Tryd.pinned (.plain (OpenSpec.ofChange fnExactTurnsToMonotoneSpec)) fnExactTurnsToMonotoneCard

/-- THE TIED CARD OF 'laws.FnExactJoinPoints'. -/
def fnExactJoinPointsCard : Claim7 := { stood := { row := fnExactJoinPointsRow, standIns := [], harness := (true, "03439703c3e9b5ab584b7797b2587ca4a3b3dfd48b43746b062f1893c5495514"), looks := false }, kinds := [], alts := [], laidByText := true, laidKinds := [.data, .pinned], laidTests := true, laidLooks := .later }
def FnExactJoinPointsCardSaid : Prop := Claim7.holds Tryd.pinned (.plain (OpenSpec.ofChange fnExactJoinPointsSpec)) fnExactJoinPointsCard

/-- THE SECOND FORM's CARD OF 'laws.FnExactLiftState'. -/
def fnExactLiftStateUptoCard : Claim7 := { stood := { row := fnExactLiftStateUptoRow, standIns := [], harness := (true, "03439703c3e9b5ab584b7797b2587ca4a3b3dfd48b43746b062f1893c5495514"), looks := false }, kinds := [], alts := [], laidByText := true, laidKinds := [.data, .pinned], laidTests := true, laidLooks := .later }
def FnExactLiftStateUptoCardSaid : Prop := Claim7.holds Tryd.pinned (.plain (OpenSpec.upto fnExactLiftStateSpec)) fnExactLiftStateUptoCard

/-- THE SECOND FORM's CARD OF 'laws.FnExactRemovable'. -/
def fnExactRemovableUptoCard : Claim7 := { stood := { row := fnExactRemovableUptoRow, standIns := [], harness := (true, "03439703c3e9b5ab584b7797b2587ca4a3b3dfd48b43746b062f1893c5495514"), looks := false }, kinds := [], alts := [], laidByText := true, laidKinds := [.data, .pinned], laidTests := true, laidLooks := .later }
def FnExactRemovableUptoCardSaid : Prop := Claim7.holds Tryd.pinned (.plain (OpenSpec.upto fnExactRemovableSpec)) fnExactRemovableUptoCard

/-- THE SECOND FORM's CARD OF 'laws.FnExactActsOn'. -/
def fnExactActsOnUptoCard : Claim7 := { stood := { row := fnExactActsOnUptoRow, standIns := [], harness := (true, "03439703c3e9b5ab584b7797b2587ca4a3b3dfd48b43746b062f1893c5495514"), looks := false }, kinds := [], alts := [], laidByText := true, laidKinds := [.data, .pinned], laidTests := true, laidLooks := .later }
def FnExactActsOnUptoCardSaid : Prop := Claim7.holds Tryd.pinned (.plain (OpenSpec.upto fnExactActsOnSpec)) fnExactActsOnUptoCard

/-- THE SECOND FORM's CARD OF 'laws.FnExactFallFrom'. -/
def fnExactFallFromUptoCard : Claim7 := { stood := { row := fnExactFallFromUptoRow, standIns := [], harness := (true, "03439703c3e9b5ab584b7797b2587ca4a3b3dfd48b43746b062f1893c5495514"), looks := false }, kinds := [], alts := [], laidByText := true, laidKinds := [.data, .pinned], laidTests := true, laidLooks := .later }
def FnExactFallFromUptoCardSaid : Prop := Claim7.holds Tryd.pinned (.plain (OpenSpec.upto fnExactFallFromSpec)) fnExactFallFromUptoCard

/-- THE SECOND FORM's CARD OF 'laws.FnExactRiseFrom'. -/
def fnExactRiseFromUptoCard : Claim7 := { stood := { row := fnExactRiseFromUptoRow, standIns := [], harness := (true, "03439703c3e9b5ab584b7797b2587ca4a3b3dfd48b43746b062f1893c5495514"), looks := false }, kinds := [], alts := [], laidByText := true, laidKinds := [.data, .pinned], laidTests := true, laidLooks := .later }
def FnExactRiseFromUptoCardSaid : Prop := Claim7.holds Tryd.pinned (.plain (OpenSpec.upto fnExactRiseFromSpec)) fnExactRiseFromUptoCard

/-- THE SECOND FORM's CARD OF 'laws.FnExactLeastPoint'. -/
def fnExactLeastPointUptoCard : Claim7 := { stood := { row := fnExactLeastPointUptoRow, standIns := [], harness := (true, "03439703c3e9b5ab584b7797b2587ca4a3b3dfd48b43746b062f1893c5495514"), looks := false }, kinds := [], alts := [], laidByText := true, laidKinds := [.data, .pinned], laidTests := true, laidLooks := .later }
def FnExactLeastPointUptoCardSaid : Prop := Claim7.holds Tryd.pinned (.plain (OpenSpec.upto fnExactLeastPointSpec)) fnExactLeastPointUptoCard

/-- THE SECOND FORM's CARD OF 'laws.FnExactGreatestPoint'. -/
def fnExactGreatestPointUptoCard : Claim7 := { stood := { row := fnExactGreatestPointUptoRow, standIns := [], harness := (true, "03439703c3e9b5ab584b7797b2587ca4a3b3dfd48b43746b062f1893c5495514"), looks := false }, kinds := [], alts := [], laidByText := true, laidKinds := [.data, .pinned], laidTests := true, laidLooks := .later }
def FnExactGreatestPointUptoCardSaid : Prop := Claim7.holds Tryd.pinned (.plain (OpenSpec.upto fnExactGreatestPointSpec)) fnExactGreatestPointUptoCard

/-- THE SECOND FORM's CARD OF 'laws.FnExactGroupsOf'. -/
def fnExactGroupsOfUptoCard : Claim7 := { stood := { row := fnExactGroupsOfUptoRow, standIns := [], harness := (true, "03439703c3e9b5ab584b7797b2587ca4a3b3dfd48b43746b062f1893c5495514"), looks := false }, kinds := [], alts := [], laidByText := true, laidKinds := [.data, .pinned], laidTests := true, laidLooks := .later }
def FnExactGroupsOfUptoCardSaid : Prop := Claim7.holds Tryd.pinned (.plain (OpenSpec.upto fnExactGroupsOfSpec)) fnExactGroupsOfUptoCard

/-- THE SECOND FORM's CARD OF 'laws.FnExactIsFlowing'. -/
def fnExactIsFlowingUptoCard : Claim7 := { stood := { row := fnExactIsFlowingUptoRow, standIns := [], harness := (true, "03439703c3e9b5ab584b7797b2587ca4a3b3dfd48b43746b062f1893c5495514"), looks := false }, kinds := [], alts := [], laidByText := true, laidKinds := [.data, .pinned], laidTests := true, laidLooks := .later }
def FnExactIsFlowingUptoCardSaid : Prop := Claim7.holds Tryd.pinned (.plain (OpenSpec.upto fnExactIsFlowingSpec)) fnExactIsFlowingUptoCard

/-- THE SECOND FORM's CARD OF 'laws.FnExactTurnsToMonotone'. -/
def fnExactTurnsToMonotoneUptoCard : Claim7 := { stood := { row := fnExactTurnsToMonotoneUptoRow, standIns := [], harness := (true, "03439703c3e9b5ab584b7797b2587ca4a3b3dfd48b43746b062f1893c5495514"), looks := false }, kinds := [], alts := [], laidByText := true, laidKinds := [.data, .pinned], laidTests := true, laidLooks := .later }
def FnExactTurnsToMonotoneUptoCardSaid : Prop := Claim7.holds Tryd.pinned (.plain (OpenSpec.upto fnExactTurnsToMonotoneSpec)) fnExactTurnsToMonotoneUptoCard

/-- THE SECOND FORM's CARD OF 'laws.FnExactJoinPoints'. -/
def fnExactJoinPointsUptoCard : Claim7 := { stood := { row := fnExactJoinPointsUptoRow, standIns := [], harness := (true, "03439703c3e9b5ab584b7797b2587ca4a3b3dfd48b43746b062f1893c5495514"), looks := false }, kinds := [], alts := [], laidByText := true, laidKinds := [.data, .pinned], laidTests := true, laidLooks := .later }
def FnExactJoinPointsUptoCardSaid : Prop := Claim7.holds Tryd.pinned (.plain (OpenSpec.upto fnExactJoinPointsSpec)) fnExactJoinPointsUptoCard
end Rows
end Go.Proofs.YtkkacglcjfgbiaaDoor
