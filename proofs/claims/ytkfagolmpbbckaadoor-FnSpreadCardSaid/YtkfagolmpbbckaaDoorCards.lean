/-
  DERIVED. GIVEN WITH THE SEED: THE CARDS: each row of YtkfagolmpbbckaaDoorRows.lean that lists a variable, with what it lists TIED to the program's text (the seventh form; the later family's looks); each row that meets fmt, with fmt's text TOLD by the authors' own Lean function (tested against real Go, not proved from fmt's source: count such statements apart). THE CARD IS WHAT COUNTS. Prove the row's statement (the work); the ties are given (YtkfagolmpbbckaaDoorTie.lean); close each card by the builder's one call (the guide's Derived/Test/ToyasCard.lean, 'card_holds'). Laid BY PROGRAM, IN A SANDBOX (cutbox-door.mjs). By AI agents, Wed Nov 11 2026. No macro, syntax, notation, axiom, sorry.
-/
import Derived.Test.YtkfagolmpbbckaaDoorRows
import GoSem.ClaimSeven
namespace Go.Proofs.YtkfagolmpbbckaaDoor
namespace Rows

/-- THE TIED CARD OF 'laws.FnJoin'. -/
def fnJoinCard : Claim7 := { stood := { row := fnJoinRow, standIns := [], harness := (true, "eaefda5b29f19ca5ae6132fc0f5497896c84600a00cf5b32567f710f5edac749"), looks := false }, kinds := [], alts := [], laidByText := true, laidKinds := [.data, .pinned], laidTests := true, laidLooks := .later }
def FnJoinCardSaid : Prop := Claim7.holds Tryd.pinned (.plain (OpenSpec.ofChange fnJoinSpec)) fnJoinCard

/-- THE TIED CARD OF 'laws.FnFall'. -/
def fnFallCard : Claim7 := { stood := { row := fnFallRow, standIns := [], harness := (true, "eaefda5b29f19ca5ae6132fc0f5497896c84600a00cf5b32567f710f5edac749"), looks := false }, kinds := [], alts := [], laidByText := true, laidKinds := [.data, .pinned], laidTests := true, laidLooks := .later }
def FnFallCardSaid : Prop := Claim7.holds Tryd.pinned (.plain (OpenSpec.ofChange fnFallSpec)) fnFallCard

/-- THE TIED CARD OF 'laws.FnLeast'. -/
def fnLeastCard : Claim7 := { stood := { row := fnLeastRow, standIns := [], harness := (true, "eaefda5b29f19ca5ae6132fc0f5497896c84600a00cf5b32567f710f5edac749"), looks := false }, kinds := [], alts := [], laidByText := true, laidKinds := [.data, .pinned], laidTests := true, laidLooks := .later }
def FnLeastCardSaid : Prop := Claim7.holds Tryd.pinned (.plain (OpenSpec.ofChange fnLeastSpec)) fnLeastCard

/-- THE TIED CARD OF 'laws.FnRise'. -/
def fnRiseCard : Claim7 := { stood := { row := fnRiseRow, standIns := [], harness := (true, "eaefda5b29f19ca5ae6132fc0f5497896c84600a00cf5b32567f710f5edac749"), looks := false }, kinds := [], alts := [], laidByText := true, laidKinds := [.data, .pinned], laidTests := true, laidLooks := .later }
def FnRiseCardSaid : Prop := Claim7.holds Tryd.pinned (.plain (OpenSpec.ofChange fnRiseSpec)) fnRiseCard

/-- THE TIED CARD OF 'laws.FnArrows'. -/
def fnArrowsCard : Claim7 := { stood := { row := fnArrowsRow, standIns := [], harness := (true, "eaefda5b29f19ca5ae6132fc0f5497896c84600a00cf5b32567f710f5edac749"), looks := false }, kinds := [], alts := [], laidByText := true, laidKinds := [.data, .data, .data, .data, .pinned], laidTests := true, laidLooks := .later }
def FnArrowsCardSaid : Prop := Claim7.holds Tryd.pinned (.plain (OpenSpec.ofChange fnArrowsSpec)) fnArrowsCard

/-- THE TIED CARD OF 'laws.FnSpread'. -/
def fnSpreadCard : Claim7 := { stood := { row := fnSpreadRow, standIns := [], harness := (true, "eaefda5b29f19ca5ae6132fc0f5497896c84600a00cf5b32567f710f5edac749"), looks := false }, kinds := [], alts := [], laidByText := true, laidKinds := [.data, .pinned], laidTests := true, laidLooks := .later }
def FnSpreadCardSaid : Prop := Claim7.holds Tryd.pinned (.plain (OpenSpec.ofChange fnSpreadSpec)) fnSpreadCard

/-- THE TIED CARD OF 'laws.FnExactPointsByReducing'. -/
def fnExactPointsByReducingCard : Claim7 := { stood := { row := fnExactPointsByReducingRow, standIns := [], harness := (true, "eaefda5b29f19ca5ae6132fc0f5497896c84600a00cf5b32567f710f5edac749"), looks := false }, kinds := [], alts := [], laidByText := true, laidKinds := [.data, .pinned], laidTests := true, laidLooks := .later }
def FnExactPointsByReducingCardSaid : Prop := Claim7.holds Tryd.pinned (.plain (OpenSpec.ofChange fnExactPointsByReducingSpec)) fnExactPointsByReducingCard

/-- THE TIED CARD OF 'laws.FnExactCircuitsOf'. -/
def fnExactCircuitsOfCard : Claim7 := { stood := { row := fnExactCircuitsOfRow, standIns := [], harness := (true, "eaefda5b29f19ca5ae6132fc0f5497896c84600a00cf5b32567f710f5edac749"), looks := false }, kinds := [], alts := [], laidByText := true, laidKinds := [.data, .data, .data, .data, .pinned], laidTests := true, laidLooks := .later }
def FnExactCircuitsOfCardSaid : Prop := Claim7.holds Tryd.pinned (.plain (OpenSpec.ofChange fnExactCircuitsOfSpec)) fnExactCircuitsOfCard

/-- THE SECOND FORM's CARD OF 'laws.FnJoin'. -/
def fnJoinUptoCard : Claim7 := { stood := { row := fnJoinUptoRow, standIns := [], harness := (true, "eaefda5b29f19ca5ae6132fc0f5497896c84600a00cf5b32567f710f5edac749"), looks := false }, kinds := [], alts := [], laidByText := true, laidKinds := [.data, .pinned], laidTests := true, laidLooks := .later }
def FnJoinUptoCardSaid : Prop := Claim7.holds Tryd.pinned (.plain (OpenSpec.upto fnJoinSpec)) fnJoinUptoCard

/-- THE SECOND FORM's CARD OF 'laws.FnFall'. -/
def fnFallUptoCard : Claim7 := { stood := { row := fnFallUptoRow, standIns := [], harness := (true, "eaefda5b29f19ca5ae6132fc0f5497896c84600a00cf5b32567f710f5edac749"), looks := false }, kinds := [], alts := [], laidByText := true, laidKinds := [.data, .pinned], laidTests := true, laidLooks := .later }
def FnFallUptoCardSaid : Prop := Claim7.holds Tryd.pinned (.plain (OpenSpec.upto fnFallSpec)) fnFallUptoCard

/-- THE SECOND FORM's CARD OF 'laws.FnLeast'. -/
def fnLeastUptoCard : Claim7 := { stood := { row := fnLeastUptoRow, standIns := [], harness := (true, "eaefda5b29f19ca5ae6132fc0f5497896c84600a00cf5b32567f710f5edac749"), looks := false }, kinds := [], alts := [], laidByText := true, laidKinds := [.data, .pinned], laidTests := true, laidLooks := .later }
def FnLeastUptoCardSaid : Prop := Claim7.holds Tryd.pinned (.plain (OpenSpec.upto fnLeastSpec)) fnLeastUptoCard

/-- THE SECOND FORM's CARD OF 'laws.FnRise'. -/
def fnRiseUptoCard : Claim7 := { stood := { row := fnRiseUptoRow, standIns := [], harness := (true, "eaefda5b29f19ca5ae6132fc0f5497896c84600a00cf5b32567f710f5edac749"), looks := false }, kinds := [], alts := [], laidByText := true, laidKinds := [.data, .pinned], laidTests := true, laidLooks := .later }
def FnRiseUptoCardSaid : Prop := Claim7.holds Tryd.pinned (.plain (OpenSpec.upto fnRiseSpec)) fnRiseUptoCard

/-- THE SECOND FORM's CARD OF 'laws.FnArrows'. -/
def fnArrowsUptoCard : Claim7 := { stood := { row := fnArrowsUptoRow, standIns := [], harness := (true, "eaefda5b29f19ca5ae6132fc0f5497896c84600a00cf5b32567f710f5edac749"), looks := false }, kinds := [], alts := [], laidByText := true, laidKinds := [.data, .data, .data, .data, .pinned], laidTests := true, laidLooks := .later }
def FnArrowsUptoCardSaid : Prop := Claim7.holds Tryd.pinned (.plain (OpenSpec.upto fnArrowsSpec)) fnArrowsUptoCard

/-- THE SECOND FORM's CARD OF 'laws.FnSpread'. -/
def fnSpreadUptoCard : Claim7 := { stood := { row := fnSpreadUptoRow, standIns := [], harness := (true, "eaefda5b29f19ca5ae6132fc0f5497896c84600a00cf5b32567f710f5edac749"), looks := false }, kinds := [], alts := [], laidByText := true, laidKinds := [.data, .pinned], laidTests := true, laidLooks := .later }
def FnSpreadUptoCardSaid : Prop := Claim7.holds Tryd.pinned (.plain (OpenSpec.upto fnSpreadSpec)) fnSpreadUptoCard

/-- THE SECOND FORM's CARD OF 'laws.FnExactPointsByReducing'. -/
def fnExactPointsByReducingUptoCard : Claim7 := { stood := { row := fnExactPointsByReducingUptoRow, standIns := [], harness := (true, "eaefda5b29f19ca5ae6132fc0f5497896c84600a00cf5b32567f710f5edac749"), looks := false }, kinds := [], alts := [], laidByText := true, laidKinds := [.data, .pinned], laidTests := true, laidLooks := .later }
def FnExactPointsByReducingUptoCardSaid : Prop := Claim7.holds Tryd.pinned (.plain (OpenSpec.upto fnExactPointsByReducingSpec)) fnExactPointsByReducingUptoCard

/-- THE SECOND FORM's CARD OF 'laws.FnExactCircuitsOf'. -/
def fnExactCircuitsOfUptoCard : Claim7 := { stood := { row := fnExactCircuitsOfUptoRow, standIns := [], harness := (true, "eaefda5b29f19ca5ae6132fc0f5497896c84600a00cf5b32567f710f5edac749"), looks := false }, kinds := [], alts := [], laidByText := true, laidKinds := [.data, .data, .data, .data, .pinned], laidTests := true, laidLooks := .later }
def FnExactCircuitsOfUptoCardSaid : Prop := Claim7.holds Tryd.pinned (.plain (OpenSpec.upto fnExactCircuitsOfSpec)) fnExactCircuitsOfUptoCard
end Rows
end Go.Proofs.YtkfagolmpbbckaaDoor
