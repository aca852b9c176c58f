/-
  DERIVED. GIVEN WITH THE SEED: THE CARDS: each row of YtnpaelmmiocbaaaDoorRows.lean that lists a variable, with what it lists TIED to the program's text (the seventh form; the later family's looks); each row that meets fmt, with fmt's text TOLD by the authors' own Lean function (tested against real Go, not proved from fmt's source: count such statements apart). THE CARD IS WHAT COUNTS. Prove the row's statement (the work); the ties are given (YtnpaelmmiocbaaaDoorTie.lean); close each card by the builder's one call (the guide's Derived/Test/ToyasCard.lean, 'card_holds'). Laid BY PROGRAM, IN A SANDBOX (cutbox-door.mjs). By AI agents, Wed Nov 11 2026. No macro, syntax, notation, axiom, sorry.
-/
import Derived.Test.YtnpaelmmiocbaaaDoorRows
import GoSem.ClaimSeven
namespace Go.Proofs.YtnpaelmmiocbaaaDoor
namespace Rows

/-- THE TIED CARD OF 'laws.FnExactIsFalling'. -/
def fnExactIsFallingCard : Claim7 := { stood := { row := fnExactIsFallingRow, standIns := [], harness := (true, "0775f3c4e49a7be6a3ce19fd99cfe17c7fdfc5cb332eee0fe38eaca4b9ce5d21"), looks := false }, kinds := [], alts := [], laidByText := true, laidKinds := [.data, .pinned], laidTests := true, laidLooks := .later }
def FnExactIsFallingCardSaid : Prop := Claim7.holds Tryd.pinned (.plain (OpenSpec.ofChange fnExactIsFallingSpec)) fnExactIsFallingCard

/-- THE TIED CARD OF 'laws.FnExactIsRising'. -/
def fnExactIsRisingCard : Claim7 := { stood := { row := fnExactIsRisingRow, standIns := [], harness := (true, "0775f3c4e49a7be6a3ce19fd99cfe17c7fdfc5cb332eee0fe38eaca4b9ce5d21"), looks := false }, kinds := [], alts := [], laidByText := true, laidKinds := [.data, .pinned], laidTests := true, laidLooks := .later }
def FnExactIsRisingCardSaid : Prop := Claim7.holds Tryd.pinned (.plain (OpenSpec.ofChange fnExactIsRisingSpec)) fnExactIsRisingCard

/-- THE TIED CARD OF 'laws.FnExactInfluenceOf'. -/
def fnExactInfluenceOfCard : Claim7 := { stood := { row := fnExactInfluenceOfRow, standIns := [], harness := (true, "0775f3c4e49a7be6a3ce19fd99cfe17c7fdfc5cb332eee0fe38eaca4b9ce5d21"), looks := false }, kinds := [], alts := [], laidByText := true, laidKinds := [.data, .pinned], laidTests := true, laidLooks := .later }
def FnExactInfluenceOfCardSaid : Prop := Claim7.holds Tryd.pinned (.plain (OpenSpec.ofChange fnExactInfluenceOfSpec)) fnExactInfluenceOfCard

/-- THE TIED CARD OF 'laws.FnExactIsMonotone'. -/
def fnExactIsMonotoneCard : Claim7 := { stood := { row := fnExactIsMonotoneRow, standIns := [], harness := (true, "0775f3c4e49a7be6a3ce19fd99cfe17c7fdfc5cb332eee0fe38eaca4b9ce5d21"), looks := false }, kinds := [], alts := [], laidByText := true, laidKinds := [.data, .pinned], laidTests := true, laidLooks := .later }
def FnExactIsMonotoneCardSaid : Prop := Claim7.holds Tryd.pinned (.plain (OpenSpec.ofChange fnExactIsMonotoneSpec)) fnExactIsMonotoneCard

/-- THE SECOND FORM's CARD OF 'laws.FnExactIsFalling'. -/
def fnExactIsFallingUptoCard : Claim7 := { stood := { row := fnExactIsFallingUptoRow, standIns := [], harness := (true, "0775f3c4e49a7be6a3ce19fd99cfe17c7fdfc5cb332eee0fe38eaca4b9ce5d21"), looks := false }, kinds := [], alts := [], laidByText := true, laidKinds := [.data, .pinned], laidTests := true, laidLooks := .later }
def FnExactIsFallingUptoCardSaid : Prop := Claim7.holds Tryd.pinned (.plain (OpenSpec.upto fnExactIsFallingSpec)) fnExactIsFallingUptoCard

/-- THE SECOND FORM's CARD OF 'laws.FnExactIsRising'. -/
def fnExactIsRisingUptoCard : Claim7 := { stood := { row := fnExactIsRisingUptoRow, standIns := [], harness := (true, "0775f3c4e49a7be6a3ce19fd99cfe17c7fdfc5cb332eee0fe38eaca4b9ce5d21"), looks := false }, kinds := [], alts := [], laidByText := true, laidKinds := [.data, .pinned], laidTests := true, laidLooks := .later }
def FnExactIsRisingUptoCardSaid : Prop := Claim7.holds Tryd.pinned (.plain (OpenSpec.upto fnExactIsRisingSpec)) fnExactIsRisingUptoCard

/-- THE SECOND FORM's CARD OF 'laws.FnExactInfluenceOf'. -/
def fnExactInfluenceOfUptoCard : Claim7 := { stood := { row := fnExactInfluenceOfUptoRow, standIns := [], harness := (true, "0775f3c4e49a7be6a3ce19fd99cfe17c7fdfc5cb332eee0fe38eaca4b9ce5d21"), looks := false }, kinds := [], alts := [], laidByText := true, laidKinds := [.data, .pinned], laidTests := true, laidLooks := .later }
def FnExactInfluenceOfUptoCardSaid : Prop := Claim7.holds Tryd.pinned (.plain (OpenSpec.upto fnExactInfluenceOfSpec)) fnExactInfluenceOfUptoCard

/-- THE SECOND FORM's CARD OF 'laws.FnExactIsMonotone'. -/
def fnExactIsMonotoneUptoCard : Claim7 := { stood := { row := fnExactIsMonotoneUptoRow, standIns := [], harness := (true, "0775f3c4e49a7be6a3ce19fd99cfe17c7fdfc5cb332eee0fe38eaca4b9ce5d21"), looks := false }, kinds := [], alts := [], laidByText := true, laidKinds := [.data, .pinned], laidTests := true, laidLooks := .later }
def FnExactIsMonotoneUptoCardSaid : Prop := Claim7.holds Tryd.pinned (.plain (OpenSpec.upto fnExactIsMonotoneSpec)) fnExactIsMonotoneUptoCard
end Rows
end Go.Proofs.YtnpaelmmiocbaaaDoor
