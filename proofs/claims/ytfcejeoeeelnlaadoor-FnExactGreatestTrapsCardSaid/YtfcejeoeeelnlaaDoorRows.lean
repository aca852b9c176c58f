/-
  NARROWER THAN 'FOR EVERY INPUT', by the rows' own cells (each row's printed sentence says how): FnExactIsFlowing: laid · FnExactTurnsToMonotone: laid · FnExactHasCircuit: laid · FnExactTrapOf: laid · FnExactLiftPoint: laid · FnExactRemoveSwitch: laid · FnExactLeastTraps: laid · FnExactGreatestTraps: laid · FnExactBreakingSet: laid · FnExactReduceNetwork: laid · FnExactAttractorsIn: laid · FnExactArrowsOf: laid.
  DERIVED. THE GIVEN ROWS OF THIS SEAT. 12 by the template 'for every input the law returns true; each argument reads behind the call as it read before'; 0 by the template 'total and deterministic' (their statements: YtfcejeoeeelnlaaDoorTotals.lean).
  GIVEN WITH THE SEED: the statements are not yours to turn. If you find one false, say at which input.
  Laid BY PROGRAM, IN A SANDBOX (cutbox-rows.mjs): the forced cells as the released guide's own fill.sh prints them over the translation dbc534d200d97488… (all of the seat's roots in one cut). By AI agents, Wed Nov 11 2026. No macro, syntax, notation, axiom, sorry.
-/
import Derived.Test.YtfcejeoeeelnlaaDoorChecked
import GoSem.PinnedTables
import GoSem.Claim
import GoSem.ClaimJoined
import GoSem.ClaimMapViews
import Derived.JoinedTies
import Derived.KernelRfl
namespace Go.Proofs.YtfcejeoeeelnlaaDoor
/- THE CELL 'sum', in the pinned program and in every row, IS THE sha256 OF THE DUMP (.gsa) THAT YtfcejeoeeelnlaaDoorProg.lean LOADS. Nothing in Lean hashes anything: it is a label: what it is worth is what the hold of that sum in a sandbox is worth. -/
noncomputable def Tryd.pinned : Pinned := { name := "ytfcejeoeeelnlaadoor", sum := "dbc534d200d974881d1d3ef60720caf1749838e6bfb927ef2250154a07e8c279", checked := Tryd.checked }
namespace Rows
def none {H : Type} : Left H := { results := [], args := [] }

/- WHAT THE LISTED PACKAGE-LEVEL VARIABLES READ AS WHEN THE CALL BEGINS. Each datum BY PROGRAM (the guide's laid-datum.mjs) off the statement by which the dump's own 'gosem.cut.vars' lays the variable. In a bare row this is a premise. The card (YtfcejeoeeelnlaaDoorCards.lean) ties it to the program's text. -/
def laid_unicode_utf8_acceptRanges {H : Type} : DataW H := .agg [.agg [.lit (.int .u8 128), .lit (.int .u8 191)], .agg [.lit (.int .u8 160), .lit (.int .u8 191)], .agg [.lit (.int .u8 128), .lit (.int .u8 159)], .agg [.lit (.int .u8 144), .lit (.int .u8 191)], .agg [.lit (.int .u8 128), .lit (.int .u8 143)], .agg [.lit (.int .u8 0), .lit (.int .u8 0)], .agg [.lit (.int .u8 0), .lit (.int .u8 0)], .agg [.lit (.int .u8 0), .lit (.int .u8 0)], .agg [.lit (.int .u8 0), .lit (.int .u8 0)], .agg [.lit (.int .u8 0), .lit (.int .u8 0)], .agg [.lit (.int .u8 0), .lit (.int .u8 0)], .agg [.lit (.int .u8 0), .lit (.int .u8 0)], .agg [.lit (.int .u8 0), .lit (.int .u8 0)], .agg [.lit (.int .u8 0), .lit (.int .u8 0)], .agg [.lit (.int .u8 0), .lit (.int .u8 0)], .agg [.lit (.int .u8 0), .lit (.int .u8 0)]]
/-- One of Go's own tables, pinned by name: the form's constant. -/
def laid_unicode_utf8_first : DataW Unit := Go.Pinned.utf8First
def laid_math_bits_deBruijn32tab {H : Type} : DataW H := .agg [.lit (.int .u8 0), .lit (.int .u8 1), .lit (.int .u8 28), .lit (.int .u8 2), .lit (.int .u8 29), .lit (.int .u8 14), .lit (.int .u8 24), .lit (.int .u8 3), .lit (.int .u8 30), .lit (.int .u8 22), .lit (.int .u8 20), .lit (.int .u8 15), .lit (.int .u8 25), .lit (.int .u8 17), .lit (.int .u8 4), .lit (.int .u8 8), .lit (.int .u8 31), .lit (.int .u8 27), .lit (.int .u8 13), .lit (.int .u8 23), .lit (.int .u8 21), .lit (.int .u8 19), .lit (.int .u8 16), .lit (.int .u8 7), .lit (.int .u8 26), .lit (.int .u8 12), .lit (.int .u8 18), .lit (.int .u8 6), .lit (.int .u8 11), .lit (.int .u8 5), .lit (.int .u8 10), .lit (.int .u8 9)]
def laid_math_bits_deBruijn64tab {H : Type} : DataW H := .agg [.lit (.int .u8 0), .lit (.int .u8 1), .lit (.int .u8 56), .lit (.int .u8 2), .lit (.int .u8 57), .lit (.int .u8 49), .lit (.int .u8 28), .lit (.int .u8 3), .lit (.int .u8 61), .lit (.int .u8 58), .lit (.int .u8 42), .lit (.int .u8 50), .lit (.int .u8 38), .lit (.int .u8 29), .lit (.int .u8 17), .lit (.int .u8 4), .lit (.int .u8 62), .lit (.int .u8 47), .lit (.int .u8 59), .lit (.int .u8 36), .lit (.int .u8 45), .lit (.int .u8 43), .lit (.int .u8 51), .lit (.int .u8 22), .lit (.int .u8 53), .lit (.int .u8 39), .lit (.int .u8 33), .lit (.int .u8 30), .lit (.int .u8 24), .lit (.int .u8 18), .lit (.int .u8 12), .lit (.int .u8 5), .lit (.int .u8 63), .lit (.int .u8 55), .lit (.int .u8 48), .lit (.int .u8 27), .lit (.int .u8 60), .lit (.int .u8 41), .lit (.int .u8 37), .lit (.int .u8 16), .lit (.int .u8 46), .lit (.int .u8 35), .lit (.int .u8 44), .lit (.int .u8 21), .lit (.int .u8 52), .lit (.int .u8 32), .lit (.int .u8 23), .lit (.int .u8 11), .lit (.int .u8 54), .lit (.int .u8 26), .lit (.int .u8 40), .lit (.int .u8 15), .lit (.int .u8 34), .lit (.int .u8 20), .lit (.int .u8 31), .lit (.int .u8 10), .lit (.int .u8 25), .lit (.int .u8 14), .lit (.int .u8 19), .lit (.int .u8 9), .lit (.int .u8 13), .lit (.int .u8 8), .lit (.int .u8 7), .lit (.int .u8 6)]
def laid_internal_strconv_uint64pow10 {H : Type} : DataW H := .agg [.lit (.int .u64 1), .lit (.int .u64 10), .lit (.int .u64 100), .lit (.int .u64 1000), .lit (.int .u64 10000), .lit (.int .u64 100000), .lit (.int .u64 1000000), .lit (.int .u64 10000000), .lit (.int .u64 100000000), .lit (.int .u64 1000000000), .lit (.int .u64 10000000000), .lit (.int .u64 100000000000), .lit (.int .u64 1000000000000), .lit (.int .u64 10000000000000), .lit (.int .u64 100000000000000), .lit (.int .u64 1000000000000000), .lit (.int .u64 10000000000000000), .lit (.int .u64 100000000000000000), .lit (.int .u64 1000000000000000000), .lit (.int .u64 10000000000000000000)]

/-- 'laws.FnExactIsFlowing': WHATEVER THE INPUT: true; the input reads as it did. -/
def fnExactIsFlowingSpec : ChangeSpec := { name := "fnExactIsFlowing", fn := fun _ => fun
  | [d] => { results := [.lit (.bool true)], args := [d] }
  | _ => none }
def fnExactIsFlowingRow : OpenClaim := { program := "ytfcejeoeeelnlaadoor", sum := "dbc534d200d974881d1d3ef60720caf1749838e6bfb927ef2250154a07e8c279", func := "loop.example/switchnetworks/laws.FnExactIsFlowing", spec := "fnExactIsFlowing", inPlace := ["internal/bytealg.CountString", "internal/bytealg.IndexByteString", "internal/bytealg.IndexString"], unfollowed := true, recurses := true, named := ["unicode/utf8.first", "unicode/utf8.acceptRanges", "internal/bytealg.MaxLen"], apart := false, laid := [("unicode/utf8.acceptRanges", laid_unicode_utf8_acceptRanges), ("unicode/utf8.first", laid_unicode_utf8_first)] }
def FnExactIsFlowingSaid : Prop := fnExactIsFlowingRow.holds Tryd.pinned (OpenSpec.ofChange fnExactIsFlowingSpec)

/-- ITS FALSE NEIGHBOUR: 'it returns false'. Refute it at one input. -/
def fnExactIsFlowingWrong : ChangeSpec := { name := "fnExactIsFlowing", fn := fun _ => fun
  | [d] => { results := [.lit (.bool false)], args := [d] }
  | _ => none }
def FnExactIsFlowingWrongFalsely : Prop := fnExactIsFlowingRow.holds Tryd.pinned (OpenSpec.ofChange fnExactIsFlowingWrong)

/-- 'laws.FnExactTurnsToMonotone': WHATEVER THE INPUT: true; the input reads as it did. -/
def fnExactTurnsToMonotoneSpec : ChangeSpec := { name := "fnExactTurnsToMonotone", fn := fun _ => fun
  | [d] => { results := [.lit (.bool true)], args := [d] }
  | _ => none }
def fnExactTurnsToMonotoneRow : OpenClaim := { program := "ytfcejeoeeelnlaadoor", sum := "dbc534d200d974881d1d3ef60720caf1749838e6bfb927ef2250154a07e8c279", func := "loop.example/switchnetworks/laws.FnExactTurnsToMonotone", spec := "fnExactTurnsToMonotone", inPlace := ["internal/bytealg.CountString", "internal/bytealg.IndexByteString", "internal/bytealg.IndexString"], unfollowed := true, recurses := true, named := ["unicode/utf8.first", "unicode/utf8.acceptRanges", "internal/bytealg.MaxLen"], apart := false, laid := [("unicode/utf8.acceptRanges", laid_unicode_utf8_acceptRanges), ("unicode/utf8.first", laid_unicode_utf8_first)] }
def FnExactTurnsToMonotoneSaid : Prop := fnExactTurnsToMonotoneRow.holds Tryd.pinned (OpenSpec.ofChange fnExactTurnsToMonotoneSpec)

/-- ITS FALSE NEIGHBOUR: 'it returns false'. Refute it at one input. -/
def fnExactTurnsToMonotoneWrong : ChangeSpec := { name := "fnExactTurnsToMonotone", fn := fun _ => fun
  | [d] => { results := [.lit (.bool false)], args := [d] }
  | _ => none }
def FnExactTurnsToMonotoneWrongFalsely : Prop := fnExactTurnsToMonotoneRow.holds Tryd.pinned (OpenSpec.ofChange fnExactTurnsToMonotoneWrong)

/-- 'laws.FnExactHasCircuit': WHATEVER THE INPUT: true; the input reads as it did. -/
def fnExactHasCircuitSpec : ChangeSpec := { name := "fnExactHasCircuit", fn := fun _ => fun
  | [d1, d2] => { results := [.lit (.bool true)], args := [d1, d2] }
  | _ => none }
def fnExactHasCircuitRow : OpenClaim := { program := "ytfcejeoeeelnlaadoor", sum := "dbc534d200d974881d1d3ef60720caf1749838e6bfb927ef2250154a07e8c279", func := "loop.example/switchnetworks/laws.FnExactHasCircuit", spec := "fnExactHasCircuit", inPlace := ["internal/bytealg.CountString", "internal/bytealg.IndexByteString", "internal/bytealg.IndexString"], unfollowed := true, recurses := true, named := ["unicode/utf8.first", "unicode/utf8.acceptRanges", "internal/bytealg.MaxLen"], apart := false, laid := [("unicode/utf8.acceptRanges", laid_unicode_utf8_acceptRanges), ("unicode/utf8.first", laid_unicode_utf8_first)] }
def FnExactHasCircuitSaid : Prop := fnExactHasCircuitRow.holds Tryd.pinned (OpenSpec.ofChange fnExactHasCircuitSpec)

/-- ITS FALSE NEIGHBOUR: 'it returns false'. Refute it at one input. -/
def fnExactHasCircuitWrong : ChangeSpec := { name := "fnExactHasCircuit", fn := fun _ => fun
  | [d1, d2] => { results := [.lit (.bool false)], args := [d1, d2] }
  | _ => none }
def FnExactHasCircuitWrongFalsely : Prop := fnExactHasCircuitRow.holds Tryd.pinned (OpenSpec.ofChange fnExactHasCircuitWrong)

/-- 'laws.FnExactTrapOf': WHATEVER THE INPUT: true; the input reads as it did. -/
def fnExactTrapOfSpec : ChangeSpec := { name := "fnExactTrapOf", fn := fun _ => fun
  | [d1, d2] => { results := [.lit (.bool true)], args := [d1, d2] }
  | _ => none }
def fnExactTrapOfRow : OpenClaim := { program := "ytfcejeoeeelnlaadoor", sum := "dbc534d200d974881d1d3ef60720caf1749838e6bfb927ef2250154a07e8c279", func := "loop.example/switchnetworks/laws.FnExactTrapOf", spec := "fnExactTrapOf", inPlace := ["internal/bytealg.CountString", "internal/bytealg.IndexByteString", "internal/bytealg.IndexString"], unfollowed := true, recurses := true, named := ["unicode/utf8.first", "unicode/utf8.acceptRanges", "internal/bytealg.MaxLen"], apart := false, laid := [("unicode/utf8.acceptRanges", laid_unicode_utf8_acceptRanges), ("unicode/utf8.first", laid_unicode_utf8_first)] }
def FnExactTrapOfSaid : Prop := fnExactTrapOfRow.holds Tryd.pinned (OpenSpec.ofChange fnExactTrapOfSpec)

/-- ITS FALSE NEIGHBOUR: 'it returns false'. Refute it at one input. -/
def fnExactTrapOfWrong : ChangeSpec := { name := "fnExactTrapOf", fn := fun _ => fun
  | [d1, d2] => { results := [.lit (.bool false)], args := [d1, d2] }
  | _ => none }
def FnExactTrapOfWrongFalsely : Prop := fnExactTrapOfRow.holds Tryd.pinned (OpenSpec.ofChange fnExactTrapOfWrong)

/-- 'laws.FnExactLiftPoint': WHATEVER THE INPUT: true; the input reads as it did. -/
def fnExactLiftPointSpec : ChangeSpec := { name := "fnExactLiftPoint", fn := fun _ => fun
  | [d1, d2] => { results := [.lit (.bool true)], args := [d1, d2] }
  | _ => none }
def fnExactLiftPointRow : OpenClaim := { program := "ytfcejeoeeelnlaadoor", sum := "dbc534d200d974881d1d3ef60720caf1749838e6bfb927ef2250154a07e8c279", func := "loop.example/switchnetworks/laws.FnExactLiftPoint", spec := "fnExactLiftPoint", inPlace := ["internal/bytealg.CountString", "internal/bytealg.IndexByteString", "internal/bytealg.IndexString"], unfollowed := true, recurses := true, named := ["unicode/utf8.first", "unicode/utf8.acceptRanges", "internal/bytealg.MaxLen"], apart := false, laid := [("unicode/utf8.acceptRanges", laid_unicode_utf8_acceptRanges), ("unicode/utf8.first", laid_unicode_utf8_first)] }
def FnExactLiftPointSaid : Prop := fnExactLiftPointRow.holds Tryd.pinned (OpenSpec.ofChange fnExactLiftPointSpec)

/-- ITS FALSE NEIGHBOUR: 'it returns false'. Refute it at one input. -/
def fnExactLiftPointWrong : ChangeSpec := { name := "fnExactLiftPoint", fn := fun _ => fun
  | [d1, d2] => { results := [.lit (.bool false)], args := [d1, d2] }
  | _ => none }
def FnExactLiftPointWrongFalsely : Prop := fnExactLiftPointRow.holds Tryd.pinned (OpenSpec.ofChange fnExactLiftPointWrong)

/-- 'laws.FnExactRemoveSwitch': WHATEVER THE INPUT: true; the input reads as it did. -/
def fnExactRemoveSwitchSpec : ChangeSpec := { name := "fnExactRemoveSwitch", fn := fun _ => fun
  | [d1, d2] => { results := [.lit (.bool true)], args := [d1, d2] }
  | _ => none }
def fnExactRemoveSwitchRow : OpenClaim := { program := "ytfcejeoeeelnlaadoor", sum := "dbc534d200d974881d1d3ef60720caf1749838e6bfb927ef2250154a07e8c279", func := "loop.example/switchnetworks/laws.FnExactRemoveSwitch", spec := "fnExactRemoveSwitch", inPlace := ["internal/bytealg.CountString", "internal/bytealg.IndexByteString", "internal/bytealg.IndexString", "internal/abi.NoEscape", "internal/bytealg.MakeNoZero"], unfollowed := true, recurses := true, named := ["unicode/utf8.first", "unicode/utf8.acceptRanges", "internal/bytealg.MaxLen"], apart := false, laid := [("unicode/utf8.acceptRanges", laid_unicode_utf8_acceptRanges), ("unicode/utf8.first", laid_unicode_utf8_first)] }
def FnExactRemoveSwitchSaid : Prop := fnExactRemoveSwitchRow.holds Tryd.pinned (OpenSpec.ofChange fnExactRemoveSwitchSpec)

/-- ITS FALSE NEIGHBOUR: 'it returns false'. Refute it at one input. -/
def fnExactRemoveSwitchWrong : ChangeSpec := { name := "fnExactRemoveSwitch", fn := fun _ => fun
  | [d1, d2] => { results := [.lit (.bool false)], args := [d1, d2] }
  | _ => none }
def FnExactRemoveSwitchWrongFalsely : Prop := fnExactRemoveSwitchRow.holds Tryd.pinned (OpenSpec.ofChange fnExactRemoveSwitchWrong)

/-- 'laws.FnExactLeastTraps': WHATEVER THE INPUT: true; the input reads as it did. -/
def fnExactLeastTrapsSpec : ChangeSpec := { name := "fnExactLeastTraps", fn := fun _ => fun
  | [d] => { results := [.lit (.bool true)], args := [d] }
  | _ => none }
def fnExactLeastTrapsRow : OpenClaim := { program := "ytfcejeoeeelnlaadoor", sum := "dbc534d200d974881d1d3ef60720caf1749838e6bfb927ef2250154a07e8c279", func := "loop.example/switchnetworks/laws.FnExactLeastTraps", spec := "fnExactLeastTraps", inPlace := ["internal/bytealg.CountString", "internal/bytealg.IndexByteString", "internal/bytealg.IndexString"], unfollowed := true, recurses := true, named := ["unicode/utf8.first", "unicode/utf8.acceptRanges", "internal/bytealg.MaxLen"], apart := false, laid := [("unicode/utf8.acceptRanges", laid_unicode_utf8_acceptRanges), ("unicode/utf8.first", laid_unicode_utf8_first)] }
def FnExactLeastTrapsSaid : Prop := fnExactLeastTrapsRow.holds Tryd.pinned (OpenSpec.ofChange fnExactLeastTrapsSpec)

/-- ITS FALSE NEIGHBOUR: 'it returns false'. Refute it at one input. -/
def fnExactLeastTrapsWrong : ChangeSpec := { name := "fnExactLeastTraps", fn := fun _ => fun
  | [d] => { results := [.lit (.bool false)], args := [d] }
  | _ => none }
def FnExactLeastTrapsWrongFalsely : Prop := fnExactLeastTrapsRow.holds Tryd.pinned (OpenSpec.ofChange fnExactLeastTrapsWrong)

/-- 'laws.FnExactGreatestTraps': WHATEVER THE INPUT: true; the input reads as it did. -/
def fnExactGreatestTrapsSpec : ChangeSpec := { name := "fnExactGreatestTraps", fn := fun _ => fun
  | [d] => { results := [.lit (.bool true)], args := [d] }
  | _ => none }
def fnExactGreatestTrapsRow : OpenClaim := { program := "ytfcejeoeeelnlaadoor", sum := "dbc534d200d974881d1d3ef60720caf1749838e6bfb927ef2250154a07e8c279", func := "loop.example/switchnetworks/laws.FnExactGreatestTraps", spec := "fnExactGreatestTraps", inPlace := ["internal/bytealg.CountString", "internal/bytealg.IndexByteString", "internal/bytealg.IndexString"], unfollowed := true, recurses := true, named := ["unicode/utf8.first", "unicode/utf8.acceptRanges", "internal/bytealg.MaxLen"], apart := false, laid := [("unicode/utf8.acceptRanges", laid_unicode_utf8_acceptRanges), ("unicode/utf8.first", laid_unicode_utf8_first)] }
def FnExactGreatestTrapsSaid : Prop := fnExactGreatestTrapsRow.holds Tryd.pinned (OpenSpec.ofChange fnExactGreatestTrapsSpec)

/-- ITS FALSE NEIGHBOUR: 'it returns false'. Refute it at one input. -/
def fnExactGreatestTrapsWrong : ChangeSpec := { name := "fnExactGreatestTraps", fn := fun _ => fun
  | [d] => { results := [.lit (.bool false)], args := [d] }
  | _ => none }
def FnExactGreatestTrapsWrongFalsely : Prop := fnExactGreatestTrapsRow.holds Tryd.pinned (OpenSpec.ofChange fnExactGreatestTrapsWrong)

/-- 'laws.FnExactBreakingSet': WHATEVER THE INPUT: true; the input reads as it did. -/
def fnExactBreakingSetSpec : ChangeSpec := { name := "fnExactBreakingSet", fn := fun _ => fun
  | [d1, d2] => { results := [.lit (.bool true)], args := [d1, d2] }
  | _ => none }
def fnExactBreakingSetRow : OpenClaim := { program := "ytfcejeoeeelnlaadoor", sum := "dbc534d200d974881d1d3ef60720caf1749838e6bfb927ef2250154a07e8c279", func := "loop.example/switchnetworks/laws.FnExactBreakingSet", spec := "fnExactBreakingSet", inPlace := ["internal/bytealg.CountString", "internal/bytealg.IndexByteString", "internal/bytealg.IndexString"], unfollowed := true, recurses := true, named := ["unicode/utf8.first", "unicode/utf8.acceptRanges", "internal/bytealg.MaxLen"], apart := false, laid := [("unicode/utf8.acceptRanges", laid_unicode_utf8_acceptRanges), ("unicode/utf8.first", laid_unicode_utf8_first)] }
def FnExactBreakingSetSaid : Prop := fnExactBreakingSetRow.holds Tryd.pinned (OpenSpec.ofChange fnExactBreakingSetSpec)

/-- ITS FALSE NEIGHBOUR: 'it returns false'. Refute it at one input. -/
def fnExactBreakingSetWrong : ChangeSpec := { name := "fnExactBreakingSet", fn := fun _ => fun
  | [d1, d2] => { results := [.lit (.bool false)], args := [d1, d2] }
  | _ => none }
def FnExactBreakingSetWrongFalsely : Prop := fnExactBreakingSetRow.holds Tryd.pinned (OpenSpec.ofChange fnExactBreakingSetWrong)

/-- 'laws.FnExactReduceNetwork': WHATEVER THE INPUT: true; the input reads as it did. -/
def fnExactReduceNetworkSpec : ChangeSpec := { name := "fnExactReduceNetwork", fn := fun _ => fun
  | [d] => { results := [.lit (.bool true)], args := [d] }
  | _ => none }
def fnExactReduceNetworkRow : OpenClaim := { program := "ytfcejeoeeelnlaadoor", sum := "dbc534d200d974881d1d3ef60720caf1749838e6bfb927ef2250154a07e8c279", func := "loop.example/switchnetworks/laws.FnExactReduceNetwork", spec := "fnExactReduceNetwork", inPlace := ["internal/bytealg.CountString", "internal/bytealg.IndexByteString", "internal/bytealg.IndexString", "internal/abi.NoEscape", "internal/bytealg.MakeNoZero"], unfollowed := true, recurses := true, named := ["unicode/utf8.first", "unicode/utf8.acceptRanges", "internal/bytealg.MaxLen"], apart := false, laid := [("unicode/utf8.acceptRanges", laid_unicode_utf8_acceptRanges), ("unicode/utf8.first", laid_unicode_utf8_first)] }
def FnExactReduceNetworkSaid : Prop := fnExactReduceNetworkRow.holds Tryd.pinned (OpenSpec.ofChange fnExactReduceNetworkSpec)

/-- ITS FALSE NEIGHBOUR: 'it returns false'. Refute it at one input. -/
def fnExactReduceNetworkWrong : ChangeSpec := { name := "fnExactReduceNetwork", fn := fun _ => fun
  | [d] => { results := [.lit (.bool false)], args := [d] }
  | _ => none }
def FnExactReduceNetworkWrongFalsely : Prop := fnExactReduceNetworkRow.holds Tryd.pinned (OpenSpec.ofChange fnExactReduceNetworkWrong)

/-- 'laws.FnExactAttractorsIn': WHATEVER THE INPUT: true; the input reads as it did. -/
def fnExactAttractorsInSpec : ChangeSpec := { name := "fnExactAttractorsIn", fn := fun _ => fun
  | [d1, d2] => { results := [.lit (.bool true)], args := [d1, d2] }
  | _ => none }
def fnExactAttractorsInRow : OpenClaim := { program := "ytfcejeoeeelnlaadoor", sum := "dbc534d200d974881d1d3ef60720caf1749838e6bfb927ef2250154a07e8c279", func := "loop.example/switchnetworks/laws.FnExactAttractorsIn", spec := "fnExactAttractorsIn", inPlace := ["internal/bytealg.CountString", "internal/bytealg.IndexByteString", "internal/bytealg.IndexString"], unfollowed := true, recurses := true, named := ["unicode/utf8.first", "unicode/utf8.acceptRanges", "internal/bytealg.MaxLen"], apart := false, laid := [("unicode/utf8.acceptRanges", laid_unicode_utf8_acceptRanges), ("unicode/utf8.first", laid_unicode_utf8_first)] }
def FnExactAttractorsInSaid : Prop := fnExactAttractorsInRow.holds Tryd.pinned (OpenSpec.ofChange fnExactAttractorsInSpec)

/-- ITS FALSE NEIGHBOUR: 'it returns false'. Refute it at one input. -/
def fnExactAttractorsInWrong : ChangeSpec := { name := "fnExactAttractorsIn", fn := fun _ => fun
  | [d1, d2] => { results := [.lit (.bool false)], args := [d1, d2] }
  | _ => none }
def FnExactAttractorsInWrongFalsely : Prop := fnExactAttractorsInRow.holds Tryd.pinned (OpenSpec.ofChange fnExactAttractorsInWrong)

/-- 'laws.FnExactArrowsOf': WHATEVER THE INPUT: true; the input reads as it did. -/
def fnExactArrowsOfSpec : ChangeSpec := { name := "fnExactArrowsOf", fn := fun _ => fun
  | [d] => { results := [.lit (.bool true)], args := [d] }
  | _ => none }
def fnExactArrowsOfRow : OpenClaim := { program := "ytfcejeoeeelnlaadoor", sum := "dbc534d200d974881d1d3ef60720caf1749838e6bfb927ef2250154a07e8c279", func := "loop.example/switchnetworks/laws.FnExactArrowsOf", spec := "fnExactArrowsOf", inPlace := ["internal/bytealg.CountString", "internal/bytealg.IndexByteString", "internal/bytealg.IndexString"], unfollowed := true, recurses := true, named := ["unicode/utf8.first", "unicode/utf8.acceptRanges", "internal/bytealg.MaxLen", "internal/strconv.uint64pow10", "math/bits.deBruijn32tab", "math/bits.deBruijn64tab"], apart := false, laid := [("math/bits.deBruijn32tab", laid_math_bits_deBruijn32tab), ("math/bits.deBruijn64tab", laid_math_bits_deBruijn64tab), ("internal/strconv.uint64pow10", laid_internal_strconv_uint64pow10), ("unicode/utf8.acceptRanges", laid_unicode_utf8_acceptRanges), ("unicode/utf8.first", laid_unicode_utf8_first)] }
def FnExactArrowsOfSaid : Prop := fnExactArrowsOfRow.holds Tryd.pinned (OpenSpec.ofChange fnExactArrowsOfSpec)

/-- ITS FALSE NEIGHBOUR: 'it returns false'. Refute it at one input. -/
def fnExactArrowsOfWrong : ChangeSpec := { name := "fnExactArrowsOf", fn := fun _ => fun
  | [d] => { results := [.lit (.bool false)], args := [d] }
  | _ => none }
def FnExactArrowsOfWrongFalsely : Prop := fnExactArrowsOfRow.holds Tryd.pinned (OpenSpec.ofChange fnExactArrowsOfWrong)

/- THE SECOND FORM. 'bulk': how many values and letters a reading holds, each counted each time it is reached (what is shared counts as often as it is met; a slice's spare places count too). A statement '..UptoSaid' is the law's where the arguments, and the package variables that the reading takes, are together of bulk at most 1048576: NARROWER than '..Said'. Prove '..Said' where nothing that the law and all that it calls make is longer than what came in: it says more and counts as full. Else prove '..UptoSaid'. A law counts once. -/
mutual
def uptoBulk {H : Type} : DataW H → Nat
  | .lit (.string bytes) => bytes.length + 1
  | .lit _ => 1
  | .nil => 1
  | .ptr d => uptoBulk d + 1
  | .slice elems spare => uptoBulkAll elems + uptoBulkAll spare + 1
  | .agg parts => uptoBulkAll parts + 1
  | .iface _ d => uptoBulk d + 1
  | .map entries => uptoBulkEntries entries + 1
  | .held _ => 1
def uptoBulkAll {H : Type} : List (DataW H) → Nat
  | [] => 0
  | d :: r => uptoBulk d + uptoBulkAll r
def uptoBulkEntries {H : Type} : List (Lit × DataW H) → Nat
  | [] => 0
  | x :: r => uptoBulkEntry x + uptoBulkEntries r
def uptoBulkEntry {H : Type} : Lit × DataW H → Nat
  | (.string bytes, d) => bytes.length + uptoBulk d + 1
  | (_, d) => uptoBulk d + 1
 end
def uptoSmall : (H : Type) → List (DataW H) → Bool := fun _ ds => decide (uptoBulkAll ds ≤ 1048576)
def OpenSpec.upto (s : _root_.Go.ChangeSpec) : _root_.Go.OpenSpec := { _root_.Go.OpenSpec.ofChange s with cond := some uptoSmall }

/-- 'laws.FnExactIsFlowing', WHERE WHAT IT READS IS OF BULK AT MOST 1048576: true; the input reads as it did. -/
def fnExactIsFlowingUptoRow : OpenClaim := { program := "ytfcejeoeeelnlaadoor", sum := "dbc534d200d974881d1d3ef60720caf1749838e6bfb927ef2250154a07e8c279", func := "loop.example/switchnetworks/laws.FnExactIsFlowing", spec := "fnExactIsFlowing", inPlace := ["internal/bytealg.CountString", "internal/bytealg.IndexByteString", "internal/bytealg.IndexString"], unfollowed := true, recurses := true, named := ["unicode/utf8.first", "unicode/utf8.acceptRanges", "internal/bytealg.MaxLen"], apart := false, laid := [("unicode/utf8.acceptRanges", laid_unicode_utf8_acceptRanges), ("unicode/utf8.first", laid_unicode_utf8_first)], narrowed := true }
def FnExactIsFlowingUptoSaid : Prop := fnExactIsFlowingUptoRow.holds Tryd.pinned (OpenSpec.upto fnExactIsFlowingSpec)

/-- 'laws.FnExactTurnsToMonotone', WHERE WHAT IT READS IS OF BULK AT MOST 1048576: true; the input reads as it did. -/
def fnExactTurnsToMonotoneUptoRow : OpenClaim := { program := "ytfcejeoeeelnlaadoor", sum := "dbc534d200d974881d1d3ef60720caf1749838e6bfb927ef2250154a07e8c279", func := "loop.example/switchnetworks/laws.FnExactTurnsToMonotone", spec := "fnExactTurnsToMonotone", inPlace := ["internal/bytealg.CountString", "internal/bytealg.IndexByteString", "internal/bytealg.IndexString"], unfollowed := true, recurses := true, named := ["unicode/utf8.first", "unicode/utf8.acceptRanges", "internal/bytealg.MaxLen"], apart := false, laid := [("unicode/utf8.acceptRanges", laid_unicode_utf8_acceptRanges), ("unicode/utf8.first", laid_unicode_utf8_first)], narrowed := true }
def FnExactTurnsToMonotoneUptoSaid : Prop := fnExactTurnsToMonotoneUptoRow.holds Tryd.pinned (OpenSpec.upto fnExactTurnsToMonotoneSpec)

/-- 'laws.FnExactHasCircuit', WHERE WHAT IT READS IS OF BULK AT MOST 1048576: true; the input reads as it did. -/
def fnExactHasCircuitUptoRow : OpenClaim := { program := "ytfcejeoeeelnlaadoor", sum := "dbc534d200d974881d1d3ef60720caf1749838e6bfb927ef2250154a07e8c279", func := "loop.example/switchnetworks/laws.FnExactHasCircuit", spec := "fnExactHasCircuit", inPlace := ["internal/bytealg.CountString", "internal/bytealg.IndexByteString", "internal/bytealg.IndexString"], unfollowed := true, recurses := true, named := ["unicode/utf8.first", "unicode/utf8.acceptRanges", "internal/bytealg.MaxLen"], apart := false, laid := [("unicode/utf8.acceptRanges", laid_unicode_utf8_acceptRanges), ("unicode/utf8.first", laid_unicode_utf8_first)], narrowed := true }
def FnExactHasCircuitUptoSaid : Prop := fnExactHasCircuitUptoRow.holds Tryd.pinned (OpenSpec.upto fnExactHasCircuitSpec)

/-- 'laws.FnExactTrapOf', WHERE WHAT IT READS IS OF BULK AT MOST 1048576: true; the input reads as it did. -/
def fnExactTrapOfUptoRow : OpenClaim := { program := "ytfcejeoeeelnlaadoor", sum := "dbc534d200d974881d1d3ef60720caf1749838e6bfb927ef2250154a07e8c279", func := "loop.example/switchnetworks/laws.FnExactTrapOf", spec := "fnExactTrapOf", inPlace := ["internal/bytealg.CountString", "internal/bytealg.IndexByteString", "internal/bytealg.IndexString"], unfollowed := true, recurses := true, named := ["unicode/utf8.first", "unicode/utf8.acceptRanges", "internal/bytealg.MaxLen"], apart := false, laid := [("unicode/utf8.acceptRanges", laid_unicode_utf8_acceptRanges), ("unicode/utf8.first", laid_unicode_utf8_first)], narrowed := true }
def FnExactTrapOfUptoSaid : Prop := fnExactTrapOfUptoRow.holds Tryd.pinned (OpenSpec.upto fnExactTrapOfSpec)

/-- 'laws.FnExactLiftPoint', WHERE WHAT IT READS IS OF BULK AT MOST 1048576: true; the input reads as it did. -/
def fnExactLiftPointUptoRow : OpenClaim := { program := "ytfcejeoeeelnlaadoor", sum := "dbc534d200d974881d1d3ef60720caf1749838e6bfb927ef2250154a07e8c279", func := "loop.example/switchnetworks/laws.FnExactLiftPoint", spec := "fnExactLiftPoint", inPlace := ["internal/bytealg.CountString", "internal/bytealg.IndexByteString", "internal/bytealg.IndexString"], unfollowed := true, recurses := true, named := ["unicode/utf8.first", "unicode/utf8.acceptRanges", "internal/bytealg.MaxLen"], apart := false, laid := [("unicode/utf8.acceptRanges", laid_unicode_utf8_acceptRanges), ("unicode/utf8.first", laid_unicode_utf8_first)], narrowed := true }
def FnExactLiftPointUptoSaid : Prop := fnExactLiftPointUptoRow.holds Tryd.pinned (OpenSpec.upto fnExactLiftPointSpec)

/-- 'laws.FnExactRemoveSwitch', WHERE WHAT IT READS IS OF BULK AT MOST 1048576: true; the input reads as it did. -/
def fnExactRemoveSwitchUptoRow : OpenClaim := { program := "ytfcejeoeeelnlaadoor", sum := "dbc534d200d974881d1d3ef60720caf1749838e6bfb927ef2250154a07e8c279", func := "loop.example/switchnetworks/laws.FnExactRemoveSwitch", spec := "fnExactRemoveSwitch", inPlace := ["internal/bytealg.CountString", "internal/bytealg.IndexByteString", "internal/bytealg.IndexString", "internal/abi.NoEscape", "internal/bytealg.MakeNoZero"], unfollowed := true, recurses := true, named := ["unicode/utf8.first", "unicode/utf8.acceptRanges", "internal/bytealg.MaxLen"], apart := false, laid := [("unicode/utf8.acceptRanges", laid_unicode_utf8_acceptRanges), ("unicode/utf8.first", laid_unicode_utf8_first)], narrowed := true }
def FnExactRemoveSwitchUptoSaid : Prop := fnExactRemoveSwitchUptoRow.holds Tryd.pinned (OpenSpec.upto fnExactRemoveSwitchSpec)

/-- 'laws.FnExactLeastTraps', WHERE WHAT IT READS IS OF BULK AT MOST 1048576: true; the input reads as it did. -/
def fnExactLeastTrapsUptoRow : OpenClaim := { program := "ytfcejeoeeelnlaadoor", sum := "dbc534d200d974881d1d3ef60720caf1749838e6bfb927ef2250154a07e8c279", func := "loop.example/switchnetworks/laws.FnExactLeastTraps", spec := "fnExactLeastTraps", inPlace := ["internal/bytealg.CountString", "internal/bytealg.IndexByteString", "internal/bytealg.IndexString"], unfollowed := true, recurses := true, named := ["unicode/utf8.first", "unicode/utf8.acceptRanges", "internal/bytealg.MaxLen"], apart := false, laid := [("unicode/utf8.acceptRanges", laid_unicode_utf8_acceptRanges), ("unicode/utf8.first", laid_unicode_utf8_first)], narrowed := true }
def FnExactLeastTrapsUptoSaid : Prop := fnExactLeastTrapsUptoRow.holds Tryd.pinned (OpenSpec.upto fnExactLeastTrapsSpec)

/-- 'laws.FnExactGreatestTraps', WHERE WHAT IT READS IS OF BULK AT MOST 1048576: true; the input reads as it did. -/
def fnExactGreatestTrapsUptoRow : OpenClaim := { program := "ytfcejeoeeelnlaadoor", sum := "dbc534d200d974881d1d3ef60720caf1749838e6bfb927ef2250154a07e8c279", func := "loop.example/switchnetworks/laws.FnExactGreatestTraps", spec := "fnExactGreatestTraps", inPlace := ["internal/bytealg.CountString", "internal/bytealg.IndexByteString", "internal/bytealg.IndexString"], unfollowed := true, recurses := true, named := ["unicode/utf8.first", "unicode/utf8.acceptRanges", "internal/bytealg.MaxLen"], apart := false, laid := [("unicode/utf8.acceptRanges", laid_unicode_utf8_acceptRanges), ("unicode/utf8.first", laid_unicode_utf8_first)], narrowed := true }
def FnExactGreatestTrapsUptoSaid : Prop := fnExactGreatestTrapsUptoRow.holds Tryd.pinned (OpenSpec.upto fnExactGreatestTrapsSpec)

/-- 'laws.FnExactBreakingSet', WHERE WHAT IT READS IS OF BULK AT MOST 1048576: true; the input reads as it did. -/
def fnExactBreakingSetUptoRow : OpenClaim := { program := "ytfcejeoeeelnlaadoor", sum := "dbc534d200d974881d1d3ef60720caf1749838e6bfb927ef2250154a07e8c279", func := "loop.example/switchnetworks/laws.FnExactBreakingSet", spec := "fnExactBreakingSet", inPlace := ["internal/bytealg.CountString", "internal/bytealg.IndexByteString", "internal/bytealg.IndexString"], unfollowed := true, recurses := true, named := ["unicode/utf8.first", "unicode/utf8.acceptRanges", "internal/bytealg.MaxLen"], apart := false, laid := [("unicode/utf8.acceptRanges", laid_unicode_utf8_acceptRanges), ("unicode/utf8.first", laid_unicode_utf8_first)], narrowed := true }
def FnExactBreakingSetUptoSaid : Prop := fnExactBreakingSetUptoRow.holds Tryd.pinned (OpenSpec.upto fnExactBreakingSetSpec)

/-- 'laws.FnExactReduceNetwork', WHERE WHAT IT READS IS OF BULK AT MOST 1048576: true; the input reads as it did. -/
def fnExactReduceNetworkUptoRow : OpenClaim := { program := "ytfcejeoeeelnlaadoor", sum := "dbc534d200d974881d1d3ef60720caf1749838e6bfb927ef2250154a07e8c279", func := "loop.example/switchnetworks/laws.FnExactReduceNetwork", spec := "fnExactReduceNetwork", inPlace := ["internal/bytealg.CountString", "internal/bytealg.IndexByteString", "internal/bytealg.IndexString", "internal/abi.NoEscape", "internal/bytealg.MakeNoZero"], unfollowed := true, recurses := true, named := ["unicode/utf8.first", "unicode/utf8.acceptRanges", "internal/bytealg.MaxLen"], apart := false, laid := [("unicode/utf8.acceptRanges", laid_unicode_utf8_acceptRanges), ("unicode/utf8.first", laid_unicode_utf8_first)], narrowed := true }
def FnExactReduceNetworkUptoSaid : Prop := fnExactReduceNetworkUptoRow.holds Tryd.pinned (OpenSpec.upto fnExactReduceNetworkSpec)

/-- 'laws.FnExactAttractorsIn', WHERE WHAT IT READS IS OF BULK AT MOST 1048576: true; the input reads as it did. -/
def fnExactAttractorsInUptoRow : OpenClaim := { program := "ytfcejeoeeelnlaadoor", sum := "dbc534d200d974881d1d3ef60720caf1749838e6bfb927ef2250154a07e8c279", func := "loop.example/switchnetworks/laws.FnExactAttractorsIn", spec := "fnExactAttractorsIn", inPlace := ["internal/bytealg.CountString", "internal/bytealg.IndexByteString", "internal/bytealg.IndexString"], unfollowed := true, recurses := true, named := ["unicode/utf8.first", "unicode/utf8.acceptRanges", "internal/bytealg.MaxLen"], apart := false, laid := [("unicode/utf8.acceptRanges", laid_unicode_utf8_acceptRanges), ("unicode/utf8.first", laid_unicode_utf8_first)], narrowed := true }
def FnExactAttractorsInUptoSaid : Prop := fnExactAttractorsInUptoRow.holds Tryd.pinned (OpenSpec.upto fnExactAttractorsInSpec)

/-- 'laws.FnExactArrowsOf', WHERE WHAT IT READS IS OF BULK AT MOST 1048576: true; the input reads as it did. -/
def fnExactArrowsOfUptoRow : OpenClaim := { program := "ytfcejeoeeelnlaadoor", sum := "dbc534d200d974881d1d3ef60720caf1749838e6bfb927ef2250154a07e8c279", func := "loop.example/switchnetworks/laws.FnExactArrowsOf", spec := "fnExactArrowsOf", inPlace := ["internal/bytealg.CountString", "internal/bytealg.IndexByteString", "internal/bytealg.IndexString"], unfollowed := true, recurses := true, named := ["unicode/utf8.first", "unicode/utf8.acceptRanges", "internal/bytealg.MaxLen", "internal/strconv.uint64pow10", "math/bits.deBruijn32tab", "math/bits.deBruijn64tab"], apart := false, laid := [("math/bits.deBruijn32tab", laid_math_bits_deBruijn32tab), ("math/bits.deBruijn64tab", laid_math_bits_deBruijn64tab), ("internal/strconv.uint64pow10", laid_internal_strconv_uint64pow10), ("unicode/utf8.acceptRanges", laid_unicode_utf8_acceptRanges), ("unicode/utf8.first", laid_unicode_utf8_first)], narrowed := true }
def FnExactArrowsOfUptoSaid : Prop := fnExactArrowsOfUptoRow.holds Tryd.pinned (OpenSpec.upto fnExactArrowsOfSpec)

end Rows
end Go.Proofs.YtfcejeoeeelnlaaDoor
