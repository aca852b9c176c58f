/-
  NARROWER THAN 'FOR EVERY INPUT', by the rows' own cells (each row's printed sentence says how): FnExactAttractorsIn: laid · FnTraps: laid · FnDropSwitch: laid · FnGroups: laid · FnSpread: laid · FnMonotone: laid · FnTrapOf: laid · FnRemovedPoints: laid · FnRemoveSwitch: laid · FnLeastTraps: laid · FnReduce: laid · FnTrap: laid.
  DERIVED. THE GIVEN ROWS OF THIS SEAT. 12 by the template 'for every input the law returns true; each argument reads behind the call as it read before'; 0 by the template 'total and deterministic' (their statements: YtcddnacbjdahbaaDoorTotals.lean).
  GIVEN WITH THE SEED: the statements are not yours to turn. If you find one false, say at which input.
  Laid BY PROGRAM, IN A SANDBOX (cutbox-rows.mjs): the forced cells as the released guide's own fill.sh prints them over the translation f1d6d24e49650339… (all of the seat's roots in one cut). By AI agents, Wed Nov 11 2026. No macro, syntax, notation, axiom, sorry.
-/
import Derived.Test.YtcddnacbjdahbaaDoorChecked
import GoSem.PinnedTables
import GoSem.Claim
import GoSem.ClaimJoined
import GoSem.ClaimMapViews
import Derived.JoinedTies
import Derived.KernelRfl
namespace Go.Proofs.YtcddnacbjdahbaaDoor
/- THE CELL 'sum', in the pinned program and in every row, IS THE sha256 OF THE DUMP (.gsa) THAT YtcddnacbjdahbaaDoorProg.lean LOADS. Nothing in Lean hashes anything: it is a label: what it is worth is what the hold of that sum in a sandbox is worth. -/
noncomputable def Tryd.pinned : Pinned := { name := "ytcddnacbjdahbaadoor", sum := "f1d6d24e4965033960d07b199915bce3765f742fd5b453d20bdcd422de4c9e53", checked := Tryd.checked }
namespace Rows
def none {H : Type} : Left H := { results := [], args := [] }

/- WHAT THE LISTED PACKAGE-LEVEL VARIABLES READ AS WHEN THE CALL BEGINS. Each datum BY PROGRAM (the guide's laid-datum.mjs) off the statement by which the dump's own 'gosem.cut.vars' lays the variable. In a bare row this is a premise. The card (YtcddnacbjdahbaaDoorCards.lean) ties it to the program's text. -/
def laid_unicode_utf8_acceptRanges {H : Type} : DataW H := .agg [.agg [.lit (.int .u8 128), .lit (.int .u8 191)], .agg [.lit (.int .u8 160), .lit (.int .u8 191)], .agg [.lit (.int .u8 128), .lit (.int .u8 159)], .agg [.lit (.int .u8 144), .lit (.int .u8 191)], .agg [.lit (.int .u8 128), .lit (.int .u8 143)], .agg [.lit (.int .u8 0), .lit (.int .u8 0)], .agg [.lit (.int .u8 0), .lit (.int .u8 0)], .agg [.lit (.int .u8 0), .lit (.int .u8 0)], .agg [.lit (.int .u8 0), .lit (.int .u8 0)], .agg [.lit (.int .u8 0), .lit (.int .u8 0)], .agg [.lit (.int .u8 0), .lit (.int .u8 0)], .agg [.lit (.int .u8 0), .lit (.int .u8 0)], .agg [.lit (.int .u8 0), .lit (.int .u8 0)], .agg [.lit (.int .u8 0), .lit (.int .u8 0)], .agg [.lit (.int .u8 0), .lit (.int .u8 0)], .agg [.lit (.int .u8 0), .lit (.int .u8 0)]]
/-- One of Go's own tables, pinned by name: the form's constant. -/
def laid_unicode_utf8_first : DataW Unit := Go.Pinned.utf8First

/-- 'laws.FnExactAttractorsIn': WHATEVER THE INPUT: true; the input reads as it did. -/
def fnExactAttractorsInSpec : ChangeSpec := { name := "fnExactAttractorsIn", fn := fun _ => fun
  | [d1, d2] => { results := [.lit (.bool true)], args := [d1, d2] }
  | _ => none }
def fnExactAttractorsInRow : OpenClaim := { program := "ytcddnacbjdahbaadoor", sum := "f1d6d24e4965033960d07b199915bce3765f742fd5b453d20bdcd422de4c9e53", func := "loop.example/switchnetworks/laws.FnExactAttractorsIn", spec := "fnExactAttractorsIn", inPlace := ["internal/bytealg.CountString", "internal/bytealg.IndexByteString", "internal/bytealg.IndexString"], unfollowed := true, recurses := true, named := ["unicode/utf8.first", "unicode/utf8.acceptRanges", "internal/bytealg.MaxLen"], apart := false, laid := [("unicode/utf8.acceptRanges", laid_unicode_utf8_acceptRanges), ("unicode/utf8.first", laid_unicode_utf8_first)] }
def FnExactAttractorsInSaid : Prop := fnExactAttractorsInRow.holds Tryd.pinned (OpenSpec.ofChange fnExactAttractorsInSpec)

/-- ITS FALSE NEIGHBOUR: 'it returns false'. Refute it at one input. -/
def fnExactAttractorsInWrong : ChangeSpec := { name := "fnExactAttractorsIn", fn := fun _ => fun
  | [d1, d2] => { results := [.lit (.bool false)], args := [d1, d2] }
  | _ => none }
def FnExactAttractorsInWrongFalsely : Prop := fnExactAttractorsInRow.holds Tryd.pinned (OpenSpec.ofChange fnExactAttractorsInWrong)

/-- 'laws.FnTraps': WHATEVER THE INPUT: true; the input reads as it did. -/
def fnTrapsSpec : ChangeSpec := { name := "fnTraps", fn := fun _ => fun
  | [d] => { results := [.lit (.bool true)], args := [d] }
  | _ => none }
def fnTrapsRow : OpenClaim := { program := "ytcddnacbjdahbaadoor", sum := "f1d6d24e4965033960d07b199915bce3765f742fd5b453d20bdcd422de4c9e53", func := "loop.example/switchnetworks/laws.FnTraps", spec := "fnTraps", inPlace := ["internal/bytealg.CountString", "internal/bytealg.IndexByteString", "internal/bytealg.IndexString"], unfollowed := true, recurses := true, named := ["unicode/utf8.first", "unicode/utf8.acceptRanges", "internal/bytealg.MaxLen"], apart := false, laid := [("unicode/utf8.acceptRanges", laid_unicode_utf8_acceptRanges), ("unicode/utf8.first", laid_unicode_utf8_first)] }
def FnTrapsSaid : Prop := fnTrapsRow.holds Tryd.pinned (OpenSpec.ofChange fnTrapsSpec)

/-- ITS FALSE NEIGHBOUR: 'it returns false'. Refute it at one input. -/
def fnTrapsWrong : ChangeSpec := { name := "fnTraps", fn := fun _ => fun
  | [d] => { results := [.lit (.bool false)], args := [d] }
  | _ => none }
def FnTrapsWrongFalsely : Prop := fnTrapsRow.holds Tryd.pinned (OpenSpec.ofChange fnTrapsWrong)

/-- 'laws.FnDropSwitch': WHATEVER THE INPUT: true; the input reads as it did. -/
def fnDropSwitchSpec : ChangeSpec := { name := "fnDropSwitch", fn := fun _ => fun
  | [d1, d2] => { results := [.lit (.bool true)], args := [d1, d2] }
  | _ => none }
def fnDropSwitchRow : OpenClaim := { program := "ytcddnacbjdahbaadoor", sum := "f1d6d24e4965033960d07b199915bce3765f742fd5b453d20bdcd422de4c9e53", func := "loop.example/switchnetworks/laws.FnDropSwitch", spec := "fnDropSwitch", inPlace := ["internal/bytealg.CountString", "internal/bytealg.IndexByteString", "internal/bytealg.IndexString"], unfollowed := true, recurses := true, named := ["unicode/utf8.first", "unicode/utf8.acceptRanges", "internal/bytealg.MaxLen"], apart := false, laid := [("unicode/utf8.acceptRanges", laid_unicode_utf8_acceptRanges), ("unicode/utf8.first", laid_unicode_utf8_first)] }
def FnDropSwitchSaid : Prop := fnDropSwitchRow.holds Tryd.pinned (OpenSpec.ofChange fnDropSwitchSpec)

/-- ITS FALSE NEIGHBOUR: 'it returns false'. Refute it at one input. -/
def fnDropSwitchWrong : ChangeSpec := { name := "fnDropSwitch", fn := fun _ => fun
  | [d1, d2] => { results := [.lit (.bool false)], args := [d1, d2] }
  | _ => none }
def FnDropSwitchWrongFalsely : Prop := fnDropSwitchRow.holds Tryd.pinned (OpenSpec.ofChange fnDropSwitchWrong)

/-- 'laws.FnGroups': WHATEVER THE INPUT: true; the input reads as it did. -/
def fnGroupsSpec : ChangeSpec := { name := "fnGroups", fn := fun _ => fun
  | [d] => { results := [.lit (.bool true)], args := [d] }
  | _ => none }
def fnGroupsRow : OpenClaim := { program := "ytcddnacbjdahbaadoor", sum := "f1d6d24e4965033960d07b199915bce3765f742fd5b453d20bdcd422de4c9e53", func := "loop.example/switchnetworks/laws.FnGroups", spec := "fnGroups", inPlace := ["internal/bytealg.CountString", "internal/bytealg.IndexByteString", "internal/bytealg.IndexString"], unfollowed := true, recurses := true, named := ["unicode/utf8.first", "unicode/utf8.acceptRanges", "internal/bytealg.MaxLen"], apart := false, laid := [("unicode/utf8.acceptRanges", laid_unicode_utf8_acceptRanges), ("unicode/utf8.first", laid_unicode_utf8_first)] }
def FnGroupsSaid : Prop := fnGroupsRow.holds Tryd.pinned (OpenSpec.ofChange fnGroupsSpec)

/-- ITS FALSE NEIGHBOUR: 'it returns false'. Refute it at one input. -/
def fnGroupsWrong : ChangeSpec := { name := "fnGroups", fn := fun _ => fun
  | [d] => { results := [.lit (.bool false)], args := [d] }
  | _ => none }
def FnGroupsWrongFalsely : Prop := fnGroupsRow.holds Tryd.pinned (OpenSpec.ofChange fnGroupsWrong)

/-- 'laws.FnSpread': WHATEVER THE INPUT: true; the input reads as it did. -/
def fnSpreadSpec : ChangeSpec := { name := "fnSpread", fn := fun _ => fun
  | [d] => { results := [.lit (.bool true)], args := [d] }
  | _ => none }
def fnSpreadRow : OpenClaim := { program := "ytcddnacbjdahbaadoor", sum := "f1d6d24e4965033960d07b199915bce3765f742fd5b453d20bdcd422de4c9e53", func := "loop.example/switchnetworks/laws.FnSpread", spec := "fnSpread", inPlace := ["internal/bytealg.CountString", "internal/bytealg.IndexByteString", "internal/bytealg.IndexString"], unfollowed := true, recurses := true, named := ["unicode/utf8.first", "unicode/utf8.acceptRanges", "internal/bytealg.MaxLen"], apart := false, laid := [("unicode/utf8.acceptRanges", laid_unicode_utf8_acceptRanges), ("unicode/utf8.first", laid_unicode_utf8_first)] }
def FnSpreadSaid : Prop := fnSpreadRow.holds Tryd.pinned (OpenSpec.ofChange fnSpreadSpec)

/-- ITS FALSE NEIGHBOUR: 'it returns false'. Refute it at one input. -/
def fnSpreadWrong : ChangeSpec := { name := "fnSpread", fn := fun _ => fun
  | [d] => { results := [.lit (.bool false)], args := [d] }
  | _ => none }
def FnSpreadWrongFalsely : Prop := fnSpreadRow.holds Tryd.pinned (OpenSpec.ofChange fnSpreadWrong)

/-- 'laws.FnMonotone': WHATEVER THE INPUT: true; the input reads as it did. -/
def fnMonotoneSpec : ChangeSpec := { name := "fnMonotone", fn := fun _ => fun
  | [d] => { results := [.lit (.bool true)], args := [d] }
  | _ => none }
def fnMonotoneRow : OpenClaim := { program := "ytcddnacbjdahbaadoor", sum := "f1d6d24e4965033960d07b199915bce3765f742fd5b453d20bdcd422de4c9e53", func := "loop.example/switchnetworks/laws.FnMonotone", spec := "fnMonotone", inPlace := ["internal/bytealg.CountString", "internal/bytealg.IndexByteString", "internal/bytealg.IndexString"], unfollowed := true, recurses := true, named := ["unicode/utf8.first", "unicode/utf8.acceptRanges", "internal/bytealg.MaxLen"], apart := false, laid := [("unicode/utf8.acceptRanges", laid_unicode_utf8_acceptRanges), ("unicode/utf8.first", laid_unicode_utf8_first)] }
def FnMonotoneSaid : Prop := fnMonotoneRow.holds Tryd.pinned (OpenSpec.ofChange fnMonotoneSpec)

/-- ITS FALSE NEIGHBOUR: 'it returns false'. Refute it at one input. -/
def fnMonotoneWrong : ChangeSpec := { name := "fnMonotone", fn := fun _ => fun
  | [d] => { results := [.lit (.bool false)], args := [d] }
  | _ => none }
def FnMonotoneWrongFalsely : Prop := fnMonotoneRow.holds Tryd.pinned (OpenSpec.ofChange fnMonotoneWrong)

/-- 'laws.FnTrapOf': WHATEVER THE INPUT: true; the input reads as it did. -/
def fnTrapOfSpec : ChangeSpec := { name := "fnTrapOf", fn := fun _ => fun
  | [d] => { results := [.lit (.bool true)], args := [d] }
  | _ => none }
def fnTrapOfRow : OpenClaim := { program := "ytcddnacbjdahbaadoor", sum := "f1d6d24e4965033960d07b199915bce3765f742fd5b453d20bdcd422de4c9e53", func := "loop.example/switchnetworks/laws.FnTrapOf", spec := "fnTrapOf", inPlace := ["internal/bytealg.CountString", "internal/bytealg.IndexByteString", "internal/bytealg.IndexString"], unfollowed := true, recurses := true, named := ["unicode/utf8.first", "unicode/utf8.acceptRanges", "internal/bytealg.MaxLen"], apart := false, laid := [("unicode/utf8.acceptRanges", laid_unicode_utf8_acceptRanges), ("unicode/utf8.first", laid_unicode_utf8_first)] }
def FnTrapOfSaid : Prop := fnTrapOfRow.holds Tryd.pinned (OpenSpec.ofChange fnTrapOfSpec)

/-- ITS FALSE NEIGHBOUR: 'it returns false'. Refute it at one input. -/
def fnTrapOfWrong : ChangeSpec := { name := "fnTrapOf", fn := fun _ => fun
  | [d] => { results := [.lit (.bool false)], args := [d] }
  | _ => none }
def FnTrapOfWrongFalsely : Prop := fnTrapOfRow.holds Tryd.pinned (OpenSpec.ofChange fnTrapOfWrong)

/-- 'laws.FnRemovedPoints': WHATEVER THE INPUT: true; the input reads as it did. -/
def fnRemovedPointsSpec : ChangeSpec := { name := "fnRemovedPoints", fn := fun _ => fun
  | [d] => { results := [.lit (.bool true)], args := [d] }
  | _ => none }
def fnRemovedPointsRow : OpenClaim := { program := "ytcddnacbjdahbaadoor", sum := "f1d6d24e4965033960d07b199915bce3765f742fd5b453d20bdcd422de4c9e53", func := "loop.example/switchnetworks/laws.FnRemovedPoints", spec := "fnRemovedPoints", inPlace := ["internal/bytealg.CountString", "internal/bytealg.IndexByteString", "internal/bytealg.IndexString", "internal/abi.NoEscape", "internal/bytealg.MakeNoZero"], unfollowed := true, recurses := true, named := ["unicode/utf8.first", "unicode/utf8.acceptRanges", "internal/bytealg.MaxLen"], apart := false, laid := [("unicode/utf8.acceptRanges", laid_unicode_utf8_acceptRanges), ("unicode/utf8.first", laid_unicode_utf8_first)] }
def FnRemovedPointsSaid : Prop := fnRemovedPointsRow.holds Tryd.pinned (OpenSpec.ofChange fnRemovedPointsSpec)

/-- ITS FALSE NEIGHBOUR: 'it returns false'. Refute it at one input. -/
def fnRemovedPointsWrong : ChangeSpec := { name := "fnRemovedPoints", fn := fun _ => fun
  | [d] => { results := [.lit (.bool false)], args := [d] }
  | _ => none }
def FnRemovedPointsWrongFalsely : Prop := fnRemovedPointsRow.holds Tryd.pinned (OpenSpec.ofChange fnRemovedPointsWrong)

/-- 'laws.FnRemoveSwitch': WHATEVER THE INPUT: true; the input reads as it did. -/
def fnRemoveSwitchSpec : ChangeSpec := { name := "fnRemoveSwitch", fn := fun _ => fun
  | [d] => { results := [.lit (.bool true)], args := [d] }
  | _ => none }
def fnRemoveSwitchRow : OpenClaim := { program := "ytcddnacbjdahbaadoor", sum := "f1d6d24e4965033960d07b199915bce3765f742fd5b453d20bdcd422de4c9e53", func := "loop.example/switchnetworks/laws.FnRemoveSwitch", spec := "fnRemoveSwitch", inPlace := ["internal/bytealg.CountString", "internal/bytealg.IndexByteString", "internal/bytealg.IndexString", "internal/abi.NoEscape", "internal/bytealg.MakeNoZero"], unfollowed := true, recurses := true, named := ["unicode/utf8.first", "unicode/utf8.acceptRanges", "internal/bytealg.MaxLen"], apart := false, laid := [("unicode/utf8.acceptRanges", laid_unicode_utf8_acceptRanges), ("unicode/utf8.first", laid_unicode_utf8_first)] }
def FnRemoveSwitchSaid : Prop := fnRemoveSwitchRow.holds Tryd.pinned (OpenSpec.ofChange fnRemoveSwitchSpec)

/-- ITS FALSE NEIGHBOUR: 'it returns false'. Refute it at one input. -/
def fnRemoveSwitchWrong : ChangeSpec := { name := "fnRemoveSwitch", fn := fun _ => fun
  | [d] => { results := [.lit (.bool false)], args := [d] }
  | _ => none }
def FnRemoveSwitchWrongFalsely : Prop := fnRemoveSwitchRow.holds Tryd.pinned (OpenSpec.ofChange fnRemoveSwitchWrong)

/-- 'laws.FnLeastTraps': WHATEVER THE INPUT: true; the input reads as it did. -/
def fnLeastTrapsSpec : ChangeSpec := { name := "fnLeastTraps", fn := fun _ => fun
  | [d] => { results := [.lit (.bool true)], args := [d] }
  | _ => none }
def fnLeastTrapsRow : OpenClaim := { program := "ytcddnacbjdahbaadoor", sum := "f1d6d24e4965033960d07b199915bce3765f742fd5b453d20bdcd422de4c9e53", func := "loop.example/switchnetworks/laws.FnLeastTraps", spec := "fnLeastTraps", inPlace := ["internal/bytealg.CountString", "internal/bytealg.IndexByteString", "internal/bytealg.IndexString"], unfollowed := true, recurses := true, named := ["unicode/utf8.first", "unicode/utf8.acceptRanges", "internal/bytealg.MaxLen"], apart := false, laid := [("unicode/utf8.acceptRanges", laid_unicode_utf8_acceptRanges), ("unicode/utf8.first", laid_unicode_utf8_first)] }
def FnLeastTrapsSaid : Prop := fnLeastTrapsRow.holds Tryd.pinned (OpenSpec.ofChange fnLeastTrapsSpec)

/-- ITS FALSE NEIGHBOUR: 'it returns false'. Refute it at one input. -/
def fnLeastTrapsWrong : ChangeSpec := { name := "fnLeastTraps", fn := fun _ => fun
  | [d] => { results := [.lit (.bool false)], args := [d] }
  | _ => none }
def FnLeastTrapsWrongFalsely : Prop := fnLeastTrapsRow.holds Tryd.pinned (OpenSpec.ofChange fnLeastTrapsWrong)

/-- 'laws.FnReduce': WHATEVER THE INPUT: true; the input reads as it did. -/
def fnReduceSpec : ChangeSpec := { name := "fnReduce", fn := fun _ => fun
  | [d] => { results := [.lit (.bool true)], args := [d] }
  | _ => none }
def fnReduceRow : OpenClaim := { program := "ytcddnacbjdahbaadoor", sum := "f1d6d24e4965033960d07b199915bce3765f742fd5b453d20bdcd422de4c9e53", func := "loop.example/switchnetworks/laws.FnReduce", spec := "fnReduce", inPlace := ["internal/bytealg.CountString", "internal/bytealg.IndexByteString", "internal/bytealg.IndexString", "internal/abi.NoEscape", "internal/bytealg.MakeNoZero"], unfollowed := true, recurses := true, named := ["unicode/utf8.first", "unicode/utf8.acceptRanges", "internal/bytealg.MaxLen"], apart := false, laid := [("unicode/utf8.acceptRanges", laid_unicode_utf8_acceptRanges), ("unicode/utf8.first", laid_unicode_utf8_first)] }
def FnReduceSaid : Prop := fnReduceRow.holds Tryd.pinned (OpenSpec.ofChange fnReduceSpec)

/-- ITS FALSE NEIGHBOUR: 'it returns false'. Refute it at one input. -/
def fnReduceWrong : ChangeSpec := { name := "fnReduce", fn := fun _ => fun
  | [d] => { results := [.lit (.bool false)], args := [d] }
  | _ => none }
def FnReduceWrongFalsely : Prop := fnReduceRow.holds Tryd.pinned (OpenSpec.ofChange fnReduceWrong)

/-- 'laws.FnTrap': WHATEVER THE INPUT: true; the input reads as it did. -/
def fnTrapSpec : ChangeSpec := { name := "fnTrap", fn := fun _ => fun
  | [d] => { results := [.lit (.bool true)], args := [d] }
  | _ => none }
def fnTrapRow : OpenClaim := { program := "ytcddnacbjdahbaadoor", sum := "f1d6d24e4965033960d07b199915bce3765f742fd5b453d20bdcd422de4c9e53", func := "loop.example/switchnetworks/laws.FnTrap", spec := "fnTrap", inPlace := ["internal/bytealg.CountString", "internal/bytealg.IndexByteString", "internal/bytealg.IndexString"], unfollowed := true, recurses := true, named := ["unicode/utf8.first", "unicode/utf8.acceptRanges", "internal/bytealg.MaxLen"], apart := false, laid := [("unicode/utf8.acceptRanges", laid_unicode_utf8_acceptRanges), ("unicode/utf8.first", laid_unicode_utf8_first)] }
def FnTrapSaid : Prop := fnTrapRow.holds Tryd.pinned (OpenSpec.ofChange fnTrapSpec)

/-- ITS FALSE NEIGHBOUR: 'it returns false'. Refute it at one input. -/
def fnTrapWrong : ChangeSpec := { name := "fnTrap", fn := fun _ => fun
  | [d] => { results := [.lit (.bool false)], args := [d] }
  | _ => none }
def FnTrapWrongFalsely : Prop := fnTrapRow.holds Tryd.pinned (OpenSpec.ofChange fnTrapWrong)

/- THE SECOND FORM. 'bulk': how many values and letters a reading holds, each counted each time it is reached (what is shared counts as often as it is met; a slice's spare places count too). A statement '..UptoSaid' is the law's where the arguments, and the package variables that the reading takes, are together of bulk at most 1048576: NARROWER than '..Said'. Prove '..Said' where nothing that the law and all that it calls make is longer than what came in: it says more and counts as full. Else prove '..UptoSaid'. A law counts once. -/
mutual
def uptoBulk {H : Type} : DataW H → Nat
  | .lit (.string bytes) => bytes.length + 1
  | .lit _ => 1
  | .nil => 1
  | .ptr d => uptoBulk d + 1
  | .slice elems spare => uptoBulkAll elems + uptoBulkAll spare + 1
  | .agg parts => uptoBulkAll parts + 1
  | .iface _ d => uptoBulk d + 1
  | .map entries => uptoBulkEntries entries + 1
  | .held _ => 1
def uptoBulkAll {H : Type} : List (DataW H) → Nat
  | [] => 0
  | d :: r => uptoBulk d + uptoBulkAll r
def uptoBulkEntries {H : Type} : List (Lit × DataW H) → Nat
  | [] => 0
  | x :: r => uptoBulkEntry x + uptoBulkEntries r
def uptoBulkEntry {H : Type} : Lit × DataW H → Nat
  | (.string bytes, d) => bytes.length + uptoBulk d + 1
  | (_, d) => uptoBulk d + 1
 end
def uptoSmall : (H : Type) → List (DataW H) → Bool := fun _ ds => decide (uptoBulkAll ds ≤ 1048576)
def OpenSpec.upto (s : _root_.Go.ChangeSpec) : _root_.Go.OpenSpec := { _root_.Go.OpenSpec.ofChange s with cond := some uptoSmall }

/-- 'laws.FnExactAttractorsIn', WHERE WHAT IT READS IS OF BULK AT MOST 1048576: true; the input reads as it did. -/
def fnExactAttractorsInUptoRow : OpenClaim := { program := "ytcddnacbjdahbaadoor", sum := "f1d6d24e4965033960d07b199915bce3765f742fd5b453d20bdcd422de4c9e53", func := "loop.example/switchnetworks/laws.FnExactAttractorsIn", spec := "fnExactAttractorsIn", inPlace := ["internal/bytealg.CountString", "internal/bytealg.IndexByteString", "internal/bytealg.IndexString"], unfollowed := true, recurses := true, named := ["unicode/utf8.first", "unicode/utf8.acceptRanges", "internal/bytealg.MaxLen"], apart := false, laid := [("unicode/utf8.acceptRanges", laid_unicode_utf8_acceptRanges), ("unicode/utf8.first", laid_unicode_utf8_first)], narrowed := true }
def FnExactAttractorsInUptoSaid : Prop := fnExactAttractorsInUptoRow.holds Tryd.pinned (OpenSpec.upto fnExactAttractorsInSpec)

/-- 'laws.FnTraps', WHERE WHAT IT READS IS OF BULK AT MOST 1048576: true; the input reads as it did. -/
def fnTrapsUptoRow : OpenClaim := { program := "ytcddnacbjdahbaadoor", sum := "f1d6d24e4965033960d07b199915bce3765f742fd5b453d20bdcd422de4c9e53", func := "loop.example/switchnetworks/laws.FnTraps", spec := "fnTraps", inPlace := ["internal/bytealg.CountString", "internal/bytealg.IndexByteString", "internal/bytealg.IndexString"], unfollowed := true, recurses := true, named := ["unicode/utf8.first", "unicode/utf8.acceptRanges", "internal/bytealg.MaxLen"], apart := false, laid := [("unicode/utf8.acceptRanges", laid_unicode_utf8_acceptRanges), ("unicode/utf8.first", laid_unicode_utf8_first)], narrowed := true }
def FnTrapsUptoSaid : Prop := fnTrapsUptoRow.holds Tryd.pinned (OpenSpec.upto fnTrapsSpec)

/-- 'laws.FnDropSwitch', WHERE WHAT IT READS IS OF BULK AT MOST 1048576: true; the input reads as it did. -/
def fnDropSwitchUptoRow : OpenClaim := { program := "ytcddnacbjdahbaadoor", sum := "f1d6d24e4965033960d07b199915bce3765f742fd5b453d20bdcd422de4c9e53", func := "loop.example/switchnetworks/laws.FnDropSwitch", spec := "fnDropSwitch", inPlace := ["internal/bytealg.CountString", "internal/bytealg.IndexByteString", "internal/bytealg.IndexString"], unfollowed := true, recurses := true, named := ["unicode/utf8.first", "unicode/utf8.acceptRanges", "internal/bytealg.MaxLen"], apart := false, laid := [("unicode/utf8.acceptRanges", laid_unicode_utf8_acceptRanges), ("unicode/utf8.first", laid_unicode_utf8_first)], narrowed := true }
def FnDropSwitchUptoSaid : Prop := fnDropSwitchUptoRow.holds Tryd.pinned (OpenSpec.upto fnDropSwitchSpec)

/-- 'laws.FnGroups', WHERE WHAT IT READS IS OF BULK AT MOST 1048576: true; the input reads as it did. -/
def fnGroupsUptoRow : OpenClaim := { program := "ytcddnacbjdahbaadoor", sum := "f1d6d24e4965033960d07b199915bce3765f742fd5b453d20bdcd422de4c9e53", func := "loop.example/switchnetworks/laws.FnGroups", spec := "fnGroups", inPlace := ["internal/bytealg.CountString", "internal/bytealg.IndexByteString", "internal/bytealg.IndexString"], unfollowed := true, recurses := true, named := ["unicode/utf8.first", "unicode/utf8.acceptRanges", "internal/bytealg.MaxLen"], apart := false, laid := [("unicode/utf8.acceptRanges", laid_unicode_utf8_acceptRanges), ("unicode/utf8.first", laid_unicode_utf8_first)], narrowed := true }
def FnGroupsUptoSaid : Prop := fnGroupsUptoRow.holds Tryd.pinned (OpenSpec.upto fnGroupsSpec)

/-- 'laws.FnSpread', WHERE WHAT IT READS IS OF BULK AT MOST 1048576: true; the input reads as it did. -/
def fnSpreadUptoRow : OpenClaim := { program := "ytcddnacbjdahbaadoor", sum := "f1d6d24e4965033960d07b199915bce3765f742fd5b453d20bdcd422de4c9e53", func := "loop.example/switchnetworks/laws.FnSpread", spec := "fnSpread", inPlace := ["internal/bytealg.CountString", "internal/bytealg.IndexByteString", "internal/bytealg.IndexString"], unfollowed := true, recurses := true, named := ["unicode/utf8.first", "unicode/utf8.acceptRanges", "internal/bytealg.MaxLen"], apart := false, laid := [("unicode/utf8.acceptRanges", laid_unicode_utf8_acceptRanges), ("unicode/utf8.first", laid_unicode_utf8_first)], narrowed := true }
def FnSpreadUptoSaid : Prop := fnSpreadUptoRow.holds Tryd.pinned (OpenSpec.upto fnSpreadSpec)

/-- 'laws.FnMonotone', WHERE WHAT IT READS IS OF BULK AT MOST 1048576: true; the input reads as it did. -/
def fnMonotoneUptoRow : OpenClaim := { program := "ytcddnacbjdahbaadoor", sum := "f1d6d24e4965033960d07b199915bce3765f742fd5b453d20bdcd422de4c9e53", func := "loop.example/switchnetworks/laws.FnMonotone", spec := "fnMonotone", inPlace := ["internal/bytealg.CountString", "internal/bytealg.IndexByteString", "internal/bytealg.IndexString"], unfollowed := true, recurses := true, named := ["unicode/utf8.first", "unicode/utf8.acceptRanges", "internal/bytealg.MaxLen"], apart := false, laid := [("unicode/utf8.acceptRanges", laid_unicode_utf8_acceptRanges), ("unicode/utf8.first", laid_unicode_utf8_first)], narrowed := true }
def FnMonotoneUptoSaid : Prop := fnMonotoneUptoRow.holds Tryd.pinned (OpenSpec.upto fnMonotoneSpec)

/-- 'laws.FnTrapOf', WHERE WHAT IT READS IS OF BULK AT MOST 1048576: true; the input reads as it did. -/
def fnTrapOfUptoRow : OpenClaim := { program := "ytcddnacbjdahbaadoor", sum := "f1d6d24e4965033960d07b199915bce3765f742fd5b453d20bdcd422de4c9e53", func := "loop.example/switchnetworks/laws.FnTrapOf", spec := "fnTrapOf", inPlace := ["internal/bytealg.CountString", "internal/bytealg.IndexByteString", "internal/bytealg.IndexString"], unfollowed := true, recurses := true, named := ["unicode/utf8.first", "unicode/utf8.acceptRanges", "internal/bytealg.MaxLen"], apart := false, laid := [("unicode/utf8.acceptRanges", laid_unicode_utf8_acceptRanges), ("unicode/utf8.first", laid_unicode_utf8_first)], narrowed := true }
def FnTrapOfUptoSaid : Prop := fnTrapOfUptoRow.holds Tryd.pinned (OpenSpec.upto fnTrapOfSpec)

/-- 'laws.FnRemovedPoints', WHERE WHAT IT READS IS OF BULK AT MOST 1048576: true; the input reads as it did. -/
def fnRemovedPointsUptoRow : OpenClaim := { program := "ytcddnacbjdahbaadoor", sum := "f1d6d24e4965033960d07b199915bce3765f742fd5b453d20bdcd422de4c9e53", func := "loop.example/switchnetworks/laws.FnRemovedPoints", spec := "fnRemovedPoints", inPlace := ["internal/bytealg.CountString", "internal/bytealg.IndexByteString", "internal/bytealg.IndexString", "internal/abi.NoEscape", "internal/bytealg.MakeNoZero"], unfollowed := true, recurses := true, named := ["unicode/utf8.first", "unicode/utf8.acceptRanges", "internal/bytealg.MaxLen"], apart := false, laid := [("unicode/utf8.acceptRanges", laid_unicode_utf8_acceptRanges), ("unicode/utf8.first", laid_unicode_utf8_first)], narrowed := true }
def FnRemovedPointsUptoSaid : Prop := fnRemovedPointsUptoRow.holds Tryd.pinned (OpenSpec.upto fnRemovedPointsSpec)

/-- 'laws.FnRemoveSwitch', WHERE WHAT IT READS IS OF BULK AT MOST 1048576: true; the input reads as it did. -/
def fnRemoveSwitchUptoRow : OpenClaim := { program := "ytcddnacbjdahbaadoor", sum := "f1d6d24e4965033960d07b199915bce3765f742fd5b453d20bdcd422de4c9e53", func := "loop.example/switchnetworks/laws.FnRemoveSwitch", spec := "fnRemoveSwitch", inPlace := ["internal/bytealg.CountString", "internal/bytealg.IndexByteString", "internal/bytealg.IndexString", "internal/abi.NoEscape", "internal/bytealg.MakeNoZero"], unfollowed := true, recurses := true, named := ["unicode/utf8.first", "unicode/utf8.acceptRanges", "internal/bytealg.MaxLen"], apart := false, laid := [("unicode/utf8.acceptRanges", laid_unicode_utf8_acceptRanges), ("unicode/utf8.first", laid_unicode_utf8_first)], narrowed := true }
def FnRemoveSwitchUptoSaid : Prop := fnRemoveSwitchUptoRow.holds Tryd.pinned (OpenSpec.upto fnRemoveSwitchSpec)

/-- 'laws.FnLeastTraps', WHERE WHAT IT READS IS OF BULK AT MOST 1048576: true; the input reads as it did. -/
def fnLeastTrapsUptoRow : OpenClaim := { program := "ytcddnacbjdahbaadoor", sum := "f1d6d24e4965033960d07b199915bce3765f742fd5b453d20bdcd422de4c9e53", func := "loop.example/switchnetworks/laws.FnLeastTraps", spec := "fnLeastTraps", inPlace := ["internal/bytealg.CountString", "internal/bytealg.IndexByteString", "internal/bytealg.IndexString"], unfollowed := true, recurses := true, named := ["unicode/utf8.first", "unicode/utf8.acceptRanges", "internal/bytealg.MaxLen"], apart := false, laid := [("unicode/utf8.acceptRanges", laid_unicode_utf8_acceptRanges), ("unicode/utf8.first", laid_unicode_utf8_first)], narrowed := true }
def FnLeastTrapsUptoSaid : Prop := fnLeastTrapsUptoRow.holds Tryd.pinned (OpenSpec.upto fnLeastTrapsSpec)

/-- 'laws.FnReduce', WHERE WHAT IT READS IS OF BULK AT MOST 1048576: true; the input reads as it did. -/
def fnReduceUptoRow : OpenClaim := { program := "ytcddnacbjdahbaadoor", sum := "f1d6d24e4965033960d07b199915bce3765f742fd5b453d20bdcd422de4c9e53", func := "loop.example/switchnetworks/laws.FnReduce", spec := "fnReduce", inPlace := ["internal/bytealg.CountString", "internal/bytealg.IndexByteString", "internal/bytealg.IndexString", "internal/abi.NoEscape", "internal/bytealg.MakeNoZero"], unfollowed := true, recurses := true, named := ["unicode/utf8.first", "unicode/utf8.acceptRanges", "internal/bytealg.MaxLen"], apart := false, laid := [("unicode/utf8.acceptRanges", laid_unicode_utf8_acceptRanges), ("unicode/utf8.first", laid_unicode_utf8_first)], narrowed := true }
def FnReduceUptoSaid : Prop := fnReduceUptoRow.holds Tryd.pinned (OpenSpec.upto fnReduceSpec)

/-- 'laws.FnTrap', WHERE WHAT IT READS IS OF BULK AT MOST 1048576: true; the input reads as it did. -/
def fnTrapUptoRow : OpenClaim := { program := "ytcddnacbjdahbaadoor", sum := "f1d6d24e4965033960d07b199915bce3765f742fd5b453d20bdcd422de4c9e53", func := "loop.example/switchnetworks/laws.FnTrap", spec := "fnTrap", inPlace := ["internal/bytealg.CountString", "internal/bytealg.IndexByteString", "internal/bytealg.IndexString"], unfollowed := true, recurses := true, named := ["unicode/utf8.first", "unicode/utf8.acceptRanges", "internal/bytealg.MaxLen"], apart := false, laid := [("unicode/utf8.acceptRanges", laid_unicode_utf8_acceptRanges), ("unicode/utf8.first", laid_unicode_utf8_first)], narrowed := true }
def FnTrapUptoSaid : Prop := fnTrapUptoRow.holds Tryd.pinned (OpenSpec.upto fnTrapSpec)

end Rows
end Go.Proofs.YtcddnacbjdahbaaDoor
