/-
  NARROWER THAN 'FOR EVERY INPUT', by the rows' own cells (each row's printed sentence says how): FnExactLiftState: laid · FnExactRemovable: laid · FnExactActsOn: laid · FnExactFallFrom: laid · FnExactRiseFrom: laid · FnExactLeastPoint: laid · FnExactGreatestPoint: laid · FnExactGroupsOf: laid · FnExactIsFlowing: laid · FnExactTurnsToMonotone: laid · FnExactJoinPoints: laid.
  DERIVED. THE GIVEN ROWS OF THIS SEAT. 11 by the template 'for every input the law returns true; each argument reads behind the call as it read before'; 0 by the template 'total and deterministic' (their statements: YtkkacglcjfgbiaaDoorTotals.lean).
  GIVEN WITH THE SEED: the statements are not yours to turn. If you find one false, say at which input.
  Laid BY PROGRAM, IN A SANDBOX (cutbox-rows.mjs): the forced cells as the released guide's own fill.sh prints them over the translation a5914c30f8cc92e6… (all of the seat's roots in one cut). By AI agents, Wed Nov 11 2026. No macro, syntax, notation, axiom, sorry.
-/
import Derived.Test.YtkkacglcjfgbiaaDoorChecked
import GoSem.PinnedTables
import GoSem.Claim
import GoSem.ClaimJoined
import GoSem.ClaimMapViews
import Derived.JoinedTies
import Derived.KernelRfl
namespace Go.Proofs.YtkkacglcjfgbiaaDoor
/- THE CELL 'sum', in the pinned program and in every row, IS THE sha256 OF THE DUMP (.gsa) THAT YtkkacglcjfgbiaaDoorProg.lean LOADS. Nothing in Lean hashes anything: it is a label: what it is worth is what the hold of that sum in a sandbox is worth. -/
noncomputable def Tryd.pinned : Pinned := { name := "ytkkacglcjfgbiaadoor", sum := "a5914c30f8cc92e68de3f6d82c02a335e10883e75b1b5073d1380923790b4993", checked := Tryd.checked }
namespace Rows
def none {H : Type} : Left H := { results := [], args := [] }

/- WHAT THE LISTED PACKAGE-LEVEL VARIABLES READ AS WHEN THE CALL BEGINS. Each datum BY PROGRAM (the guide's laid-datum.mjs) off the statement by which the dump's own 'gosem.cut.vars' lays the variable. In a bare row this is a premise. The card (YtkkacglcjfgbiaaDoorCards.lean) ties it to the program's text. -/
def laid_unicode_utf8_acceptRanges {H : Type} : DataW H := .agg [.agg [.lit (.int .u8 128), .lit (.int .u8 191)], .agg [.lit (.int .u8 160), .lit (.int .u8 191)], .agg [.lit (.int .u8 128), .lit (.int .u8 159)], .agg [.lit (.int .u8 144), .lit (.int .u8 191)], .agg [.lit (.int .u8 128), .lit (.int .u8 143)], .agg [.lit (.int .u8 0), .lit (.int .u8 0)], .agg [.lit (.int .u8 0), .lit (.int .u8 0)], .agg [.lit (.int .u8 0), .lit (.int .u8 0)], .agg [.lit (.int .u8 0), .lit (.int .u8 0)], .agg [.lit (.int .u8 0), .lit (.int .u8 0)], .agg [.lit (.int .u8 0), .lit (.int .u8 0)], .agg [.lit (.int .u8 0), .lit (.int .u8 0)], .agg [.lit (.int .u8 0), .lit (.int .u8 0)], .agg [.lit (.int .u8 0), .lit (.int .u8 0)], .agg [.lit (.int .u8 0), .lit (.int .u8 0)], .agg [.lit (.int .u8 0), .lit (.int .u8 0)]]
/-- One of Go's own tables, pinned by name: the form's constant. -/
def laid_unicode_utf8_first : DataW Unit := Go.Pinned.utf8First

/-- 'laws.FnExactLiftState': WHATEVER THE INPUT: true; the input reads as it did. -/
def fnExactLiftStateSpec : ChangeSpec := { name := "fnExactLiftState", fn := fun _ => fun
  | [d1, d2, d3] => { results := [.lit (.bool true)], args := [d1, d2, d3] }
  | _ => none }
def fnExactLiftStateRow : OpenClaim := { program := "ytkkacglcjfgbiaadoor", sum := "a5914c30f8cc92e68de3f6d82c02a335e10883e75b1b5073d1380923790b4993", func := "loop.example/switchnetworks/laws.FnExactLiftState", spec := "fnExactLiftState", inPlace := ["internal/bytealg.CountString", "internal/bytealg.IndexByteString", "internal/bytealg.IndexString"], unfollowed := true, recurses := true, named := ["unicode/utf8.first", "unicode/utf8.acceptRanges", "internal/bytealg.MaxLen"], apart := false, laid := [("unicode/utf8.acceptRanges", laid_unicode_utf8_acceptRanges), ("unicode/utf8.first", laid_unicode_utf8_first)] }
def FnExactLiftStateSaid : Prop := fnExactLiftStateRow.holds Tryd.pinned (OpenSpec.ofChange fnExactLiftStateSpec)

/-- ITS FALSE NEIGHBOUR: 'it returns false'. Refute it at one input. -/
def fnExactLiftStateWrong : ChangeSpec := { name := "fnExactLiftState", fn := fun _ => fun
  | [d1, d2, d3] => { results := [.lit (.bool false)], args := [d1, d2, d3] }
  | _ => none }
def FnExactLiftStateWrongFalsely : Prop := fnExactLiftStateRow.holds Tryd.pinned (OpenSpec.ofChange fnExactLiftStateWrong)

/-- 'laws.FnExactRemovable': WHATEVER THE INPUT: true; the input reads as it did. -/
def fnExactRemovableSpec : ChangeSpec := { name := "fnExactRemovable", fn := fun _ => fun
  | [d] => { results := [.lit (.bool true)], args := [d] }
  | _ => none }
def fnExactRemovableRow : OpenClaim := { program := "ytkkacglcjfgbiaadoor", sum := "a5914c30f8cc92e68de3f6d82c02a335e10883e75b1b5073d1380923790b4993", func := "loop.example/switchnetworks/laws.FnExactRemovable", spec := "fnExactRemovable", inPlace := ["internal/bytealg.CountString", "internal/bytealg.IndexByteString", "internal/bytealg.IndexString"], unfollowed := true, recurses := true, named := ["unicode/utf8.first", "unicode/utf8.acceptRanges", "internal/bytealg.MaxLen"], apart := false, laid := [("unicode/utf8.acceptRanges", laid_unicode_utf8_acceptRanges), ("unicode/utf8.first", laid_unicode_utf8_first)] }
def FnExactRemovableSaid : Prop := fnExactRemovableRow.holds Tryd.pinned (OpenSpec.ofChange fnExactRemovableSpec)

/-- ITS FALSE NEIGHBOUR: 'it returns false'. Refute it at one input. -/
def fnExactRemovableWrong : ChangeSpec := { name := "fnExactRemovable", fn := fun _ => fun
  | [d] => { results := [.lit (.bool false)], args := [d] }
  | _ => none }
def FnExactRemovableWrongFalsely : Prop := fnExactRemovableRow.holds Tryd.pinned (OpenSpec.ofChange fnExactRemovableWrong)

/-- 'laws.FnExactActsOn': WHATEVER THE INPUT: true; the input reads as it did. -/
def fnExactActsOnSpec : ChangeSpec := { name := "fnExactActsOn", fn := fun _ => fun
  | [d1, d2] => { results := [.lit (.bool true)], args := [d1, d2] }
  | _ => none }
def fnExactActsOnRow : OpenClaim := { program := "ytkkacglcjfgbiaadoor", sum := "a5914c30f8cc92e68de3f6d82c02a335e10883e75b1b5073d1380923790b4993", func := "loop.example/switchnetworks/laws.FnExactActsOn", spec := "fnExactActsOn", inPlace := ["internal/bytealg.CountString", "internal/bytealg.IndexByteString", "internal/bytealg.IndexString"], unfollowed := true, recurses := true, named := ["unicode/utf8.first", "unicode/utf8.acceptRanges", "internal/bytealg.MaxLen"], apart := false, laid := [("unicode/utf8.acceptRanges", laid_unicode_utf8_acceptRanges), ("unicode/utf8.first", laid_unicode_utf8_first)] }
def FnExactActsOnSaid : Prop := fnExactActsOnRow.holds Tryd.pinned (OpenSpec.ofChange fnExactActsOnSpec)

/-- ITS FALSE NEIGHBOUR: 'it returns false'. Refute it at one input. -/
def fnExactActsOnWrong : ChangeSpec := { name := "fnExactActsOn", fn := fun _ => fun
  | [d1, d2] => { results := [.lit (.bool false)], args := [d1, d2] }
  | _ => none }
def FnExactActsOnWrongFalsely : Prop := fnExactActsOnRow.holds Tryd.pinned (OpenSpec.ofChange fnExactActsOnWrong)

/-- 'laws.FnExactFallFrom': WHATEVER THE INPUT: true; the input reads as it did. -/
def fnExactFallFromSpec : ChangeSpec := { name := "fnExactFallFrom", fn := fun _ => fun
  | [d1, d2] => { results := [.lit (.bool true)], args := [d1, d2] }
  | _ => none }
def fnExactFallFromRow : OpenClaim := { program := "ytkkacglcjfgbiaadoor", sum := "a5914c30f8cc92e68de3f6d82c02a335e10883e75b1b5073d1380923790b4993", func := "loop.example/switchnetworks/laws.FnExactFallFrom", spec := "fnExactFallFrom", inPlace := ["internal/bytealg.CountString", "internal/bytealg.IndexByteString", "internal/bytealg.IndexString"], unfollowed := true, recurses := true, named := ["unicode/utf8.first", "unicode/utf8.acceptRanges", "internal/bytealg.MaxLen"], apart := false, laid := [("unicode/utf8.acceptRanges", laid_unicode_utf8_acceptRanges), ("unicode/utf8.first", laid_unicode_utf8_first)] }
def FnExactFallFromSaid : Prop := fnExactFallFromRow.holds Tryd.pinned (OpenSpec.ofChange fnExactFallFromSpec)

/-- ITS FALSE NEIGHBOUR: 'it returns false'. Refute it at one input. -/
def fnExactFallFromWrong : ChangeSpec := { name := "fnExactFallFrom", fn := fun _ => fun
  | [d1, d2] => { results := [.lit (.bool false)], args := [d1, d2] }
  | _ => none }
def FnExactFallFromWrongFalsely : Prop := fnExactFallFromRow.holds Tryd.pinned (OpenSpec.ofChange fnExactFallFromWrong)

/-- 'laws.FnExactRiseFrom': WHATEVER THE INPUT: true; the input reads as it did. -/
def fnExactRiseFromSpec : ChangeSpec := { name := "fnExactRiseFrom", fn := fun _ => fun
  | [d1, d2] => { results := [.lit (.bool true)], args := [d1, d2] }
  | _ => none }
def fnExactRiseFromRow : OpenClaim := { program := "ytkkacglcjfgbiaadoor", sum := "a5914c30f8cc92e68de3f6d82c02a335e10883e75b1b5073d1380923790b4993", func := "loop.example/switchnetworks/laws.FnExactRiseFrom", spec := "fnExactRiseFrom", inPlace := ["internal/bytealg.CountString", "internal/bytealg.IndexByteString", "internal/bytealg.IndexString"], unfollowed := true, recurses := true, named := ["unicode/utf8.first", "unicode/utf8.acceptRanges", "internal/bytealg.MaxLen"], apart := false, laid := [("unicode/utf8.acceptRanges", laid_unicode_utf8_acceptRanges), ("unicode/utf8.first", laid_unicode_utf8_first)] }
def FnExactRiseFromSaid : Prop := fnExactRiseFromRow.holds Tryd.pinned (OpenSpec.ofChange fnExactRiseFromSpec)

/-- ITS FALSE NEIGHBOUR: 'it returns false'. Refute it at one input. -/
def fnExactRiseFromWrong : ChangeSpec := { name := "fnExactRiseFrom", fn := fun _ => fun
  | [d1, d2] => { results := [.lit (.bool false)], args := [d1, d2] }
  | _ => none }
def FnExactRiseFromWrongFalsely : Prop := fnExactRiseFromRow.holds Tryd.pinned (OpenSpec.ofChange fnExactRiseFromWrong)

/-- 'laws.FnExactLeastPoint': WHATEVER THE INPUT: true; the input reads as it did. -/
def fnExactLeastPointSpec : ChangeSpec := { name := "fnExactLeastPoint", fn := fun _ => fun
  | [d] => { results := [.lit (.bool true)], args := [d] }
  | _ => none }
def fnExactLeastPointRow : OpenClaim := { program := "ytkkacglcjfgbiaadoor", sum := "a5914c30f8cc92e68de3f6d82c02a335e10883e75b1b5073d1380923790b4993", func := "loop.example/switchnetworks/laws.FnExactLeastPoint", spec := "fnExactLeastPoint", inPlace := ["internal/bytealg.CountString", "internal/bytealg.IndexByteString", "internal/bytealg.IndexString"], unfollowed := true, recurses := true, named := ["unicode/utf8.first", "unicode/utf8.acceptRanges", "internal/bytealg.MaxLen"], apart := false, laid := [("unicode/utf8.acceptRanges", laid_unicode_utf8_acceptRanges), ("unicode/utf8.first", laid_unicode_utf8_first)] }
def FnExactLeastPointSaid : Prop := fnExactLeastPointRow.holds Tryd.pinned (OpenSpec.ofChange fnExactLeastPointSpec)

/-- ITS FALSE NEIGHBOUR: 'it returns false'. Refute it at one input. -/
def fnExactLeastPointWrong : ChangeSpec := { name := "fnExactLeastPoint", fn := fun _ => fun
  | [d] => { results := [.lit (.bool false)], args := [d] }
  | _ => none }
def FnExactLeastPointWrongFalsely : Prop := fnExactLeastPointRow.holds Tryd.pinned (OpenSpec.ofChange fnExactLeastPointWrong)

/-- 'laws.FnExactGreatestPoint': WHATEVER THE INPUT: true; the input reads as it did. -/
def fnExactGreatestPointSpec : ChangeSpec := { name := "fnExactGreatestPoint", fn := fun _ => fun
  | [d] => { results := [.lit (.bool true)], args := [d] }
  | _ => none }
def fnExactGreatestPointRow : OpenClaim := { program := "ytkkacglcjfgbiaadoor", sum := "a5914c30f8cc92e68de3f6d82c02a335e10883e75b1b5073d1380923790b4993", func := "loop.example/switchnetworks/laws.FnExactGreatestPoint", spec := "fnExactGreatestPoint", inPlace := ["internal/bytealg.CountString", "internal/bytealg.IndexByteString", "internal/bytealg.IndexString"], unfollowed := true, recurses := true, named := ["unicode/utf8.first", "unicode/utf8.acceptRanges", "internal/bytealg.MaxLen"], apart := false, laid := [("unicode/utf8.acceptRanges", laid_unicode_utf8_acceptRanges), ("unicode/utf8.first", laid_unicode_utf8_first)] }
def FnExactGreatestPointSaid : Prop := fnExactGreatestPointRow.holds Tryd.pinned (OpenSpec.ofChange fnExactGreatestPointSpec)

/-- ITS FALSE NEIGHBOUR: 'it returns false'. Refute it at one input. -/
def fnExactGreatestPointWrong : ChangeSpec := { name := "fnExactGreatestPoint", fn := fun _ => fun
  | [d] => { results := [.lit (.bool false)], args := [d] }
  | _ => none }
def FnExactGreatestPointWrongFalsely : Prop := fnExactGreatestPointRow.holds Tryd.pinned (OpenSpec.ofChange fnExactGreatestPointWrong)

/-- 'laws.FnExactGroupsOf': WHATEVER THE INPUT: true; the input reads as it did. -/
def fnExactGroupsOfSpec : ChangeSpec := { name := "fnExactGroupsOf", fn := fun _ => fun
  | [d] => { results := [.lit (.bool true)], args := [d] }
  | _ => none }
def fnExactGroupsOfRow : OpenClaim := { program := "ytkkacglcjfgbiaadoor", sum := "a5914c30f8cc92e68de3f6d82c02a335e10883e75b1b5073d1380923790b4993", func := "loop.example/switchnetworks/laws.FnExactGroupsOf", spec := "fnExactGroupsOf", inPlace := ["internal/bytealg.CountString", "internal/bytealg.IndexByteString", "internal/bytealg.IndexString"], unfollowed := true, recurses := true, named := ["unicode/utf8.first", "unicode/utf8.acceptRanges", "internal/bytealg.MaxLen"], apart := false, laid := [("unicode/utf8.acceptRanges", laid_unicode_utf8_acceptRanges), ("unicode/utf8.first", laid_unicode_utf8_first)] }
def FnExactGroupsOfSaid : Prop := fnExactGroupsOfRow.holds Tryd.pinned (OpenSpec.ofChange fnExactGroupsOfSpec)

/-- ITS FALSE NEIGHBOUR: 'it returns false'. Refute it at one input. -/
def fnExactGroupsOfWrong : ChangeSpec := { name := "fnExactGroupsOf", fn := fun _ => fun
  | [d] => { results := [.lit (.bool false)], args := [d] }
  | _ => none }
def FnExactGroupsOfWrongFalsely : Prop := fnExactGroupsOfRow.holds Tryd.pinned (OpenSpec.ofChange fnExactGroupsOfWrong)

/-- 'laws.FnExactIsFlowing': WHATEVER THE INPUT: true; the input reads as it did. -/
def fnExactIsFlowingSpec : ChangeSpec := { name := "fnExactIsFlowing", fn := fun _ => fun
  | [d] => { results := [.lit (.bool true)], args := [d] }
  | _ => none }
def fnExactIsFlowingRow : OpenClaim := { program := "ytkkacglcjfgbiaadoor", sum := "a5914c30f8cc92e68de3f6d82c02a335e10883e75b1b5073d1380923790b4993", func := "loop.example/switchnetworks/laws.FnExactIsFlowing", spec := "fnExactIsFlowing", inPlace := ["internal/bytealg.CountString", "internal/bytealg.IndexByteString", "internal/bytealg.IndexString"], unfollowed := true, recurses := true, named := ["unicode/utf8.first", "unicode/utf8.acceptRanges", "internal/bytealg.MaxLen"], apart := false, laid := [("unicode/utf8.acceptRanges", laid_unicode_utf8_acceptRanges), ("unicode/utf8.first", laid_unicode_utf8_first)] }
def FnExactIsFlowingSaid : Prop := fnExactIsFlowingRow.holds Tryd.pinned (OpenSpec.ofChange fnExactIsFlowingSpec)

/-- ITS FALSE NEIGHBOUR: 'it returns false'. Refute it at one input. -/
def fnExactIsFlowingWrong : ChangeSpec := { name := "fnExactIsFlowing", fn := fun _ => fun
  | [d] => { results := [.lit (.bool false)], args := [d] }
  | _ => none }
def FnExactIsFlowingWrongFalsely : Prop := fnExactIsFlowingRow.holds Tryd.pinned (OpenSpec.ofChange fnExactIsFlowingWrong)

/-- 'laws.FnExactTurnsToMonotone': WHATEVER THE INPUT: true; the input reads as it did. -/
def fnExactTurnsToMonotoneSpec : ChangeSpec := { name := "fnExactTurnsToMonotone", fn := fun _ => fun
  | [d] => { results := [.lit (.bool true)], args := [d] }
  | _ => none }
def fnExactTurnsToMonotoneRow : OpenClaim := { program := "ytkkacglcjfgbiaadoor", sum := "a5914c30f8cc92e68de3f6d82c02a335e10883e75b1b5073d1380923790b4993", func := "loop.example/switchnetworks/laws.FnExactTurnsToMonotone", spec := "fnExactTurnsToMonotone", inPlace := ["internal/bytealg.CountString", "internal/bytealg.IndexByteString", "internal/bytealg.IndexString"], unfollowed := true, recurses := true, named := ["unicode/utf8.first", "unicode/utf8.acceptRanges", "internal/bytealg.MaxLen"], apart := false, laid := [("unicode/utf8.acceptRanges", laid_unicode_utf8_acceptRanges), ("unicode/utf8.first", laid_unicode_utf8_first)] }
def FnExactTurnsToMonotoneSaid : Prop := fnExactTurnsToMonotoneRow.holds Tryd.pinned (OpenSpec.ofChange fnExactTurnsToMonotoneSpec)

/-- ITS FALSE NEIGHBOUR: 'it returns false'. Refute it at one input. -/
def fnExactTurnsToMonotoneWrong : ChangeSpec := { name := "fnExactTurnsToMonotone", fn := fun _ => fun
  | [d] => { results := [.lit (.bool false)], args := [d] }
  | _ => none }
def FnExactTurnsToMonotoneWrongFalsely : Prop := fnExactTurnsToMonotoneRow.holds Tryd.pinned (OpenSpec.ofChange fnExactTurnsToMonotoneWrong)

/-- 'laws.FnExactJoinPoints': WHATEVER THE INPUT: true; the input reads as it did. -/
def fnExactJoinPointsSpec : ChangeSpec := { name := "fnExactJoinPoints", fn := fun _ => fun
  | [d1, d2, d3] => { results := [.lit (.bool true)], args := [d1, d2, d3] }
  | _ => none }
def fnExactJoinPointsRow : OpenClaim := { program := "ytkkacglcjfgbiaadoor", sum := "a5914c30f8cc92e68de3f6d82c02a335e10883e75b1b5073d1380923790b4993", func := "loop.example/switchnetworks/laws.FnExactJoinPoints", spec := "fnExactJoinPoints", inPlace := ["internal/bytealg.CountString", "internal/bytealg.IndexByteString", "internal/bytealg.IndexString"], unfollowed := true, recurses := true, named := ["unicode/utf8.first", "unicode/utf8.acceptRanges", "internal/bytealg.MaxLen"], apart := false, laid := [("unicode/utf8.acceptRanges", laid_unicode_utf8_acceptRanges), ("unicode/utf8.first", laid_unicode_utf8_first)] }
def FnExactJoinPointsSaid : Prop := fnExactJoinPointsRow.holds Tryd.pinned (OpenSpec.ofChange fnExactJoinPointsSpec)

/-- ITS FALSE NEIGHBOUR: 'it returns false'. Refute it at one input. -/
def fnExactJoinPointsWrong : ChangeSpec := { name := "fnExactJoinPoints", fn := fun _ => fun
  | [d1, d2, d3] => { results := [.lit (.bool false)], args := [d1, d2, d3] }
  | _ => none }
def FnExactJoinPointsWrongFalsely : Prop := fnExactJoinPointsRow.holds Tryd.pinned (OpenSpec.ofChange fnExactJoinPointsWrong)

/- THE SECOND FORM. 'bulk': how many values and letters a reading holds, each counted each time it is reached (what is shared counts as often as it is met; a slice's spare places count too). A statement '..UptoSaid' is the law's where the arguments, and the package variables that the reading takes, are together of bulk at most 1048576: NARROWER than '..Said'. Prove '..Said' where nothing that the law and all that it calls make is longer than what came in: it says more and counts as full. Else prove '..UptoSaid'. A law counts once. -/
mutual
def uptoBulk {H : Type} : DataW H → Nat
  | .lit (.string bytes) => bytes.length + 1
  | .lit _ => 1
  | .nil => 1
  | .ptr d => uptoBulk d + 1
  | .slice elems spare => uptoBulkAll elems + uptoBulkAll spare + 1
  | .agg parts => uptoBulkAll parts + 1
  | .iface _ d => uptoBulk d + 1
  | .map entries => uptoBulkEntries entries + 1
  | .held _ => 1
def uptoBulkAll {H : Type} : List (DataW H) → Nat
  | [] => 0
  | d :: r => uptoBulk d + uptoBulkAll r
def uptoBulkEntries {H : Type} : List (Lit × DataW H) → Nat
  | [] => 0
  | x :: r => uptoBulkEntry x + uptoBulkEntries r
def uptoBulkEntry {H : Type} : Lit × DataW H → Nat
  | (.string bytes, d) => bytes.length + uptoBulk d + 1
  | (_, d) => uptoBulk d + 1
 end
def uptoSmall : (H : Type) → List (DataW H) → Bool := fun _ ds => decide (uptoBulkAll ds ≤ 1048576)
def OpenSpec.upto (s : _root_.Go.ChangeSpec) : _root_.Go.OpenSpec := { _root_.Go.OpenSpec.ofChange s with cond := some uptoSmall }

/-- 'laws.FnExactLiftState', WHERE WHAT IT READS IS OF BULK AT MOST 1048576: true; the input reads as it did. -/
def fnExactLiftStateUptoRow : OpenClaim := { program := "ytkkacglcjfgbiaadoor", sum := "a5914c30f8cc92e68de3f6d82c02a335e10883e75b1b5073d1380923790b4993", func := "loop.example/switchnetworks/laws.FnExactLiftState", spec := "fnExactLiftState", inPlace := ["internal/bytealg.CountString", "internal/bytealg.IndexByteString", "internal/bytealg.IndexString"], unfollowed := true, recurses := true, named := ["unicode/utf8.first", "unicode/utf8.acceptRanges", "internal/bytealg.MaxLen"], apart := false, laid := [("unicode/utf8.acceptRanges", laid_unicode_utf8_acceptRanges), ("unicode/utf8.first", laid_unicode_utf8_first)], narrowed := true }
def FnExactLiftStateUptoSaid : Prop := fnExactLiftStateUptoRow.holds Tryd.pinned (OpenSpec.upto fnExactLiftStateSpec)

/-- 'laws.FnExactRemovable', WHERE WHAT IT READS IS OF BULK AT MOST 1048576: true; the input reads as it did. -/
def fnExactRemovableUptoRow : OpenClaim := { program := "ytkkacglcjfgbiaadoor", sum := "a5914c30f8cc92e68de3f6d82c02a335e10883e75b1b5073d1380923790b4993", func := "loop.example/switchnetworks/laws.FnExactRemovable", spec := "fnExactRemovable", inPlace := ["internal/bytealg.CountString", "internal/bytealg.IndexByteString", "internal/bytealg.IndexString"], unfollowed := true, recurses := true, named := ["unicode/utf8.first", "unicode/utf8.acceptRanges", "internal/bytealg.MaxLen"], apart := false, laid := [("unicode/utf8.acceptRanges", laid_unicode_utf8_acceptRanges), ("unicode/utf8.first", laid_unicode_utf8_first)], narrowed := true }
def FnExactRemovableUptoSaid : Prop := fnExactRemovableUptoRow.holds Tryd.pinned (OpenSpec.upto fnExactRemovableSpec)

/-- 'laws.FnExactActsOn', WHERE WHAT IT READS IS OF BULK AT MOST 1048576: true; the input reads as it did. -/
def fnExactActsOnUptoRow : OpenClaim := { program := "ytkkacglcjfgbiaadoor", sum := "a5914c30f8cc92e68de3f6d82c02a335e10883e75b1b5073d1380923790b4993", func := "loop.example/switchnetworks/laws.FnExactActsOn", spec := "fnExactActsOn", inPlace := ["internal/bytealg.CountString", "internal/bytealg.IndexByteString", "internal/bytealg.IndexString"], unfollowed := true, recurses := true, named := ["unicode/utf8.first", "unicode/utf8.acceptRanges", "internal/bytealg.MaxLen"], apart := false, laid := [("unicode/utf8.acceptRanges", laid_unicode_utf8_acceptRanges), ("unicode/utf8.first", laid_unicode_utf8_first)], narrowed := true }
def FnExactActsOnUptoSaid : Prop := fnExactActsOnUptoRow.holds Tryd.pinned (OpenSpec.upto fnExactActsOnSpec)

/-- 'laws.FnExactFallFrom', WHERE WHAT IT READS IS OF BULK AT MOST 1048576: true; the input reads as it did. -/
def fnExactFallFromUptoRow : OpenClaim := { program := "ytkkacglcjfgbiaadoor", sum := "a5914c30f8cc92e68de3f6d82c02a335e10883e75b1b5073d1380923790b4993", func := "loop.example/switchnetworks/laws.FnExactFallFrom", spec := "fnExactFallFrom", inPlace := ["internal/bytealg.CountString", "internal/bytealg.IndexByteString", "internal/bytealg.IndexString"], unfollowed := true, recurses := true, named := ["unicode/utf8.first", "unicode/utf8.acceptRanges", "internal/bytealg.MaxLen"], apart := false, laid := [("unicode/utf8.acceptRanges", laid_unicode_utf8_acceptRanges), ("unicode/utf8.first", laid_unicode_utf8_first)], narrowed := true }
def FnExactFallFromUptoSaid : Prop := fnExactFallFromUptoRow.holds Tryd.pinned (OpenSpec.upto fnExactFallFromSpec)

/-- 'laws.FnExactRiseFrom', WHERE WHAT IT READS IS OF BULK AT MOST 1048576: true; the input reads as it did. -/
def fnExactRiseFromUptoRow : OpenClaim := { program := "ytkkacglcjfgbiaadoor", sum := "a5914c30f8cc92e68de3f6d82c02a335e10883e75b1b5073d1380923790b4993", func := "loop.example/switchnetworks/laws.FnExactRiseFrom", spec := "fnExactRiseFrom", inPlace := ["internal/bytealg.CountString", "internal/bytealg.IndexByteString", "internal/bytealg.IndexString"], unfollowed := true, recurses := true, named := ["unicode/utf8.first", "unicode/utf8.acceptRanges", "internal/bytealg.MaxLen"], apart := false, laid := [("unicode/utf8.acceptRanges", laid_unicode_utf8_acceptRanges), ("unicode/utf8.first", laid_unicode_utf8_first)], narrowed := true }
def FnExactRiseFromUptoSaid : Prop := fnExactRiseFromUptoRow.holds Tryd.pinned (OpenSpec.upto fnExactRiseFromSpec)

/-- 'laws.FnExactLeastPoint', WHERE WHAT IT READS IS OF BULK AT MOST 1048576: true; the input reads as it did. -/
def fnExactLeastPointUptoRow : OpenClaim := { program := "ytkkacglcjfgbiaadoor", sum := "a5914c30f8cc92e68de3f6d82c02a335e10883e75b1b5073d1380923790b4993", func := "loop.example/switchnetworks/laws.FnExactLeastPoint", spec := "fnExactLeastPoint", inPlace := ["internal/bytealg.CountString", "internal/bytealg.IndexByteString", "internal/bytealg.IndexString"], unfollowed := true, recurses := true, named := ["unicode/utf8.first", "unicode/utf8.acceptRanges", "internal/bytealg.MaxLen"], apart := false, laid := [("unicode/utf8.acceptRanges", laid_unicode_utf8_acceptRanges), ("unicode/utf8.first", laid_unicode_utf8_first)], narrowed := true }
def FnExactLeastPointUptoSaid : Prop := fnExactLeastPointUptoRow.holds Tryd.pinned (OpenSpec.upto fnExactLeastPointSpec)

/-- 'laws.FnExactGreatestPoint', WHERE WHAT IT READS IS OF BULK AT MOST 1048576: true; the input reads as it did. -/
def fnExactGreatestPointUptoRow : OpenClaim := { program := "ytkkacglcjfgbiaadoor", sum := "a5914c30f8cc92e68de3f6d82c02a335e10883e75b1b5073d1380923790b4993", func := "loop.example/switchnetworks/laws.FnExactGreatestPoint", spec := "fnExactGreatestPoint", inPlace := ["internal/bytealg.CountString", "internal/bytealg.IndexByteString", "internal/bytealg.IndexString"], unfollowed := true, recurses := true, named := ["unicode/utf8.first", "unicode/utf8.acceptRanges", "internal/bytealg.MaxLen"], apart := false, laid := [("unicode/utf8.acceptRanges", laid_unicode_utf8_acceptRanges), ("unicode/utf8.first", laid_unicode_utf8_first)], narrowed := true }
def FnExactGreatestPointUptoSaid : Prop := fnExactGreatestPointUptoRow.holds Tryd.pinned (OpenSpec.upto fnExactGreatestPointSpec)

/-- 'laws.FnExactGroupsOf', WHERE WHAT IT READS IS OF BULK AT MOST 1048576: true; the input reads as it did. -/
def fnExactGroupsOfUptoRow : OpenClaim := { program := "ytkkacglcjfgbiaadoor", sum := "a5914c30f8cc92e68de3f6d82c02a335e10883e75b1b5073d1380923790b4993", func := "loop.example/switchnetworks/laws.FnExactGroupsOf", spec := "fnExactGroupsOf", inPlace := ["internal/bytealg.CountString", "internal/bytealg.IndexByteString", "internal/bytealg.IndexString"], unfollowed := true, recurses := true, named := ["unicode/utf8.first", "unicode/utf8.acceptRanges", "internal/bytealg.MaxLen"], apart := false, laid := [("unicode/utf8.acceptRanges", laid_unicode_utf8_acceptRanges), ("unicode/utf8.first", laid_unicode_utf8_first)], narrowed := true }
def FnExactGroupsOfUptoSaid : Prop := fnExactGroupsOfUptoRow.holds Tryd.pinned (OpenSpec.upto fnExactGroupsOfSpec)

/-- 'laws.FnExactIsFlowing', WHERE WHAT IT READS IS OF BULK AT MOST 1048576: true; the input reads as it did. -/
def fnExactIsFlowingUptoRow : OpenClaim := { program := "ytkkacglcjfgbiaadoor", sum := "a5914c30f8cc92e68de3f6d82c02a335e10883e75b1b5073d1380923790b4993", func := "loop.example/switchnetworks/laws.FnExactIsFlowing", spec := "fnExactIsFlowing", inPlace := ["internal/bytealg.CountString", "internal/bytealg.IndexByteString", "internal/bytealg.IndexString"], unfollowed := true, recurses := true, named := ["unicode/utf8.first", "unicode/utf8.acceptRanges", "internal/bytealg.MaxLen"], apart := false, laid := [("unicode/utf8.acceptRanges", laid_unicode_utf8_acceptRanges), ("unicode/utf8.first", laid_unicode_utf8_first)], narrowed := true }
def FnExactIsFlowingUptoSaid : Prop := fnExactIsFlowingUptoRow.holds Tryd.pinned (OpenSpec.upto fnExactIsFlowingSpec)

/-- 'laws.FnExactTurnsToMonotone', WHERE WHAT IT READS IS OF BULK AT MOST 1048576: true; the input reads as it did. -/
def fnExactTurnsToMonotoneUptoRow : OpenClaim := { program := "ytkkacglcjfgbiaadoor", sum := "a5914c30f8cc92e68de3f6d82c02a335e10883e75b1b5073d1380923790b4993", func := "loop.example/switchnetworks/laws.FnExactTurnsToMonotone", spec := "fnExactTurnsToMonotone", inPlace := ["internal/bytealg.CountString", "internal/bytealg.IndexByteString", "internal/bytealg.IndexString"], unfollowed := true, recurses := true, named := ["unicode/utf8.first", "unicode/utf8.acceptRanges", "internal/bytealg.MaxLen"], apart := false, laid := [("unicode/utf8.acceptRanges", laid_unicode_utf8_acceptRanges), ("unicode/utf8.first", laid_unicode_utf8_first)], narrowed := true }
def FnExactTurnsToMonotoneUptoSaid : Prop := fnExactTurnsToMonotoneUptoRow.holds Tryd.pinned (OpenSpec.upto fnExactTurnsToMonotoneSpec)

/-- 'laws.FnExactJoinPoints', WHERE WHAT IT READS IS OF BULK AT MOST 1048576: true; the input reads as it did. -/
def fnExactJoinPointsUptoRow : OpenClaim := { program := "ytkkacglcjfgbiaadoor", sum := "a5914c30f8cc92e68de3f6d82c02a335e10883e75b1b5073d1380923790b4993", func := "loop.example/switchnetworks/laws.FnExactJoinPoints", spec := "fnExactJoinPoints", inPlace := ["internal/bytealg.CountString", "internal/bytealg.IndexByteString", "internal/bytealg.IndexString"], unfollowed := true, recurses := true, named := ["unicode/utf8.first", "unicode/utf8.acceptRanges", "internal/bytealg.MaxLen"], apart := false, laid := [("unicode/utf8.acceptRanges", laid_unicode_utf8_acceptRanges), ("unicode/utf8.first", laid_unicode_utf8_first)], narrowed := true }
def FnExactJoinPointsUptoSaid : Prop := fnExactJoinPointsUptoRow.holds Tryd.pinned (OpenSpec.upto fnExactJoinPointsSpec)

end Rows
end Go.Proofs.YtkkacglcjfgbiaaDoor
