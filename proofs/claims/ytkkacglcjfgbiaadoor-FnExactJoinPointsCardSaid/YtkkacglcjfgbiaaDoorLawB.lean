/- Walks of exact laws: the program and the reference return the same. -/
import Derived.Test.YtkkacglcjfgbiaaDoorImpl8
import Derived.Test.YtkkacglcjfgbiaaDoorSpec8
namespace Go.Proofs.YtkkacglcjfgbiaaDoor
open Go Go.RowKit Go.Sw
set_option maxRecDepth 100000
set_option linter.unusedVariables false

theorem law_ExactRiseFrom (a0 : ByteArray) (h0 : a0.size ≤ maxLen) (a1 : Int) (h1 : (Lit.int .i64 a1).wf = true) (w : World) :
    Calls Tryd.prog 7 #[.string a0, .int .i64 a1] w fun e w' => Below w.heap.size w w' ∧ e = .returned (.bool true) := by
  have m0 : a0.size ≤ 9223372036854775807 := by unfold maxLen at h0; omega
  by_cases s0 : a0.size ≤ 1048576
  case' neg =>
    go_enter Tryd.func7, Tryd.ntmps7
    go_wp2_with fail
    go_ret
    exact ⟨Below.refl _ _, rfl⟩
  have c1 := Lib.hid (riseFrom_spec a0 a1 w s0)
  have c2 := Lib.hid (fun w => riseFrom_impl a0 a1 w s0)
  go_enter Tryd.func7, Tryd.ntmps7
  go_wp2_with fail
  refine c1.out.mono ?_
  rintro e w1 ⟨hW1, rfl⟩
  go_wp2_with fail
  refine (c2.out _).mono ?_
  rintro e w2 ⟨hW2, rfl⟩
  go_wp2_with fail
  go_ret
  exact ⟨hW1.trans (hW2.mono hW1.size), rfl⟩

theorem law_ExactFallFrom (a0 : ByteArray) (h0 : a0.size ≤ maxLen) (a1 : Int) (h1 : (Lit.int .i64 a1).wf = true) (w : World) :
    Calls Tryd.prog 6 #[.string a0, .int .i64 a1] w fun e w' => Below w.heap.size w w' ∧ e = .returned (.bool true) := by
  have m0 : a0.size ≤ 9223372036854775807 := by unfold maxLen at h0; omega
  by_cases s0 : a0.size ≤ 1048576
  case' neg =>
    go_enter Tryd.func6, Tryd.ntmps6
    go_wp2_with fail
    go_ret
    exact ⟨Below.refl _ _, rfl⟩
  have c1 := Lib.hid (fallFrom_spec a0 a1 w s0)
  have c2 := Lib.hid (fun w => fallFrom_impl a0 a1 w s0)
  go_enter Tryd.func6, Tryd.ntmps6
  go_wp2_with fail
  refine c1.out.mono ?_
  rintro e w1 ⟨hW1, rfl⟩
  go_wp2_with fail
  refine (c2.out _).mono ?_
  rintro e w2 ⟨hW2, rfl⟩
  go_wp2_with fail
  go_ret
  exact ⟨hW1.trans (hW2.mono hW1.size), rfl⟩

theorem law_ExactLeastPoint (a0 : ByteArray) (h0 : a0.size ≤ maxLen) (w : World) :
    Calls Tryd.prog 8 #[.string a0] w fun e w' => Below w.heap.size w w' ∧ e = .returned (.bool true) := by
  have m0 : a0.size ≤ 9223372036854775807 := by unfold maxLen at h0; omega
  by_cases s0 : a0.size ≤ 1048576
  case' neg =>
    go_enter Tryd.func8, Tryd.ntmps8
    go_wp2_with fail
    go_ret
    exact ⟨Below.refl _ _, rfl⟩
  have c1 := Lib.hid (leastPoint_spec a0 w s0)
  have c2 := Lib.hid (fun w => leastPoint_impl a0 w s0)
  go_enter Tryd.func8, Tryd.ntmps8
  go_wp2_with fail
  refine c1.out.mono ?_
  rintro e w1 ⟨hW1, rfl⟩
  go_wp2_with fail
  refine (c2.out _).mono ?_
  rintro e w2 ⟨hW2, rfl⟩
  go_wp2_with fail
  go_ret
  exact ⟨hW1.trans (hW2.mono hW1.size), rfl⟩

theorem law_ExactGreatestPoint (a0 : ByteArray) (h0 : a0.size ≤ maxLen) (w : World) :
    Calls Tryd.prog 9 #[.string a0] w fun e w' => Below w.heap.size w w' ∧ e = .returned (.bool true) := by
  have m0 : a0.size ≤ 9223372036854775807 := by unfold maxLen at h0; omega
  by_cases s0 : a0.size ≤ 1048576
  case' neg =>
    go_enter Tryd.func9, Tryd.ntmps9
    go_wp2_with fail
    go_ret
    exact ⟨Below.refl _ _, rfl⟩
  have c1 := Lib.hid (greatestPoint_spec a0 w s0)
  have c2 := Lib.hid (fun w => greatestPoint_impl a0 w s0)
  go_enter Tryd.func9, Tryd.ntmps9
  go_wp2_with fail
  refine c1.out.mono ?_
  rintro e w1 ⟨hW1, rfl⟩
  go_wp2_with fail
  refine (c2.out _).mono ?_
  rintro e w2 ⟨hW2, rfl⟩
  go_wp2_with fail
  go_ret
  exact ⟨hW1.trans (hW2.mono hW1.size), rfl⟩

theorem law_ExactJoinPoints (a0 : ByteArray) (h0 : a0.size ≤ maxLen) (a1 : Int) (h1 : (Lit.int .i64 a1).wf = true) (a2 : Int) (h2 : (Lit.int .i64 a2).wf = true) (w : World) :
    Calls Tryd.prog 13 #[.string a0, .int .i64 a1, .int .i64 a2] w fun e w' => Below w.heap.size w w' ∧ e = .returned (.bool true) := by
  have m0 : a0.size ≤ 9223372036854775807 := by unfold maxLen at h0; omega
  by_cases s0 : a0.size ≤ 1048576
  case' neg =>
    go_enter Tryd.func13, Tryd.ntmps13
    go_wp2_with fail
    go_ret
    exact ⟨Below.refl _ _, rfl⟩
  have c1 := Lib.hid (joinPoints_spec a0 a1 a2 w s0)
  have c2 := Lib.hid (fun w => joinPoints_impl a0 a1 a2 w s0)
  go_enter Tryd.func13, Tryd.ntmps13
  go_wp2_with fail
  refine c1.out.mono ?_
  rintro e w1 ⟨hW1, rfl⟩
  go_wp2_with fail
  refine (c2.out _).mono ?_
  rintro e w2 ⟨hW2, rfl⟩
  go_wp2_with fail
  go_ret
  exact ⟨hW1.trans (hW2.mono hW1.size), rfl⟩


end Go.Proofs.YtkkacglcjfgbiaaDoor
