/- Walks of exact laws: the program and the reference return the same. -/
import Derived.Test.YtcddnacbjdahbaaDoorSpecX
namespace Go.Proofs.YtcddnacbjdahbaaDoor
open Go Go.RowKit Go.Sw
set_option maxRecDepth 100000
set_option linter.unusedVariables false

theorem law_ExactAttractorsIn (a0 : ByteArray) (h0 : a0.size ≤ maxLen) (a1 : ByteArray) (h1 : a1.size ≤ maxLen) (w : World) :
    Calls Tryd.prog 3 #[.string a0, .string a1] w fun e w' => Below w.heap.size w w' ∧ e = .returned (.bool true) := by
  have m0 : a0.size ≤ 9223372036854775807 := by unfold maxLen at h0; omega
  have m1 : a1.size ≤ 9223372036854775807 := by unfold maxLen at h1; omega
  by_cases s0 : a0.size ≤ 1048576
  case' neg =>
    go_enter Tryd.func3, Tryd.ntmps3
    go_wp2_with fail
    go_ret
    exact ⟨Below.refl _ _, rfl⟩
  by_cases s1 : a1.size ≤ 1048576
  case' neg =>
    go_enter Tryd.func3, Tryd.ntmps3
    go_wp2_with fail
    go_ret
    exact ⟨Below.refl _ _, rfl⟩
  have c1 := Lib.hid (attractorsIn_spec a0 a1 w s0 s1)
  have c2 := Lib.hid (fun w => attractorsIn_impl a0 a1 w s0 s1)
  go_enter Tryd.func3, Tryd.ntmps3
  go_wp2_with fail
  refine c1.out.mono ?_
  rintro e w1 ⟨hW1, rfl⟩
  go_wp2_with fail
  refine (c2.out _).mono ?_
  rintro e w2 ⟨hW2, rfl⟩
  go_wp2_with fail
  go_ret
  exact ⟨hW1.trans (hW2.mono hW1.size), rfl⟩

end Go.Proofs.YtcddnacbjdahbaaDoor
