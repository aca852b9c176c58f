/- The program's attractors: how many. -/
import Derived.Test.YtkfagolmpbbckaaGreatDoorIv
import Derived.Test.YtkfagolmpbbckaaGreatDoorImplB
namespace Go.Proofs.YtkfagolmpbbckaaGreatDoor
open Go Go.RowKit Go.Sw
set_option maxRecDepth 100000
set_option linter.unusedVariables false

theorem attractorsOf_impl (t : ByteArray) (w : World) (hs : t.size ≤ 1048576) (hok0 : netOk t = true) :
    Calls Tryz.prog 12 #[.string t] w fun e w' => Below w.heap.size w w' ∧ ∃ a c, e = .returned (.slice a (attL (netOf t)).length c) := by
  have c := Lib.hid (readNetwork_any t w hs)
  have hn := netOf_ok hok0
  have Hok0 := Lib.hid hok0
  clear hok0
  go_enter Tryz.func12, Tryz.ntmps12
  go_wp2_with fail
  refine c.out.mono ?_
  rintro e w1 ⟨hW1, ⟨hbad, rfl⟩ | ⟨hok, b, cap, rfl, hb1, hb2, hat⟩⟩
  · have := Hok0.out
    rw [hbad] at this
    cases this
  · have cF := Lib.hid (attractors_any b cap (netOf t) hn.2 w1 hat hb2)
    clear hok hat
    go_wp2_with fail
    refine cF.out.mono ?_
    rintro e w2 ⟨hW2, out, vs, rfl, hR⟩
    obtain ⟨a, c2, rfl, _⟩ := hR.get
    have hw1 := hW1.size
    clear hR
    go_wp2_with fail
    go_ret
    exact ⟨hW1.trans (hW2.mono hw1), a, c2, rfl⟩
end Go.Proofs.YtkfagolmpbbckaaGreatDoor
