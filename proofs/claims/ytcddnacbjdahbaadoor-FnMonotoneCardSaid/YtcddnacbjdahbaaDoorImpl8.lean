/- The program's settling, rising and falling, least and greatest points, joins and meets. -/
import Derived.Test.YtcddnacbjdahbaaDoorImplA
import Derived.Test.YtcddnacbjdahbaaDoorPt
import Derived.Deep.LoopGhost
namespace Go.Proofs.YtcddnacbjdahbaaDoor
open Go Go.RowKit Go.Sw
set_option maxRecDepth 100000
set_option linter.unusedVariables false









theorem restless_impl (s : ByteArray) (x : Int) (w : World) (hs : s.size ≤ 1048576) :
    Calls Tryd.prog 32 #[.string s, .int .i64 x] w fun e w' => Below w.heap.size w w' ∧ e = .returned (.int .i64 (restI s x)) := by
  cases h : stB s x
  · have hr : restI s x = -1 := by rw [restI, h]; rfl
    have Hr := Lib.hid hr
    have c := Lib.hid (stateOf_no s x w hs h)
    clear hr h
    go_enter Tryd.func32, Tryd.ntmps32
    go_wp2_with fail
    refine c.out.mono ?_
    rintro e w1 ⟨hW1, v, rfl⟩
    go_wp2_with fail
    go_ret
    exact ⟨hW1, ret_int Hr.out.symm⟩
  · obtain ⟨h1, h2, h3⟩ := stB_yes h
    have hn := (netOf_ok h1).2
    have h4 := pw_le hn
    obtain ⟨k, rfl⟩ := Int.eq_ofNat_of_zero_le h2
    have hr : restI s k = (stepN (netOf s) k ^^^ k : Nat) := by rw [restI, h]; rfl
    have hx := i64_xor (stepN (netOf s) k) k (by have := stepN_lt (netOf s) k; omega) (by omega)
    have Hr := Lib.hid hr
    have c := Lib.hid (stateOf_yes s k w hs h)
    clear hr h h1
    go_enter Tryd.func32, Tryd.ntmps32
    go_wp2_with fail
    refine c.out.mono ?_
    rintro e w1 ⟨hW1, b, cap, rfl, hb1, hb2, hat⟩
    have c2 := Lib.hid (step_any b cap k (netOf s) hn (by omega) w1 hat hb2)
    clear hat
    go_wp2_with fail
    refine c2.out.mono ?_
    rintro e w2 ⟨rfl, hW2⟩
    go_wp2_with fail
    go_ret
    exact ⟨hW1.trans (hW2.mono hW1.size), ret_int Hr.out.symm⟩



end Go.Proofs.YtcddnacbjdahbaaDoor
