/- The reference's draws of a network with two switches. -/
import Derived.Test.YtkfagolmpbbckaaDoorMa
namespace Go.Proofs.YtkfagolmpbbckaaDoor
open Go Go.RowKit Go.Sw
set_option maxRecDepth 100000
set_option linter.unusedVariables false

theorem drawInf_any (a : Option Addr) (len cap : Nat) (hc : cap ≤ maxLen) (w : World) (h : CodeAt w a len cap) :
    Calls Tryd.prog 37 #[.slice a len cap] w fun e w' => TopTII w w' e := by
  have c0 := Lib.hid (l14Open_any a len cap hc w h)
  clear h
  go_enter Tryd.func37, Tryd.ntmps37
  go_wp2_with fail
  refine c0.out.mono ?_
  rintro e w1 ⟨hW1, rfl, hR1⟩
  have c1 := Lib.hid (l7Open_any _ 0 (by omega) w1 hR1)
  have hw1 := hW1.size
  clear hR1
  go_wp2_with fail
  refine c1.out.mono ?_
  rintro e w2 ⟨hD2, hR2, t, ht, rfl⟩
  have c2 := Lib.hid (l1Switch_any _ _ (by omega) w2 hR2)
  have HD2 := Lib.hid hD2
  clear hR2 hD2
  go_wp2_with fail
  refine c2.out.mono ?_
  rintro e w3 ⟨hD3, hR3, i, hi, rfl⟩
  have c3 := Lib.hid (l1Switch_any _ _ (by omega) w3 hR3)
  have HD3 := Lib.hid (HD2.out.trans hD3)
  clear hR3 hD3
  go_wp2_with fail
  refine c3.out.mono ?_
  rintro e w4 ⟨hD4, hR4, j, hj, rfl⟩
  go_wp2_with fail
  go_ret3
  exact ⟨Below.drw hW1 (HD3.out.trans hD4) (Nat.le_refl _) hw1, t, i, j, ht, hi, hj, rfl⟩
end Go.Proofs.YtkfagolmpbbckaaDoor
