/- Walks of exact laws: the program and the reference return the same. -/
import Derived.Test.YtkfagolmpbbckaaDoorPf
import Derived.Test.YtkfagolmpbbckaaDoorPe
namespace Go.Proofs.YtkfagolmpbbckaaDoor
open Go Go.RowKit Go.Sw
set_option maxRecDepth 100000
set_option linter.unusedVariables false

theorem law_ExactPointsByReducing (a0 : ByteArray) (h0 : a0.size ≤ maxLen) (w : World) :
    Calls Tryd.prog 9 #[.string a0] w fun e w' => Below w.heap.size w w' ∧ e = .returned (.bool true) := by
  have m0 : a0.size ≤ 9223372036854775807 := by unfold maxLen at h0; omega
  by_cases s0 : a0.size ≤ 1048576
  case' neg =>
    go_enter Tryd.func9, Tryd.ntmps9
    go_wp2_with fail
    go_ret
    exact ⟨Below.refl _ _, rfl⟩
  have e0 := nats_length (ptsR a0)
  have c1' := byRed_spec a0 w s0
  have c2' := fun w => byRed_impl a0 w s0
  rw [← e0] at c1'
  simp only [← e0] at c2'
  have c1 := Lib.hid c1'
  have c2 := Lib.hid c2'
  clear c1' c2' e0
  have hl0 := natsR_length a0
  obtain ⟨xs, hxs⟩ : ∃ xs, nats (ptsR a0) = xs := ⟨_, rfl⟩
  rw [hxs] at c1 c2 hl0
  have hl : xs.length ≤ 4000000 := by omega
  have hq : (((1 + xs.length : Nat) : Int) != ((1 + xs.length : Nat) : Int)) = false := by simp
  clear hxs hl0
  go_enter Tryd.func9, Tryd.ntmps9
  go_wp2_with fail
  refine c1.out.mono ?_
  rintro e w1 ⟨hW1, a1, cp1, rfl, hI1⟩
  go_wp2_with fail
  refine (c2.out _).mono ?_
  rintro e w2 ⟨hW2, a2, cp2, rfl, hI2⟩
  have c3 := Lib.hid (eqIntS_any _ _ a2 a1 cp2 cp1 xs w2 hI2 (hI1.below hW2) hl)
  go_wp2_with fail
  refine c3.out.mono ?_
  rintro e w3 ⟨hW3, rfl⟩
  have c4 := Lib.hid (markIntS_any w1.heap.size xs.length 1 a2 cp2 xs w3 (hI2.below hW3) rfl hl (by omega))
  go_wp2_with fail
  refine c4.out.mono ?_
  rintro e w4 ⟨⟨hW4, hI4⟩, rfl⟩
  have c5 := Lib.hid (heldIntS_any w1.heap.size xs.length 1 a2 cp2 w4 hI4 hl (by omega))
  go_wp2_with fail
  refine c5.out.mono ?_
  rintro e w' ⟨rfl, rfl⟩
  go_wp2_with fail
  refine (c2.out _).mono ?_
  rintro e w5 ⟨hW5, a5, cp5, rfl, hI5⟩
  have hI1c : IntsAt w5 w.heap.size a1 xs := (((hI1.below hW2).below hW3).below' hW4 (fun h0 g hg => hI1.lt h0 g hg)).below hW5
  have c6 := Lib.hid (eqIntS_any _ _ a5 a1 cp5 cp1 xs w5 hI5 hI1c hl)
  go_wp2_with fail
  refine c6.out.mono ?_
  rintro e w6 ⟨hW6, rfl⟩
  have c7 := Lib.hid (heldIntS_any w1.heap.size xs.length 1 a2 cp2 w6 ((hI4.below hW5).below hW6) hl (by omega))
  go_wp2_with fail
  refine c7.out.mono ?_
  rintro e w' ⟨rfl, rfl⟩
  go_wp2_with fail
  go_ret
  have k1 := hW1.size
  have k2 := hW2.size
  have k3 := hW3.size
  have k4 := hW4.size
  have k5 := hW5.size
  exact ⟨((((hW1.trans (hW2.mono (by omega))).trans (hW3.mono (by omega))).trans (hW4.mono (by omega))).trans (hW5.mono (by omega))).trans (hW6.mono (by omega)), rfl⟩

end Go.Proofs.YtkfagolmpbbckaaDoor
