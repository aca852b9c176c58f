/- The program's network with a switch the other way round. -/
import Derived.Test.YtifallippecdmaaGreatDoorImplU
import Derived.Test.YtifallippecdmaaGreatDoorImplR
namespace Go.Proofs.YtifallippecdmaaGreatDoor
open Go Go.RowKit Go.Sw
set_option maxRecDepth 100000
set_option linter.unusedVariables false

theorem swB_natT {t : ByteArray} (h : netOk t = true) {i : Nat} (hi : i < (netOf t).n) : swB t (i : Int) = true := by
  unfold swB
  rw [h, Bool.true_and, decide_eq_true (by omega), decide_eq_true (by omega)]; rfl
theorem turnNetwork_impl (t : ByteArray) (i : Nat) (w : World) (hs : t.size ≤ 1048576) (hok : netOk t = true) (hi : i < (netOf t).n) :
    Calls Tryz.prog 9 #[.string t, .int .i64 i] w fun e w' => Below w.heap.size w w' ∧ e = .returned (.tuple #[.string (netText (turnN (netOf t) (2 ^ i))), .bool true]) := by
  have hn := netOf_ok hok
  have c := Lib.hid (switchOf_yes t i w hs (swB_natT hok hi))
  have hi1 : (0 : Int) ≤ (i : Int) := by omega
  have htw := (turn_step (netOf t) (2 ^ i)).text
  have hpi := pow2_le i (by omega)
  have hpw := pw_le hn.2
  have hpc := pw_cast i
  have h2i : pw i < pw (netOf t).n := Nat.pow_lt_pow_right (by decide) hi
  have h2e : (2 : Nat) ^ i = pw i := rfl
  rw [h2e] at htw ⊢
  clear hok
  obtain ⟨N, hN⟩ : ∃ N, netOf t = N := ⟨_, rfl⟩
  rw [hN] at hn hi c htw hpw h2i ⊢
  obtain ⟨tx, htx⟩ : ∃ tx, netText (turnN N (pw i)) = tx := ⟨_, rfl⟩
  rw [htx] at htw ⊢
  have Htw := Lib.hid htw
  clear hN htx htw h2e
  go_enter Tryz.func9, Tryz.ntmps9
  go_wp2_with fail
  refine c.out.mono ?_
  rintro e w1 ⟨hW1, b, cap, rfl, hb1, hb2, hat⟩
  have cT := Lib.hid (turned_any b cap (pw i) N hn.1 hn.2 h2i w1 hat hb2)
  have hW1s := hW1.size
  clear hat
  go_wp2_with fail
  refine cT.out.mono ?_
  rintro e w2 ⟨hW2, b', c', rfl, hb3, hb4, hat2⟩
  have cX := Lib.hid (netText_any b' c' ⟨N.n, stepF N.n fun s => stepN N (s ^^^ pw i) ^^^ pw i⟩ hn.1 hn.2 w2 hat2 hb4)
  rw [Htw.out] at cX
  have hB2 := hW1.trans (hW2.mono hW1s)
  clear hat2
  go_wp2_with fail
  refine cX.out.mono ?_
  rintro e w3 ⟨hW3, rfl⟩
  go_wp2_with fail
  go_ret2
  exact ⟨hB2.trans (hW3.mono hB2.size), rfl⟩
end Go.Proofs.YtifallippecdmaaGreatDoor
