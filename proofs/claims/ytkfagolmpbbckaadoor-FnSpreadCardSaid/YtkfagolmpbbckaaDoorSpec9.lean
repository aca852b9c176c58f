/- The reference's removing of switches: which can be, states with one put in. -/
import Derived.Test.YtkfagolmpbbckaaDoorSpecC
import Derived.Test.YtkfagolmpbbckaaDoorPu
import Derived.Test.YtkfagolmpbbckaaDoorSl
namespace Go.Proofs.YtkfagolmpbbckaaDoor
open Go Go.RowKit Go.Sw
set_option maxRecDepth 100000
set_option linter.unusedVariables false

theorem l9Put_any (s i : Nat) (hs : s < 16) (hi : i < 5) (w : World) :
    Calls Tryd.prog 212 #[.int .i64 s, .int .i64 i, .int .i64 0] w fun e w' => e = .returned (.int .i64 (putN s i : Nat)) ∧ w = w' := by
  obtain ⟨ha, h0, h1, ho, hz⟩ := put_facts s i hs hi
  have h2 := pow2_le i (by omega)
  go_enter Tryd.func212, Tryd.ntmps212
  go_wp2
  go_ret
  exact ⟨rfl, rfl⟩

theorem l9Lift_any (b cap s i : Nat) (N : Net) (h2 : 2 ≤ N.n) (hn : N.n ≤ 5) (hs : s < pw (N.n - 1)) (hi : i < N.n) (w : World) (hat : StrsAt w b (netTexts N)) :
    Calls Tryd.prog 182 #[.slice (some ⟨b, 0, none⟩) N.n cap, .int .i64 i, .int .i64 s] w fun e w' => e = .returned (.int .i64 (liftN N i s)) ∧ w = w' := by
  have hp := pw_le hn
  have hh := pw_half (show 1 ≤ N.n by omega)
  have hlt := putN_lt s i (N.n - 1) hs
  rw [show N.n - 1 + 1 = N.n by omega] at hlt
  have hcell : w.cell? ⟨b, i, none⟩ = some (.string (tabText N.n (N.f i))) := by
    rw [← netTexts_get N i hi]; exact hat i (by rw [netTexts_length]; exact hi)
  have c1 := Lib.hid (l9Put_any s i (by omega) (by omega) w)
  have c2 := Lib.hid (l1At_any N.n (N.f i) (putN s i) hn hlt w)
  have c3 := Lib.hid (l1Set_any (putN s i) i (N.f i (putN s i)) (by omega) (by omega) w)
  clear hat hh
  go_enter Tryd.func182, Tryd.ntmps182
  go_wp2_with fail
  refine c1.out.mono ?_
  rintro e w' ⟨rfl, rfl⟩
  go_wp2_with fail
  refine c2.out.mono ?_
  rintro e w' ⟨rfl, rfl⟩
  go_wp2_with fail
  refine c3.out.mono ?_
  rintro e w' ⟨rfl, rfl⟩
  go_wp2_with fail
  go_ret
  exact ⟨rfl, rfl⟩

theorem l9Free_any (b cap i : Nat) (N : Net) (hn : N.n ≤ 5) (hi : i < N.n) (w : World) (hat : StrsAt w b (netTexts N)) :
    Calls Tryd.prog 181 #[.slice (some ⟨b, 0, none⟩) N.n cap, .int .i64 i] w fun e w' => e = .returned (.bool (freeB N i)) ∧ w = w' := by
  by_cases h1 : 1 < N.n
  · have hf : freeB N i = (sg (sgU N.n (N.f i) i) (sgD N.n (N.f i) i) == 0) := by rw [freeB, decide_eq_true h1, Bool.true_and, sg_zero]; rfl
    have c := Lib.hid (l7Sign_any b cap N hn i i hi hi w hat)
    rw [hf]
    clear hat hf
    go_enter Tryd.func181, Tryd.ntmps181
    go_wp2_with fail
    refine c.out.mono ?_
    rintro e w' ⟨rfl, rfl⟩
    go_wp2_with fail
    go_ret
    exact ⟨rfl, rfl⟩
  · have hf : freeB N i = false := by rw [freeB, decide_eq_false h1, Bool.false_and]
    rw [hf]
    clear hat hf
    go_enter Tryd.func181, Tryd.ntmps181
    go_wp2_with fail
    go_ret
    exact ⟨rfl, rfl⟩


end Go.Proofs.YtkfagolmpbbckaaDoor
