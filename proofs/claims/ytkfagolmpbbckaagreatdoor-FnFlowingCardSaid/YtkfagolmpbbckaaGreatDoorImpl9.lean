/- The program's removing of switches: which can be, states with one put in. -/
import Derived.Test.YtkfagolmpbbckaaGreatDoorImplA
import Derived.Test.YtkfagolmpbbckaaGreatDoorP1
import Derived.Test.YtkfagolmpbbckaaGreatDoorSl
namespace Go.Proofs.YtkfagolmpbbckaaGreatDoor
open Go Go.RowKit Go.Sw
set_option maxRecDepth 100000
set_option linter.unusedVariables false

theorem hold_any (s i : Nat) (v : Bool) (hs : s < 32) (hi : i < 5) (w : World) :
    Calls Tryz.prog 163 #[.int .i64 s, .int .i64 i, .int .i64 (b2 v)] w fun e w' => Below w.heap.size w w' ∧ e = .returned (.int .i64 (setN s i v)) := by
  have h2 := pow2_le i (by omega)
  obtain ⟨h3, h4⟩ := set_facts s i v hs hi
  cases v
  all_goals
    simp only [Bool.toNat_true, Bool.toNat_false, Int.natCast_zero, Int.natCast_one, Int.zero_mul, Int.one_mul, b2_true, b2_false] at h4 ⊢
    go_enter Tryz.func163, Tryz.ntmps163
    go_wp2_with fail
    go_quiet (fail)
    go_wp2_with fail
    go_ret
    exact ⟨below_drewN (Below.refl _ _) _, rfl⟩

theorem stepOne_any (b cap s i : Nat) (N : Net) (hn : N.n ≤ 5) (hs : s < pw N.n) (hi : i < N.n) (w : World) (hat : NetAt w b N.n N.f) :
    Calls Tryz.prog 148 #[.slice (some ⟨b, 0, none⟩) N.n cap, .int .i64 s, .int .i64 i] w fun e w' => Below w.heap.size w w' ∧ e = .returned (.int .i64 (setN s i (N.f i s))) := by
  have hp := pw_le hn
  have hc : w.cell? ⟨b, i * 33 + 1 + s, none⟩ = some (.int .u8 (b2 (N.f i s))) := by
    have h := tcells_bit N.n (N.f i) s (by omega)
    have h2 : (tlist N.n (N.f i))[1 + s]? = some (.int .u8 (b2 (N.f i s))) := by simpa [tcells] using h
    have h3 : w.cell? ⟨b, i * 33 + (1 + s), none⟩ = some (.int .u8 (b2 (N.f i s))) := hat i hi (1 + s) _ h2
    rw [← Nat.add_assoc] at h3
    exact h3
  have c := fun wx => hold_any s i (N.f i s) (by omega) (by omega) wx
  clear hat
  cases hv : N.f i s <;> rw [hv] at hc c <;> simp only [b2_true, b2_false] at hc c
  all_goals
    have C := Lib.hid c
    clear c hv
    go_enter Tryz.func148, Tryz.ntmps148
    go_wp2_with fail
    refine (C.out _).mono ?_
    rintro e w1 ⟨hW1, rfl⟩
    go_wp2_with fail
    go_ret
    exact ⟨hW1, rfl⟩




end Go.Proofs.YtkfagolmpbbckaaGreatDoor
