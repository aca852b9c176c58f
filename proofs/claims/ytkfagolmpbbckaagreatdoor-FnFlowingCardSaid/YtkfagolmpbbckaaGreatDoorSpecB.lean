/- The reference's steps, signs and monotone networks. -/
import Derived.Test.YtkfagolmpbbckaaGreatDoorSpecA
namespace Go.Proofs.YtkfagolmpbbckaaGreatDoor
open Go Go.RowKit Go.Sw
set_option maxRecDepth 100000
set_option linter.unusedVariables false








theorem l1Set0_any (s i : Nat) (hs : s < 32) (hi : i < 5) (w : World) :
    Calls Tryz.prog 110 #[.int .i64 s, .int .i64 i, .int .i64 0] w fun e w' => e = .returned (.int .i64 (setN s i false)) ∧ w = w' := l1Set_any s i false hs hi w
theorem l1Set1_any (s i : Nat) (hs : s < 32) (hi : i < 5) (w : World) :
    Calls Tryz.prog 110 #[.int .i64 s, .int .i64 i, .int .i64 1] w fun e w' => e = .returned (.int .i64 (setN s i true)) ∧ w = w' := l1Set_any s i true hs hi w

theorem l1Sign_any (n : Nat) (f : Nat → Bool) (i : Nat) (hn : n ≤ 5) (hi : i < n) (w : World) :
    Calls Tryz.prog 156 #[.string (tabText n f), .int .i64 i] w fun e w' => e = .returned (.int .i64 (sg (sgU n f i) (sgD n f i))) ∧ w = w' := by
  have hp := pw_le hn
  have hsz : (tabText n f).size = pw n := tabText_size n f
  have ho1 := sg_or1
  have ho2 := sg_or2
  go_enter Tryz.func156, Tryz.ntmps156
  go_wp2_with fail
  go_loop [5, 6] (fun out s => ∃ k : Nat, k ≤ pw n ∧ s = .int .i64 k ∧ out = .int .i64 (sg (anyB (upS f i) k) (anyB (downS f i) k))) (fun _ s => pw n - (intOf s).toNat)
  case atStart => exact ⟨0, Nat.zero_le _, rfl, rfl⟩
  case round =>
    obtain ⟨k, hk, rfl, rfl⟩ := hrel
    by_cases hlt : k < pw n
    · have l0 := setN_lt k i n false hlt hi
      have l1 := setN_lt k i n true hlt hi
      have hu : anyB (upS f i) (k + 1) = (anyB (upS f i) k || (!f (setN k i false) && f (setN k i true))) := rfl
      have hd : anyB (downS f i) (k + 1) = (anyB (downS f i) k || (f (setN k i false) && !f (setN k i true))) := rfl
      cases h3 : f (setN k i false) <;> cases h4 : f (setN k i true) <;> simp only [h3, h4] at hu hd
      all_goals
        have c0 := l1At_any n f (setN k i false) hn l0 w
        have c1 := l1At_any n f (setN k i true) hn l1 w
        rw [h3] at c0
        rw [h4] at c1
        have Hc0 := Lib.hid c0
        have Hc1 := Lib.hid c1
        have Hu := Lib.hid hu
        have Hd := Lib.hid hd
        clear hu hd c0 c1 h3 h4
        go_wp2_with fail
        refine (l1Set0_any k i (by omega) (by omega) _).mono ?_; rintro e w' ⟨rfl, rfl⟩
        go_wp2_with fail
        refine Hc0.out.mono ?_; rintro e w' ⟨rfl, rfl⟩
        go_wp2_with fail
        refine (l1Set1_any k i (by omega) (by omega) _).mono ?_; rintro e w' ⟨rfl, rfl⟩
        go_wp2_with fail
        refine Hc1.out.mono ?_; rintro e w' ⟨rfl, rfl⟩
        go_wp2_with fail
        go_round
        case rel => exact ⟨k + 1, by omega, by go_num, by rw [Hu.out, Hd.out]; simp⟩
        case measure => simp [intOf] <;> omega
    · obtain rfl : k = pw n := by omega
      have h1 := sgU_spec n f i hi
      have h2 := sgD_spec n f i hi
      have H1 := Lib.hid h1
      have H2 := Lib.hid h2
      clear h1 h2
      go_wp2_with fail
      go_ret
      exact ⟨ret_int (by rw [H1.out, H2.out]), rfl⟩
end Go.Proofs.YtkfagolmpbbckaaGreatDoor
