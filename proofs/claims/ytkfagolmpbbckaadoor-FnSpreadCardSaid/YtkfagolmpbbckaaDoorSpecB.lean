/- The reference's steps, signs and monotone networks. -/
import Derived.Test.YtkfagolmpbbckaaDoorSpecA
namespace Go.Proofs.YtkfagolmpbbckaaDoor
open Go Go.RowKit Go.Sw
set_option maxRecDepth 100000
set_option linter.unusedVariables false

theorem l3StepAll_any (b cap s : Nat) (N : Net) (hn : N.n ≤ 5) (hs : s < pw N.n) (w : World) (hat : StrsAt w b (netTexts N)) :
    Calls Tryd.prog 126 #[.slice (some ⟨b, 0, none⟩) N.n cap, .int .i64 s, .int .i64 (pw N.n - 1 : Nat)] w fun e w' => e = .returned (.int .i64 (stepN N s)) ∧ w = w' := by
  have h := pw_le hn
  rw [← setStep_all N s hs]
  exact l3Step_any b cap s (pw N.n - 1) N hn hs (by omega) w hat

theorem stepAll_any (s : ByteArray) (x : Int) (w : World) (hs : s.size ≤ 1048576) :
    Calls Tryd.prog 77 #[.string s, .int .i64 x] w fun e w' => Below w.heap.size w w' ∧ e = .returned (.int .i64 (stepI s x)) := by
  cases h : stB s x
  · have hr : stepI s x = -1 := by rw [stepI, h]; rfl
    have Hr := Lib.hid hr
    clear hr
    go_enter Tryd.func77, Tryd.ntmps77
    go_wp2_with fail
    refine (l3State_no s x w hs h).mono ?_
    rintro e w1 ⟨hW1, v, rfl⟩
    clear h
    go_wp2_with fail
    go_ret
    exact ⟨hW1, ret_int Hr.out.symm⟩
  · obtain ⟨h1, h2, h3⟩ := stB_yes h
    have hn := (netOf_ok h1).2
    have h4 := pw_le hn
    obtain ⟨k, rfl⟩ := Int.eq_ofNat_of_zero_le h2
    have hr : stepI s k = (stepN (netOf s) k : Nat) := by rw [stepI, h]; rfl
    have Hr := Lib.hid hr
    clear hr
    go_enter Tryd.func77, Tryd.ntmps77
    go_wp2_with fail
    refine (l3State_yes s k w hs h).mono ?_
    rintro e w1 ⟨hW1, b, cap, rfl, hb1, hb2, hat⟩
    have Hat := Lib.hid hat
    clear hat h h1
    go_wp2_with (first | (go_at_call 82; refine (l3All_any _ _ _ hn _).mono ?_; rintro e w' ⟨rfl, rfl⟩) | (go_at_call 126; refine (l3StepAll_any b cap k (netOf s) hn (by omega) _ Hat.out).mono ?_; rintro e w' ⟨rfl, rfl⟩))
    go_ret
    exact ⟨hW1, ret_int Hr.out.symm⟩

theorem restless_any (s : ByteArray) (x : Int) (w : World) (hs : s.size ≤ 1048576) :
    Calls Tryd.prog 118 #[.string s, .int .i64 x] w fun e w' => Below w.heap.size w w' ∧ e = .returned (.int .i64 (restI s x)) := by
  have hst := Lib.hid (stepAll_any s x w hs)
  cases h : stB s x
  · have hr : restI s x = -1 := by rw [restI, h]; rfl
    have hr2 : stepI s x = -1 := by rw [stepI, h]; rfl
    have Hr := Lib.hid hr
    rw [hr2] at hst
    clear hr hr2 h
    go_enter Tryd.func118, Tryd.ntmps118
    go_wp2_with (go_at_call 77; refine hst.out.mono ?_; rintro e w1 ⟨hW1, rfl⟩)
    go_ret
    exact ⟨hW1, ret_int Hr.out.symm⟩
  · obtain ⟨h1, h2, h3⟩ := stB_yes h
    have hn := (netOf_ok h1).2
    have h4 := pw_le hn
    obtain ⟨k, rfl⟩ := Int.eq_ofNat_of_zero_le h2
    have hr : restI s k = (stepN (netOf s) k ^^^ k : Nat) := by rw [restI, h]; rfl
    have hr2 : stepI s k = (stepN (netOf s) k : Nat) := by rw [stepI, h]; rfl
    have hx := i64_xor (stepN (netOf s) k) k (by have := stepN_lt (netOf s) k; omega) (by omega)
    rw [hr2] at hst
    have Hr := Lib.hid hr
    clear hr hr2 h
    go_enter Tryd.func118, Tryd.ntmps118
    go_wp2_with (go_at_call 77; refine hst.out.mono ?_; rintro e w1 ⟨hW1, rfl⟩)
    go_ret
    exact ⟨hW1, ret_int Hr.out.symm⟩

theorem isFalling_spec (s : ByteArray) (x : Int) (w : World) (hs : s.size ≤ 1048576) :
    Calls Tryd.prog 22 #[.string s, .int .i64 x] w fun e w' => Below w.heap.size w w' ∧ e = .returned (.bool (fallB s x)) := by
  have hst := Lib.hid (stepAll_any s x w hs)
  cases h : stB s x
  · have hr : fallB s x = false := by rw [fallB, h]; rfl
    have hr2 : stepI s x = -1 := by rw [stepI, h]; rfl
    rw [hr2] at hst
    have Hr := Lib.hid hr
    clear hr hr2 h
    go_enter Tryd.func22, Tryd.ntmps22
    go_wp2_with (go_at_call 77; refine hst.out.mono ?_; rintro e w1 ⟨hW1, rfl⟩)
    go_ret
    exact ⟨hW1, by rw [Hr.out]; rfl⟩
  · obtain ⟨h1, h2, h3⟩ := stB_yes h
    have hn := (netOf_ok h1).2
    have h4 := pw_le hn
    obtain ⟨k, rfl⟩ := Int.eq_ofNat_of_zero_le h2
    have hr : fallB s k = leB (stepN (netOf s) k) k := by rw [fallB, h]; rfl
    have hr2 : stepI s k = (stepN (netOf s) k : Nat) := by rw [stepI, h]; rfl
    have hx := i64_andNot (stepN (netOf s) k) k (by have := stepN_lt (netOf s) k; omega) (by omega)
    have hz := andNot_zero (stepN (netOf s) k) k
    rw [hr2] at hst
    have Hr := Lib.hid hr
    clear hr hr2 h
    go_enter Tryd.func22, Tryd.ntmps22
    go_wp2_with (go_at_call 77; refine hst.out.mono ?_; rintro e w1 ⟨hW1, rfl⟩)
    go_ret
    exact ⟨hW1, by rw [Hr.out]; rfl⟩


theorem isRising_spec (s : ByteArray) (x : Int) (w : World) (hs : s.size ≤ 1048576) :
    Calls Tryd.prog 35 #[.string s, .int .i64 x] w fun e w' => Below w.heap.size w w' ∧ e = .returned (.bool (riseB s x)) := by
  have hst := Lib.hid (stepAll_any s x w hs)
  cases h : stB s x
  · have hr : riseB s x = false := by rw [riseB, h]; rfl
    have hr2 : stepI s x = -1 := by rw [stepI, h]; rfl
    rw [hr2] at hst
    have Hr := Lib.hid hr
    clear hr hr2 h
    go_enter Tryd.func35, Tryd.ntmps35
    go_wp2_with (go_at_call 77; refine hst.out.mono ?_; rintro e w1 ⟨hW1, rfl⟩)
    go_ret
    exact ⟨hW1, by rw [Hr.out]; rfl⟩
  · obtain ⟨h1, h2, h3⟩ := stB_yes h
    have hn := (netOf_ok h1).2
    have h4 := pw_le hn
    obtain ⟨k, rfl⟩ := Int.eq_ofNat_of_zero_le h2
    have hr : riseB s k = leB k (stepN (netOf s) k) := by rw [riseB, h]; rfl
    have hr2 : stepI s k = (stepN (netOf s) k : Nat) := by rw [stepI, h]; rfl
    have hx := i64_andNot k (stepN (netOf s) k) (by omega) (by have := stepN_lt (netOf s) k; omega)
    have hz := andNot_zero k (stepN (netOf s) k)
    rw [hr2] at hst
    have Hr := Lib.hid hr
    clear hr hr2 h
    go_enter Tryd.func35, Tryd.ntmps35
    go_wp2_with (go_at_call 77; refine hst.out.mono ?_; rintro e w1 ⟨hW1, rfl⟩)
    go_ret
    exact ⟨hW1, by rw [Hr.out]; rfl⟩


theorem l1Set0_any (s i : Nat) (hs : s < 32) (hi : i < 5) (w : World) :
    Calls Tryd.prog 166 #[.int .i64 s, .int .i64 i, .int .i64 0] w fun e w' => e = .returned (.int .i64 (setN s i false)) ∧ w = w' := l1Set_any s i false hs hi w
theorem l1Set1_any (s i : Nat) (hs : s < 32) (hi : i < 5) (w : World) :
    Calls Tryd.prog 166 #[.int .i64 s, .int .i64 i, .int .i64 1] w fun e w' => e = .returned (.int .i64 (setN s i true)) ∧ w = w' := l1Set_any s i true hs hi w

theorem l1Sign_any (n : Nat) (f : Nat → Bool) (i : Nat) (hn : n ≤ 5) (hi : i < n) (w : World) :
    Calls Tryd.prog 141 #[.string (tabText n f), .int .i64 i] w fun e w' => e = .returned (.int .i64 (sg (sgU n f i) (sgD n f i))) ∧ w = w' := by
  have hp := pw_le hn
  have hsz : (tabText n f).size = pw n := tabText_size n f
  have ho1 := sg_or1
  have ho2 := sg_or2
  go_enter Tryd.func141, Tryd.ntmps141
  go_wp2_with fail
  go_loop [5, 6] (fun out s => ∃ k : Nat, k ≤ pw n ∧ s = .int .i64 k ∧ out = .int .i64 (sg (anyB (upS f i) k) (anyB (downS f i) k))) (fun _ s => pw n - (intOf s).toNat)
  case atStart => exact ⟨0, Nat.zero_le _, rfl, rfl⟩
  case round =>
    obtain ⟨k, hk, rfl, rfl⟩ := hrel
    by_cases hlt : k < pw n
    · have l0 := setN_lt k i n false hlt hi
      have l1 := setN_lt k i n true hlt hi
      have hu : anyB (upS f i) (k + 1) = (anyB (upS f i) k || (!f (setN k i false) && f (setN k i true))) := rfl
      have hd : anyB (downS f i) (k + 1) = (anyB (downS f i) k || (f (setN k i false) && !f (setN k i true))) := rfl
      cases h3 : f (setN k i false) <;> cases h4 : f (setN k i true) <;> simp only [h3, h4] at hu hd
      all_goals
        have c0 := l1At_any n f (setN k i false) hn l0 w
        have c1 := l1At_any n f (setN k i true) hn l1 w
        rw [h3] at c0
        rw [h4] at c1
        have Hc0 := Lib.hid c0
        have Hc1 := Lib.hid c1
        have Hu := Lib.hid hu
        have Hd := Lib.hid hd
        clear hu hd c0 c1 h3 h4
        go_wp2_with fail
        refine (l1Set0_any k i (by omega) (by omega) _).mono ?_; rintro e w' ⟨rfl, rfl⟩
        go_wp2_with fail
        refine Hc0.out.mono ?_; rintro e w' ⟨rfl, rfl⟩
        go_wp2_with fail
        refine (l1Set1_any k i (by omega) (by omega) _).mono ?_; rintro e w' ⟨rfl, rfl⟩
        go_wp2_with fail
        refine Hc1.out.mono ?_; rintro e w' ⟨rfl, rfl⟩
        go_wp2_with fail
        go_round
        case rel => exact ⟨k + 1, by omega, by go_num, by rw [Hu.out, Hd.out]; simp⟩
        case measure => simp [intOf] <;> omega
    · obtain rfl : k = pw n := by omega
      have h1 := sgU_spec n f i hi
      have h2 := sgD_spec n f i hi
      have H1 := Lib.hid h1
      have H2 := Lib.hid h2
      clear h1 h2
      go_wp2_with fail
      go_ret
      exact ⟨ret_int (by rw [H1.out, H2.out]), rfl⟩
end Go.Proofs.YtkfagolmpbbckaaDoor
