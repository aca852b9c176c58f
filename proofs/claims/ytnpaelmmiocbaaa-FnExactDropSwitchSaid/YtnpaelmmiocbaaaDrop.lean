/- DropSwitch of the program and of the reference return the same number, for all arguments. -/
import Derived.Test.YtnpaelmmiocbaaaProg
import Derived.Test.YtnpaelmmiocbaaaKit
namespace Go.Proofs.Ytnpaelmmiocbaaa
open Go Go.RowKit Go.Sw
set_option maxRecDepth 100000
set_option linter.unusedVariables false

theorem l1In_b (n lo hi : Int) (b : Bool) (hb : inI n lo hi = b) (w : World) :
    Calls Try.prog 6 #[.int .i64 n, .int .i64 lo, .int .i64 hi] w fun e w' => e = .returned (.bool b) ∧ w = w' := by
  subst hb
  unfold inI
  by_cases h1 : lo ≤ n <;> by_cases h2 : n ≤ hi <;> simp only [h1, h2]
  all_goals
    go_enter Try.func6, Try.ntmps6
    go_wp2
    go_ret
    exact ⟨rfl, rfl⟩

theorem l9Drop_any (s i : Nat) (hs : s < 32) (hi : i < 5) (w : World) :
    Calls Try.prog 7 #[.int .i64 s, .int .i64 i] w fun e w' => e = .returned (.int .i64 (dropN s i : Nat)) ∧ w = w' := by
  obtain ⟨ha, h0, h1, ho⟩ := drop_facts s i hs hi
  have h2 := pow2_le i (by omega)
  go_enter Try.func7, Try.ntmps7
  go_wp2
  go_ret
  exact ⟨rfl, rfl⟩

theorem drop_any (s i : Nat) (hs : s < 32) (hi : i < 5) (w : World) :
    Calls Try.prog 8 #[.int .i64 s, .int .i64 i] w fun e w' => e = .returned (.int .i64 (dropN s i : Nat)) ∧ w = w' := by
  obtain ⟨ha, h0, h1, ho⟩ := drop_facts s i hs hi
  have h2 := pow2_le i (by omega)
  go_enter Try.func8, Try.ntmps8
  go_wp2
  go_ret
  exact ⟨rfl, rfl⟩

theorem specDrop_yes (s n i : Nat) (hn : 2 ≤ n) (hn5 : n ≤ 5) (hi : i < n) (hs : s < pw n) (w : World) :
    Calls Try.prog 4 #[.int .i64 s, .int .i64 n, .int .i64 i] w fun e w' => e = .returned (.int .i64 (dropN s i : Nat)) ∧ w = w' := by
  have h2 := pow2_le n (by omega)
  have h3 := pw_le hn5
  have h4 := pw_cast n
  have a1 : inI n 2 5 = true := by simp [inI]; omega
  have a2 : inI i 0 ((n : Int) - 1) = true := by simp [inI]; omega
  have a3 : inI s 0 ((2 : Int) ^ n - 1) = true := by simp [inI]; omega
  have H4 := Lib.hid h4; clear h4
  go_enter Try.func4, Try.ntmps4
  go_wp2_with fail
  refine (l1In_b _ _ _ _ a1 _).mono ?_; rintro e w' ⟨rfl, rfl⟩
  go_wp2_with fail
  refine (l1In_b _ _ _ _ a2 _).mono ?_; rintro e w' ⟨rfl, rfl⟩
  go_wp2_with fail
  refine (l1In_b _ _ _ _ a3 _).mono ?_; rintro e w' ⟨rfl, rfl⟩
  go_wp2_with fail
  refine (l9Drop_any _ _ (by omega) (by omega) _).mono ?_; rintro e w' ⟨rfl, rfl⟩
  go_wp2_with fail
  go_ret
  exact ⟨rfl, rfl⟩

theorem implDrop_yes (s n i : Nat) (hn : 2 ≤ n) (hn5 : n ≤ 5) (hi : i < n) (hs : s < pw n) (w : World) :
    Calls Try.prog 5 #[.int .i64 s, .int .i64 n, .int .i64 i] w fun e w' => e = .returned (.int .i64 (dropN s i : Nat)) ∧ w = w' := by
  have h2 := pow2_le n (by omega)
  have h3 := pw_le hn5
  have h4 := pw_cast n
  have h5 : (s : Int) < 2 ^ n := by omega
  clear h4
  go_enter Try.func5, Try.ntmps5
  go_wp2_with (go_at_call 8; refine (drop_any _ _ (by omega) (by omega) _).mono ?_; rintro e w' ⟨rfl, rfl⟩)
  go_ret
  exact ⟨rfl, rfl⟩

/-- what makes the arguments of DropSwitch bad, in order -/
def dropBad (s n i : Int) : Prop := n < 2 ∨ 5 < n ∨ (2 ≤ n ∧ n ≤ 5 ∧ i < 0) ∨ (2 ≤ n ∧ n ≤ 5 ∧ n ≤ i) ∨ (2 ≤ n ∧ n ≤ 5 ∧ 0 ≤ i ∧ i < n ∧ s < 0)
  ∨ (2 ≤ n ∧ n ≤ 5 ∧ 0 ≤ i ∧ i < n ∧ (2 : Int) ^ n.toNat ≤ s)

theorem implDrop_no (s n i : Int) (h : dropBad s n i) (w : World) :
    Calls Try.prog 5 #[.int .i64 s, .int .i64 n, .int .i64 i] w fun e w' => e = .returned (.int .i64 (-1)) ∧ w = w' := by
  rcases h with h | h | ⟨h0, h1, h⟩ | ⟨h0, h1, h⟩ | ⟨h0, h1, h2, h3, h⟩ | ⟨h0, h1, h2, h3, h⟩
  case' inr.inr.inr.inr.inr =>
    obtain ⟨m, rfl⟩ := Int.eq_ofNat_of_zero_le (show 0 ≤ n by omega)
    have h5 := pow2_le m (by omega)
    simp only [Int.toNat_natCast] at h
  all_goals
    go_enter Try.func5, Try.ntmps5
    go_wp2_with fail
    go_ret
    exact ⟨rfl, rfl⟩

theorem specDrop_no (s n i : Int) (h : dropBad s n i) (w : World) :
    Calls Try.prog 4 #[.int .i64 s, .int .i64 n, .int .i64 i] w fun e w' => e = .returned (.int .i64 (-1)) ∧ w = w' := by
  rcases h with h | h | ⟨h0, h1, h⟩ | ⟨h0, h1, h⟩ | ⟨h0, h1, h2, h3, h⟩ | ⟨h0, h1, h2, h3, h⟩
  · have a1 : inI n 2 5 = false := by simp [inI]; omega
    go_enter Try.func4, Try.ntmps4
    go_wp2_with fail
    refine (l1In_b _ _ _ _ a1 _).mono ?_; rintro e w' ⟨rfl, rfl⟩
    go_wp2_with fail
    go_ret
    exact ⟨rfl, rfl⟩
  · have a1 : inI n 2 5 = false := by simp [inI]; omega
    go_enter Try.func4, Try.ntmps4
    go_wp2_with fail
    refine (l1In_b _ _ _ _ a1 _).mono ?_; rintro e w' ⟨rfl, rfl⟩
    go_wp2_with fail
    go_ret
    exact ⟨rfl, rfl⟩
  · have a1 : inI n 2 5 = true := by simp [inI]; omega
    have a2 : inI i 0 (n - 1) = false := by simp [inI]; omega
    go_enter Try.func4, Try.ntmps4
    go_wp2_with fail
    refine (l1In_b _ _ _ _ a1 _).mono ?_; rintro e w' ⟨rfl, rfl⟩
    go_wp2_with fail
    refine (l1In_b _ _ _ _ a2 _).mono ?_; rintro e w' ⟨rfl, rfl⟩
    go_wp2_with fail
    go_ret
    exact ⟨rfl, rfl⟩
  · have a1 : inI n 2 5 = true := by simp [inI]; omega
    have a2 : inI i 0 (n - 1) = false := by simp [inI]; omega
    go_enter Try.func4, Try.ntmps4
    go_wp2_with fail
    refine (l1In_b _ _ _ _ a1 _).mono ?_; rintro e w' ⟨rfl, rfl⟩
    go_wp2_with fail
    refine (l1In_b _ _ _ _ a2 _).mono ?_; rintro e w' ⟨rfl, rfl⟩
    go_wp2_with fail
    go_ret
    exact ⟨rfl, rfl⟩
  all_goals
    obtain ⟨m, rfl⟩ := Int.eq_ofNat_of_zero_le (show 0 ≤ n by omega)
    have h5 := pow2_le m (by omega)
    try simp only [Int.toNat_natCast] at h
    have a1 : inI m 2 5 = true := by simp [inI]; omega
    have a2 : inI i 0 ((m : Int) - 1) = true := by simp [inI]; omega
    have a3 : inI s 0 ((2 : Int) ^ m - 1) = false := by simp [inI]; omega
    go_enter Try.func4, Try.ntmps4
    go_wp2_with fail
    refine (l1In_b _ _ _ _ a1 _).mono ?_; rintro e w' ⟨rfl, rfl⟩
    go_wp2_with fail
    refine (l1In_b _ _ _ _ a2 _).mono ?_; rintro e w' ⟨rfl, rfl⟩
    go_wp2_with fail
    refine (l1In_b _ _ _ _ a3 _).mono ?_; rintro e w' ⟨rfl, rfl⟩
    go_wp2_with fail
    go_ret
    exact ⟨rfl, rfl⟩

theorem drop_split (s n i : Int) : dropBad s n i ∨ ∃ s' n' i' : Nat, s = s' ∧ n = n' ∧ i = i' ∧ 2 ≤ n' ∧ n' ≤ 5 ∧ i' < n' ∧ s' < pw n' := by
  by_cases h : 2 ≤ n ∧ n ≤ 5 ∧ 0 ≤ i ∧ i < n ∧ 0 ≤ s ∧ s < 2 ^ n.toNat
  · obtain ⟨h1, h2, h3, h4, h5, h6⟩ := h
    obtain ⟨n', rfl⟩ := Int.eq_ofNat_of_zero_le (show 0 ≤ n by omega)
    obtain ⟨i', rfl⟩ := Int.eq_ofNat_of_zero_le h3
    obtain ⟨s', rfl⟩ := Int.eq_ofNat_of_zero_le h5
    simp only [Int.toNat_natCast] at h6
    exact .inr ⟨s', n', i', rfl, rfl, rfl, by omega, by omega, by omega, by have := pw_cast n'; omega⟩
  · left
    unfold dropBad
    omega

theorem law_drop (s n i : Int) (w : World) :
    Calls Try.prog 3 #[.int .i64 s, .int .i64 n, .int .i64 i] w fun e w' => e = .returned (.bool true) ∧ w = w' := by
  rcases drop_split s n i with h | ⟨s, n, i, rfl, rfl, rfl, h1, h2, h3, h4⟩
  · have c1 := Lib.hid (specDrop_no s n i h w)
    have c2 := Lib.hid (implDrop_no s n i h w)
    clear h
    go_enter Try.func3, Try.ntmps3
    go_wp2_with fail
    refine c1.out.mono ?_; rintro e w' ⟨rfl, rfl⟩
    go_wp2_with fail
    refine c2.out.mono ?_; rintro e w' ⟨rfl, rfl⟩
    go_wp2_with fail
    go_ret
    exact ⟨rfl, rfl⟩
  · have c1 := Lib.hid (specDrop_yes s n i h1 h2 h3 h4 w)
    have c2 := Lib.hid (implDrop_yes s n i h1 h2 h3 h4 w)
    go_enter Try.func3, Try.ntmps3
    go_wp2_with fail
    refine c1.out.mono ?_; rintro e w' ⟨rfl, rfl⟩
    go_wp2_with fail
    refine c2.out.mono ?_; rintro e w' ⟨rfl, rfl⟩
    go_wp2_with fail
    go_ret
    exact ⟨rfl, rfl⟩
end Go.Proofs.Ytnpaelmmiocbaaa
