/- DropSwitch of the program and of the reference. -/
import Derived.Test.YtcddnacbjdahbaaDoorImplR
import Derived.Test.YtcddnacbjdahbaaDoorSpecA
namespace Go.Proofs.YtcddnacbjdahbaaDoor
open Go Go.RowKit Go.Sw
set_option maxRecDepth 100000
set_option linter.unusedVariables false

theorem l9Drop_any (s i : Nat) (hs : s < 32) (hi : i < 5) (w : World) :
    Calls Tryd.prog 104 #[.int .i64 s, .int .i64 i] w fun e w' => e = .returned (.int .i64 (dropN s i : Nat)) ∧ w = w' := by
  obtain ⟨ha, h0, h1, ho⟩ := drop_facts s i hs hi
  have h2 := pow2_le i (by omega)
  go_enter Tryd.func104, Tryd.ntmps104
  go_wp2
  go_ret
  exact ⟨rfl, rfl⟩

theorem specDrop_yes (s n i : Nat) (hn : 2 ≤ n) (hn5 : n ≤ 5) (hi : i < n) (hs : s < pw n) (w : World) :
    Calls Tryd.prog 33 #[.int .i64 s, .int .i64 n, .int .i64 i] w fun e w' => e = .returned (.int .i64 (dropN s i : Nat)) ∧ w = w' := by
  have h2 := pow2_le n (by omega)
  have h3 := pw_le hn5
  have h4 := pw_cast n
  have a1 : inI n 2 5 = true := by simp [inI]; omega
  have a2 : inI i 0 ((n : Int) - 1) = true := by simp [inI]; omega
  have a3 : inI s 0 ((2 : Int) ^ n - 1) = true := by simp [inI]; omega
  have H4 := Lib.hid h4; clear h4
  go_enter Tryd.func33, Tryd.ntmps33
  go_wp2_with fail
  refine (l1In_b _ _ _ _ a1 _).mono ?_; rintro e w' ⟨rfl, rfl⟩
  go_wp2_with fail
  refine (l1In_b _ _ _ _ a2 _).mono ?_; rintro e w' ⟨rfl, rfl⟩
  go_wp2_with fail
  refine (l1In_b _ _ _ _ a3 _).mono ?_; rintro e w' ⟨rfl, rfl⟩
  go_wp2_with fail
  refine (l9Drop_any _ _ (by omega) (by omega) _).mono ?_; rintro e w' ⟨rfl, rfl⟩
  go_wp2_with fail
  go_ret
  exact ⟨rfl, rfl⟩

theorem implDrop_yes (s n i : Nat) (hn : 2 ≤ n) (hn5 : n ≤ 5) (hi : i < n) (hs : s < pw n) (w : World) :
    Calls Tryd.prog 31 #[.int .i64 s, .int .i64 n, .int .i64 i] w fun e w' => e = .returned (.int .i64 (dropN s i : Nat)) ∧ w = w' := by
  have h2 := pow2_le n (by omega)
  have h3 := pw_le hn5
  have h4 := pw_cast n
  have h5 : (s : Int) < 2 ^ n := by omega
  clear h4
  go_enter Tryd.func31, Tryd.ntmps31
  go_wp2_with (go_at_call 101; refine (drop_any _ _ (by omega) (by omega) _).mono ?_; rintro e w' ⟨rfl, rfl⟩)
  go_ret
  exact ⟨rfl, rfl⟩

/-- what makes the arguments of DropSwitch bad, in order -/
def dropBad (s n i : Int) : Prop := n < 2 ∨ 5 < n ∨ (2 ≤ n ∧ n ≤ 5 ∧ i < 0) ∨ (2 ≤ n ∧ n ≤ 5 ∧ n ≤ i) ∨ (2 ≤ n ∧ n ≤ 5 ∧ 0 ≤ i ∧ i < n ∧ s < 0)
  ∨ (2 ≤ n ∧ n ≤ 5 ∧ 0 ≤ i ∧ i < n ∧ (2 : Int) ^ n.toNat ≤ s)

theorem implDrop_no (s n i : Int) (h : dropBad s n i) (w : World) :
    Calls Tryd.prog 31 #[.int .i64 s, .int .i64 n, .int .i64 i] w fun e w' => e = .returned (.int .i64 (-1)) ∧ w = w' := by
  rcases h with h | h | ⟨h0, h1, h⟩ | ⟨h0, h1, h⟩ | ⟨h0, h1, h2, h3, h⟩ | ⟨h0, h1, h2, h3, h⟩
  case' inr.inr.inr.inr.inr =>
    obtain ⟨m, rfl⟩ := Int.eq_ofNat_of_zero_le (show 0 ≤ n by omega)
    have h5 := pow2_le m (by omega)
    simp only [Int.toNat_natCast] at h
  all_goals
    go_enter Tryd.func31, Tryd.ntmps31
    go_wp2_with fail
    go_ret
    exact ⟨rfl, rfl⟩

theorem specDrop_no (s n i : Int) (h : dropBad s n i) (w : World) :
    Calls Tryd.prog 33 #[.int .i64 s, .int .i64 n, .int .i64 i] w fun e w' => e = .returned (.int .i64 (-1)) ∧ w = w' := by
  rcases h with h | h | ⟨h0, h1, h⟩ | ⟨h0, h1, h⟩ | ⟨h0, h1, h2, h3, h⟩ | ⟨h0, h1, h2, h3, h⟩
  · have a1 : inI n 2 5 = false := by simp [inI]; omega
    go_enter Tryd.func33, Tryd.ntmps33
    go_wp2_with fail
    refine (l1In_b _ _ _ _ a1 _).mono ?_; rintro e w' ⟨rfl, rfl⟩
    go_wp2_with fail
    go_ret
    exact ⟨rfl, rfl⟩
  · have a1 : inI n 2 5 = false := by simp [inI]; omega
    go_enter Tryd.func33, Tryd.ntmps33
    go_wp2_with fail
    refine (l1In_b _ _ _ _ a1 _).mono ?_; rintro e w' ⟨rfl, rfl⟩
    go_wp2_with fail
    go_ret
    exact ⟨rfl, rfl⟩
  · have a1 : inI n 2 5 = true := by simp [inI]; omega
    have a2 : inI i 0 (n - 1) = false := by simp [inI]; omega
    go_enter Tryd.func33, Tryd.ntmps33
    go_wp2_with fail
    refine (l1In_b _ _ _ _ a1 _).mono ?_; rintro e w' ⟨rfl, rfl⟩
    go_wp2_with fail
    refine (l1In_b _ _ _ _ a2 _).mono ?_; rintro e w' ⟨rfl, rfl⟩
    go_wp2_with fail
    go_ret
    exact ⟨rfl, rfl⟩
  · have a1 : inI n 2 5 = true := by simp [inI]; omega
    have a2 : inI i 0 (n - 1) = false := by simp [inI]; omega
    go_enter Tryd.func33, Tryd.ntmps33
    go_wp2_with fail
    refine (l1In_b _ _ _ _ a1 _).mono ?_; rintro e w' ⟨rfl, rfl⟩
    go_wp2_with fail
    refine (l1In_b _ _ _ _ a2 _).mono ?_; rintro e w' ⟨rfl, rfl⟩
    go_wp2_with fail
    go_ret
    exact ⟨rfl, rfl⟩
  all_goals
    obtain ⟨m, rfl⟩ := Int.eq_ofNat_of_zero_le (show 0 ≤ n by omega)
    have h5 := pow2_le m (by omega)
    try simp only [Int.toNat_natCast] at h
    have a1 : inI m 2 5 = true := by simp [inI]; omega
    have a2 : inI i 0 ((m : Int) - 1) = true := by simp [inI]; omega
    have a3 : inI s 0 ((2 : Int) ^ m - 1) = false := by simp [inI]; omega
    go_enter Tryd.func33, Tryd.ntmps33
    go_wp2_with fail
    refine (l1In_b _ _ _ _ a1 _).mono ?_; rintro e w' ⟨rfl, rfl⟩
    go_wp2_with fail
    refine (l1In_b _ _ _ _ a2 _).mono ?_; rintro e w' ⟨rfl, rfl⟩
    go_wp2_with fail
    refine (l1In_b _ _ _ _ a3 _).mono ?_; rintro e w' ⟨rfl, rfl⟩
    go_wp2_with fail
    go_ret
    exact ⟨rfl, rfl⟩

def dropOk (s n i : Int) : Bool := decide (2 ≤ n) && (decide (n ≤ 5) && (decide (0 ≤ i) && (decide (i < n) && (decide (0 ≤ s) && decide (s < (pw n.toNat : Nat))))))
def dropI (s n i : Int) : Int := if dropOk s n i then (dropN s.toNat i.toNat : Nat) else -1
theorem drop_both (s n i : Int) (w : World) :
    (Calls Tryd.prog 31 #[.int .i64 s, .int .i64 n, .int .i64 i] w fun e w' => e = .returned (.int .i64 (dropI s n i)) ∧ w = w') ∧
    (Calls Tryd.prog 33 #[.int .i64 s, .int .i64 n, .int .i64 i] w fun e w' => e = .returned (.int .i64 (dropI s n i)) ∧ w = w') := by
  cases h : dropOk s n i
  · have hr : dropI s n i = -1 := by rw [dropI, h]; rfl
    have hb : dropBad s n i := by
      unfold dropBad
      by_cases h1 : 2 ≤ n
      · by_cases h2 : n ≤ 5
        · by_cases h3 : 0 ≤ i
          · by_cases h4 : i < n
            · by_cases h5 : 0 ≤ s
              · by_cases h6 : s < (pw n.toNat : Nat)
                · unfold dropOk at h
                  simp [h1, h2, h3, h4, h5, h6] at h
                · have := pw_cast n.toNat
                  exact .inr (.inr (.inr (.inr (.inr ⟨h1, h2, h3, h4, by omega⟩))))
              · exact .inr (.inr (.inr (.inr (.inl ⟨h1, h2, h3, h4, by omega⟩))))
            · exact .inr (.inr (.inr (.inl ⟨h1, h2, by omega⟩)))
          · exact .inr (.inr (.inl ⟨h1, h2, by omega⟩))
        · exact .inr (.inl (by omega))
      · exact .inl (by omega)
    rw [hr]
    exact ⟨implDrop_no s n i hb w, specDrop_no s n i hb w⟩
  · have hr : dropI s n i = ((dropN s.toNat i.toNat : Nat) : Int) := by rw [dropI, h]; rfl
    rw [hr]
    unfold dropOk at h
    simp only [Bool.and_eq_true, decide_eq_true_eq] at h
    obtain ⟨h1, h2, h3, h4, h5, h6⟩ := h
    obtain ⟨n, rfl⟩ : ∃ k : Nat, n = (k : Int) := ⟨n.toNat, by omega⟩
    obtain ⟨i, rfl⟩ : ∃ k : Nat, i = (k : Int) := ⟨i.toNat, by omega⟩
    obtain ⟨s, rfl⟩ : ∃ k : Nat, s = (k : Int) := ⟨s.toNat, by omega⟩
    simp only [Int.toNat_natCast] at h6 ⊢
    exact ⟨implDrop_yes s n i (by omega) (by omega) (by omega) (by omega) w, specDrop_yes s n i (by omega) (by omega) (by omega) (by omega) w⟩
end Go.Proofs.YtcddnacbjdahbaaDoor
