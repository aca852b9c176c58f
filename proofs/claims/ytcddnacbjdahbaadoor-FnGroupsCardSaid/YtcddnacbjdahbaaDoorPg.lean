/- Plain facts: a switch that does not act on itself is removed and put in again. -/
import Derived.Test.YtcddnacbjdahbaaDoorRe
import Derived.Test.YtcddnacbjdahbaaDoorWl
namespace Go.Sw
open Go

theorem free_inf {N : Net} {i : Nat} (h : freeB N i = true) : 2 ≤ N.n ∧ infB N i i = false := by
  unfold freeB at h
  rw [Bool.and_eq_true, decide_eq_true_eq] at h
  refine ⟨h.1, ?_⟩
  cases e : infB N i i with
  | false => rfl
  | true => rw [e] at h; exact absurd h.2 (by decide)
theorem self_free {N : Net} {i s : Nat} (h : infB N i i = false) (hi : i < N.n) (hs : s < pw N.n) (b : Bool) : N.f i (setN s i b) = N.f i s := by
  apply Classical.byContradiction
  intro hne
  obtain ⟨j, hj, hb, ha⟩ := flip_arc hi (setN_lt s i N.n b hs hi) hs hne
  have hji : j = i := by
    apply Classical.byContradiction
    intro e
    rw [setN_testBit, if_neg e] at hb
    exact hb rfl
  subst hji
  rw [arc_inf ha] at h; cases h
theorem skip_ne (i j : Nat) : skip i j ≠ i := by unfold skip; split <;> omega
theorem putN_skip (s i j : Nat) : (putN s i).testBit (skip i j) = s.testBit j := by
  rw [putN_testBit]
  unfold skip
  by_cases h : j < i
  · rw [if_pos h, if_pos h]
  · rw [if_neg h, if_neg (by omega), if_neg (by omega)]; simp
theorem liftN_skip (N : Net) (i s j : Nat) : (liftN N i s).testBit (skip i j) = s.testBit j := by
  unfold liftN
  rw [setN_testBit, if_neg (skip_ne i j), putN_skip]
theorem drop_lift (N : Net) (i s : Nat) : dropN (liftN N i s) i = s := by
  apply Nat.eq_of_testBit_eq
  intro j
  rw [dropN_testBit, liftN_skip]
theorem lift_bit (N : Net) (i s : Nat) : (liftN N i s).testBit i = N.f i (putN s i) := by unfold liftN; exact setN_bit _ _ _
theorem putN_lt' {n s i : Nat} (h1 : 1 ≤ n) (hs : s < pw (n - 1)) : putN s i < pw n := by
  have := putN_lt s i (n - 1) hs
  rwa [show n - 1 + 1 = n by omega] at this
theorem lift_self {N : Net} {i s : Nat} (h : freeB N i = true) (hi : i < N.n) (hs : s < pw (N.n - 1)) : N.f i (liftN N i s) = (liftN N i s).testBit i := by
  obtain ⟨h2, hf⟩ := free_inf h
  rw [lift_bit]
  unfold liftN
  exact self_free hf hi (putN_lt' (by omega) hs) _
theorem lift_rest {N : Net} {i s : Nat} (h : freeB N i = true) (hi : i < N.n) (hs : s < pw (N.n - 1)) : (stepN N (liftN N i s) ^^^ liftN N i s).testBit i = false := by
  rw [Nat.testBit_xor, stepN_testBit, decide_eq_true hi, Bool.true_and, lift_self h hi hs]
  cases (liftN N i s).testBit i <;> rfl
theorem unskip {i j : Nat} (h : j ≠ i) : ∃ k, j = skip i k := by
  by_cases e : j < i
  · exact ⟨j, by unfold skip; rw [if_pos e]⟩
  · exact ⟨j - 1, by unfold skip; rw [if_neg (by omega)]; omega⟩
theorem put_drop (s i : Nat) : putN (dropN s i) i = setN s i false := by
  apply Nat.eq_of_testBit_eq
  intro j
  by_cases e : j = i
  · subst e
    rw [putN_testBit, if_neg (by omega), if_pos rfl, setN_bit]
  · obtain ⟨k, rfl⟩ := unskip e
    rw [putN_skip, dropN_testBit, setN_testBit, if_neg e]
theorem lift_drop {N : Net} {i s : Nat} (h : freeB N i = true) (hi : i < N.n) (hs : s < pw N.n) (hf : N.f i s = s.testBit i) : liftN N i (dropN s i) = s := by
  unfold liftN
  rw [put_drop, self_free (free_inf h).2 hi hs, hf, setN_setN]
  exact setN_eq_self rfl
theorem dropN_lt {s i n : Nat} (hi : i < n) (hs : s < pw n) : dropN s i < pw (n - 1) := by
  apply Nat.lt_pow_two_of_testBit
  intro j hj
  rw [dropN_testBit]
  exact testBit_high hs (by unfold skip; split <;> omega)
theorem remN_step {N : Net} {i s : Nat} (hi : i < N.n) (hs : s < pw (N.n - 1)) : stepN (remN N i) s = dropN (stepN N (liftN N i s)) i := by
  apply Nat.eq_of_testBit_eq
  intro j
  rw [stepN_testBit, dropN_testBit, stepN_testBit]
  show (decide (j < N.n - 1) && N.f (skip i j) (liftN N i s)) = _
  by_cases hj : j < N.n - 1
  · rw [decide_eq_true hj, decide_eq_true (skip_lt hj)]
  · rw [decide_eq_false hj, Bool.false_and]
    by_cases h2 : skip i j < N.n
    · exfalso; revert h2; unfold skip; split <;> omega
    · rw [decide_eq_false h2, Bool.false_and]
end Go.Sw
