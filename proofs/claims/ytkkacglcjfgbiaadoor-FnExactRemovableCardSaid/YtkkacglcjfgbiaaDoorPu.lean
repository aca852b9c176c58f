/- Plain words and lemmas: removing switches, and what a switch acts on in any number of steps. -/
import Derived.Test.YtkkacglcjfgbiaaDoorCut
namespace Go.Sw
open Go

/-- a state with a switch of the value 0 put in -/
def putN (s i : Nat) : Nat := s % 2 ^ i ||| s / 2 ^ i * 2 ^ (i + 1)
theorem putN_testBit (s i j : Nat) : (putN s i).testBit j = if j < i then s.testBit j else if j = i then false else s.testBit (j - 1) := by
  unfold putN
  rw [Nat.testBit_or, Nat.testBit_mod_two_pow, Nat.mul_comm, Nat.testBit_two_pow_mul, Nat.testBit_div_two_pow]
  by_cases h : j < i
  · have : ¬ i + 1 ≤ j := by omega
    simp [h, this]
  · by_cases e : j = i
    · subst e
      simp only [show ¬ j + 1 ≤ j by omega, Nat.lt_irrefl, decide_false, Bool.false_and, Bool.or_false, if_false, if_true]
    · have : i + 1 ≤ j := by omega
      simp only [h, e, this, decide_false, decide_true, Bool.false_and, Bool.true_and, Bool.false_or, if_false]
      congr 1; omega
theorem put_le (s i : Nat) : s / 2 ^ i * 2 ^ (i + 1) ≤ 2 * s := by
  have := Nat.div_mul_le_self s (2 ^ i)
  rw [Nat.pow_succ, ← Nat.mul_assoc]; omega
theorem putN_lt (s i n : Nat) (hs : s < pw n) : putN s i < pw (n + 1) := by
  have h1 := put_le s i
  have h2 := Nat.mod_le s (2 ^ i)
  have h3 : pw (n + 1) = 2 * pw n := by unfold pw; rw [Nat.pow_succ]; omega
  unfold putN
  exact Nat.or_lt_two_pow (show s % 2 ^ i < pw (n + 1) by omega) (show s / 2 ^ i * 2 ^ (i + 1) < pw (n + 1) by omega)
theorem put_facts (s i : Nat) (hs : s < 16) (hi : i < 5) : bits .and .i64 (s : Int) ((2 : Int) ^ i - 1) = (s : Int) % 2 ^ i ∧ (0 : Int) ≤ (s : Int) / 2 ^ i * 2 ^ (i + 1) ∧ (s : Int) / 2 ^ i * 2 ^ (i + 1) < 32
    ∧ bits .or .i64 ((s : Int) % 2 ^ i) ((s : Int) / 2 ^ i * 2 ^ (i + 1)) = (putN s i : Nat) ∧ bits .or .i64 ((s : Int) % 2 ^ i) 0 = (s : Int) % 2 ^ i := by
  have h2 := put_le s i
  have e : ((s : Int) / 2 ^ i * 2 ^ (i + 1)) = ((s / 2 ^ i * 2 ^ (i + 1) : Nat) : Int) := by simp
  have e' : ((s : Int) % 2 ^ i) = ((s % 2 ^ i : Nat) : Int) := by simp
  have h3 := Nat.mod_le s (2 ^ i)
  refine ⟨and_mask s i (by omega) (by omega), by omega, by omega, ?_, ?_⟩
  · rw [e, e', i64_or _ _ (by omega) (by omega)]; rfl
  · rw [e', show (0 : Int) = ((0 : Nat) : Int) from rfl, i64_or _ _ (by omega) (by omega), Nat.or_zero]
/-- the switch i acts on the rule of k -/
def infB (N : Net) (i k : Nat) : Bool := sgU N.n (N.f k) i || sgD N.n (N.f k) i
theorem sg_zero (u d : Bool) : (sg u d == 0) = !(u || d) := by cases u <;> cases d <;> decide
theorem sg_pos (u d : Bool) : decide (0 < sg u d) = (u || d) := by cases u <;> cases d <;> decide
/-- a switch that can be removed -/
def freeB (N : Net) (i : Nat) : Bool := decide (1 < N.n) && !infB N i i
/-- a state with a removed switch put in -/
def liftN (N : Net) (i s : Nat) : Nat := setN (putN s i) i (N.f i (putN s i))
def liftB (w : ByteArray) (i s : Int) : Bool := swB w i && (freeB (netOf w) i.toNat && (decide (0 ≤ s) && decide (s < (pw ((netOf w).n - 1) : Nat))))
def liftI (w : ByteArray) (i s : Int) : Int := if liftB w i s then (liftN (netOf w) i.toNat s.toNat : Nat) else -1
theorem pw_half {n : Nat} (h : 1 ≤ n) : pw n = 2 * pw (n - 1) := by
  obtain ⟨m, rfl⟩ : ∃ m, n = m + 1 := ⟨n - 1, by omega⟩
  unfold pw; rw [Nat.pow_succ, Nat.add_sub_cancel]; omega
/-- the switches below k that can be removed -/
def freeL (N : Net) : Nat → List Int
  | 0 => []
  | k + 1 => if freeB N k then freeL N k ++ [(k : Int)] else freeL N k
theorem freeL_length (N : Net) (k : Nat) : (freeL N k).length ≤ k := by
  induction k with
  | zero => exact Nat.le_refl _
  | succ k ih =>
    unfold freeL
    split
    · rw [List.length_append]; simp; omega
    · omega
def remL (w : ByteArray) : List Int := if netOk w then freeL (netOf w) (netOf w).n else []
theorem remL_length (w : ByteArray) : (remL w).length ≤ 5 := by
  unfold remL
  split
  · rename_i h
    have := freeL_length (netOf w) (netOf w).n
    have := (netOf_ok h).2
    omega
  · simp

/-! ### what a switch acts on -/
/-- directly or by way of others -/
inductive Reach (N : Net) (i : Nat) : Nat → Prop
  | one {t : Nat} : t < N.n → infB N i t = true → Reach N i t
  | more {k t : Nat} : Reach N i k → t < N.n → infB N k t = true → Reach N i t
theorem Reach.lt {N : Net} {i t : Nat} (h : Reach N i t) : t < N.n := by cases h <;> assumption
theorem Reach.trans {N : Net} {i k t : Nat} (h : Reach N i k) (h2 : Reach N k t) : Reach N i t := by
  induction h2 with
  | one ht hb => exact .more h ht hb
  | more _ ht hb ih => exact .more ih ht hb
/-- the set of the switches that it acts on -/
noncomputable def reachN (N : Net) (i : Nat) : Nat := ofBits N.n fun t => @decide (Reach N i t) (Classical.propDecidable _)
theorem reachN_lt (N : Net) (i : Nat) : reachN N i < pw N.n := ofBits_lt _ _
theorem reachN_bit (N : Net) (i t : Nat) : (reachN N i).testBit t = true ↔ Reach N i t := by
  unfold reachN
  rw [ofBits_testBit, Bool.and_eq_true, decide_eq_true_eq]
  exact ⟨fun h => @of_decide_eq_true _ (Classical.propDecidable _) h.2, fun h => ⟨h.lt, @decide_eq_true _ (Classical.propDecidable _) h⟩⟩
/-- a set all of which is acted on -/
def within (N : Net) (i s : Nat) : Prop := s < pw N.n ∧ ∀ t, s.testBit t = true → Reach N i t
/-- a set that is told whole -/
theorem reach_eq {N : Net} {i s : Nat} (h : within N i s) (h1 : ∀ t, t < N.n → infB N i t = true → s.testBit t = true) (h2 : ∀ k t, k < N.n → t < N.n → s.testBit k = true → infB N k t = true → s.testBit t = true) : s = reachN N i := by
  apply Nat.eq_of_testBit_eq
  intro t
  rw [Bool.eq_iff_iff, reachN_bit]
  refine ⟨h.2 t, fun hr => ?_⟩
  induction hr with
  | one ht hb => exact h1 _ ht hb
  | more hr ht hb ih => exact h2 _ _ hr.lt ht ih hb
noncomputable def actsI (w : ByteArray) (i : Int) : Int := if swB w i then (reachN (netOf w) i.toNat : Nat) else -1
end Go.Sw
