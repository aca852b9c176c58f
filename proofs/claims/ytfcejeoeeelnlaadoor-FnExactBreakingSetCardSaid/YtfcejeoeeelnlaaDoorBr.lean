/- Plain words and lemmas: sets of switches that break all circuits of a sign, the smallest of them. -/
import Derived.Test.YtfcejeoeeelnlaaDoorWl
namespace Go.Sw
open Go

/-- how many switches a set has -/
def onesN (s : Nat) : Nat := (s.testBit 0).toNat + (s.testBit 1).toNat + (s.testBit 2).toNat + (s.testBit 3).toNat + (s.testBit 4).toNat
theorem onesN_le (s : Nat) : onesN s ≤ 5 := by
  unfold onesN
  cases s.testBit 0 <;> cases s.testBit 1 <;> cases s.testBit 2 <;> cases s.testBit 3 <;> cases s.testBit 4 <;> decide
/-- a circuit of the sign that a set does not meet -/
def missB (N : Net) (sign : ByteArray) (set : Nat) (c : List Nat) : Bool := isC (circC N c) sign && (setL c &&& set) == 0
def brB (N : Net) (sign : ByteArray) (set : Nat) : Bool := !(circL N).any (missB N sign set)
theorem meet_zero (c : List Nat) (set : Nat) : ((setL c &&& set) == 0) = !c.any fun k => set.testBit k := by
  rw [Bool.eq_iff_iff, beq_iff_eq, Bool.not_eq_true', List.any_eq_false]
  constructor
  · intro h k hk
    have h2 := congrArg (fun x => x.testBit k) h
    simp only [Nat.testBit_and, setL_bit, Nat.zero_testBit] at h2
    rw [List.contains_eq_mem, decide_eq_true hk, Bool.true_and] at h2
    rw [h2]; decide
  · intro h
    apply Nat.eq_of_testBit_eq
    intro k
    rw [Nat.testBit_and, setL_bit, Nat.zero_testBit, List.contains_eq_mem]
    by_cases hk : k ∈ c
    · have := h k hk
      rw [decide_eq_true hk, Bool.true_and]
      simpa using this
    · rw [decide_eq_false hk, Bool.false_and]
theorem br_all {N : Net} (sign : ByteArray) : brB N sign (pw N.n - 1) = true := by
  unfold brB
  rw [Bool.not_eq_true', List.any_eq_false]
  intro c hc
  obtain ⟨hw, _⟩ := circ_sound hc
  have : (c.any fun k => (pw N.n - 1).testBit k) = true := by
    rw [List.any_eq_true]
    refine ⟨headN c, ?_, by rw [pw_testBit]; exact decide_eq_true hw.head⟩
    cases c with
    | nil => exact absurd rfl hw.1
    | cons a r => exact List.mem_cons_self ..
  unfold missB
  rw [meet_zero, this]; simp
/-- a is no worse than b -/
def noWorse (a b : Nat) : Prop := onesN a < onesN b ∨ (onesN a = onesN b ∧ a ≤ b)
theorem noWorse.refl (a : Nat) : noWorse a a := .inr ⟨rfl, Nat.le_refl _⟩
theorem noWorse.trans {a b c : Nat} (h : noWorse a b) (k : noWorse b c) : noWorse a c := by
  unfold noWorse at *; omega
theorem noWorse.antisymm {a b : Nat} (h : noWorse a b) (k : noWorse b a) : a = b := by
  unfold noWorse at *; omega
/-- the best of the sets below k, as the program finds it -/
def bestTo (N : Net) (sign : ByteArray) : Nat → Nat
  | 0 => pw N.n - 1
  | k + 1 => if decide (onesN (bestTo N sign k) ≤ onesN k) || !brB N sign k then bestTo N sign k else k
theorem bestTo_lt (N : Net) (sign : ByteArray) (k : Nat) (hk : k ≤ pw N.n) : bestTo N sign k < pw N.n := by
  have hp : 0 < pw N.n := Nat.two_pow_pos _
  induction k with
  | zero => rw [bestTo]; omega
  | succ k ih =>
    rw [bestTo]
    split
    · exact ih (by omega)
    · omega
theorem bestTo_br (N : Net) (sign : ByteArray) (k : Nat) : brB N sign (bestTo N sign k) = true := by
  induction k with
  | zero => exact br_all sign
  | succ k ih =>
    rw [bestTo]
    split
    · exact ih
    · rename_i h
      rw [Bool.or_eq_true, not_or] at h
      simpa using h.2
theorem ones_all : ∀ n, n < 6 → ∀ s, s < 32 → s < pw n → onesN s = onesN (pw n - 1) → s = pw n - 1 := by decide +kernel
theorem bestTo_best (N : Net) (hn : N.n ≤ 5) (sign : ByteArray) (k : Nat) : (bestTo N sign k = pw N.n - 1 ∨ bestTo N sign k < k) ∧ ∀ s, s < k → s ≤ pw N.n - 1 → brB N sign s = true → noWorse (bestTo N sign k) s := by
  induction k with
  | zero => exact ⟨.inl rfl, fun s h => by omega⟩
  | succ k ih =>
    obtain ⟨i1, i2⟩ := ih
    rw [bestTo]
    split
    · rename_i h
      rw [Bool.or_eq_true, decide_eq_true_eq, Bool.not_eq_true'] at h
      refine ⟨by omega, fun s hs hsn hb => ?_⟩
      by_cases e : s = k
      · subst e
        rcases h with h | h
        · unfold noWorse
          rcases i1 with i1 | i1
          · by_cases h2 : onesN (bestTo N sign s) = onesN s
            · by_cases h3 : s = bestTo N sign s
              · right; omega
              · right
                have hp := pw_le hn
                have := ones_all N.n (by omega) s (by omega) (by omega) (by rw [← i1]; exact h2.symm)
                exact absurd (this.trans i1.symm) h3
            · omega
          · omega
        · rw [hb] at h; cases h
      · exact i2 s (by omega) hsn hb
    · rename_i h
      rw [Bool.or_eq_true, decide_eq_true_eq, not_or] at h
      refine ⟨.inr (by omega), fun s hs hsn hb => ?_⟩
      by_cases e : s = k
      · subst e; exact .refl _
      · have := i2 s (by omega) hsn hb
        unfold noWorse at *
        omega
theorem bestTo_end {N : Net} (hn : N.n ≤ 5) (sign : ByteArray) {b : Nat} (hb : brB N sign b = true) (hlt : b < pw N.n) (h : ∀ s, s < pw N.n → brB N sign s = true → noWorse b s) : b = bestTo N sign (pw N.n) := by
  obtain ⟨_, h2⟩ := bestTo_best N hn sign (pw N.n)
  exact (h _ (bestTo_lt N sign _ (Nat.le_refl _)) (bestTo_br N sign _)).antisymm (h2 b hlt (by omega) hb)
/-- what BreakingSet says -/
def breakI (w sign : ByteArray) : Int := if netOk w && plusB sign then (bestTo (netOf w) sign (pw (netOf w).n) : Nat) else -1
theorem breakI_no {w sign : ByteArray} (h : netOk w = false ∨ plusB sign = false) : breakI w sign = -1 := by
  unfold breakI
  rcases h with h | h <;> rw [h] <;> simp
end Go.Sw
