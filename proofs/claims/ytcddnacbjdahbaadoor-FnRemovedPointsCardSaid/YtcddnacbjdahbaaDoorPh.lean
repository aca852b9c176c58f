/- Plain facts: the fixed points of a network without a switch are those of the network. -/
import Derived.Test.YtcddnacbjdahbaaDoorPg
import Derived.Test.YtcddnacbjdahbaaDoorAt
namespace Go.Sw
open Go

theorem lift_point {N : Net} {i s : Nat} (hf : freeB N i = true) (hi : i < N.n) (hs : s < pw (N.n - 1)) (h : stepN (remN N i) s = s) : stepN N (liftN N i s) = liftN N i s := by
  have hl := liftN_lt N i s hi hs
  apply Nat.eq_of_testBit_eq
  intro j
  by_cases e : j = i
  · subst e
    have := lift_rest hf hi hs
    rw [Nat.testBit_xor] at this
    revert this
    cases (stepN N (liftN N j s)).testBit j <;> cases (liftN N j s).testBit j <;> simp
  · obtain ⟨k, rfl⟩ := unskip e
    rw [← dropN_testBit, ← remN_step hi hs, h, liftN_skip]
theorem drop_point {N : Net} {i s : Nat} (hf : freeB N i = true) (hi : i < N.n) (hs : s < pw N.n) (h : stepN N s = s) : stepN (remN N i) (dropN s i) = dropN s i ∧ liftN N i (dropN s i) = s := by
  have hb : N.f i s = s.testBit i := fix_bit h hi
  have hl := lift_drop hf hi hs hb
  exact ⟨by rw [remN_step hi (dropN_lt hi hs), hl, h], hl⟩
theorem len_le {l m : List Nat} (hn : l.Nodup) (hs : ∀ x ∈ l, x ∈ m) : l.length ≤ m.length := by
  induction l generalizing m with
  | nil => exact Nat.zero_le _
  | cons a l ih =>
    obtain ⟨ha, hn⟩ := List.nodup_cons.1 hn
    have ham := hs a (by simp)
    have := ih (m := m.erase a) hn fun x hx => by
      have hne : x ≠ a := fun e => ha (e ▸ hx)
      exact (List.mem_erase_of_ne hne).2 (hs x (by simp [hx]))
    rw [List.length_erase_of_mem ham] at this
    have h0 : 0 < m.length := List.length_pos_of_mem ham
    rw [List.length_cons]; omega
theorem nodup_map {l : List Nat} {g : Nat → Nat} (hn : l.Nodup) (hg : ∀ x ∈ l, ∀ y ∈ l, g x = g y → x = y) : (l.map g).Nodup := by
  induction l with
  | nil => simp
  | cons a l ih =>
    obtain ⟨ha, hn⟩ := List.nodup_cons.1 hn
    rw [List.map_cons, List.nodup_cons]
    refine ⟨fun h => ?_, ih hn fun x hx y hy => hg x (by simp [hx]) y (by simp [hy])⟩
    obtain ⟨b, hb, e⟩ := List.mem_map.1 h
    have := hg b (by simp [hb]) a (by simp) e
    subst this
    exact ha hb
theorem pickL_sorted (p : Nat → Bool) (k : Nat) : (pickL p k).Pairwise (· < ·) := by
  induction k with
  | zero => exact List.Pairwise.nil
  | succ k ih =>
    rw [pickL]
    split
    · rw [List.pairwise_append]
      refine ⟨ih, List.pairwise_singleton _ _, fun a ha b hb => ?_⟩
      have h1 := (pickL_mem.1 ha).1
      have h2 : b = k := by simpa using hb
      omega
    · exact ih
theorem pickL_nodup (p : Nat → Bool) (k : Nat) : (pickL p k).Nodup := (pickL_sorted p k).imp fun h => by omega
end Go.Sw
