/- Plain words and lemmas: the least and the greatest texts of a list, found by their places. -/
import Derived.Test.YtkfagolmpbbckaaDoorTm
namespace Go.Sw
open Go

def condB (least : Bool) (xs : List ByteArray) (i k : Nat) : Bool :=
  if least then insB (xs.getD k ByteArray.empty) (xs.getD i ByteArray.empty) else decide (0 < k) && insB (xs.getD i ByteArray.empty) (xs.getD k ByteArray.empty)
/-- is the text at place i kept, by what stands at the places below k? -/
def keepTo (least : Bool) (xs : List ByteArray) (i : Nat) : Nat → Bool
  | 0 => least || decide (0 < i)
  | k + 1 => keepTo least xs i k && !(!decide (k = i) && condB least xs i k)
def outTo (least : Bool) (xs : List ByteArray) : Nat → List ByteArray
  | 0 => []
  | m + 1 => if keepTo least xs m xs.length then outTo least xs m ++ [xs.getD m ByteArray.empty] else outTo least xs m
theorem keepTo_iff (least : Bool) (xs : List ByteArray) (i k : Nat) : keepTo least xs i k = true ↔ (least = true ∨ 0 < i) ∧ ∀ j, j < k → j ≠ i → condB least xs i j = false := by
  induction k with
  | zero => simp [keepTo]
  | succ k ih =>
    rw [keepTo, Bool.and_eq_true, ih]
    constructor
    · rintro ⟨⟨h1, h2⟩, h3⟩
      refine ⟨h1, fun j hj hne => ?_⟩
      by_cases e : j = k
      · subst e; simpa [hne] using h3
      · exact h2 j (by omega) hne
    · rintro ⟨h1, h2⟩
      refine ⟨⟨h1, fun j hj hne => h2 j (by omega) hne⟩, ?_⟩
      by_cases e : k = i
      · simp [e]
      · simp [e, h2 k (by omega) e]
theorem outTo_length (least : Bool) (xs : List ByteArray) (m : Nat) : (outTo least xs m).length ≤ m := by
  induction m with
  | zero => exact Nat.le_refl _
  | succ m ih =>
    rw [outTo]
    split
    · rw [List.length_append]; simp; omega
    · omega
theorem getD_get {xs : List ByteArray} {i : Nat} (h : i < xs.length) : xs.getD i ByteArray.empty = xs[i] := by rw [List.getD_eq_getElem?_getD, List.getElem?_eq_getElem h]; rfl
theorem neqT_iff {u t : ByteArray} : neqT u t = true ↔ u ≠ t := by
  unfold neqT
  rw [Bool.not_eq_true', beq_eq_false_iff_ne, ne_eq, ByteArray.toList_eq, ByteArray.toList_eq]
  exact ⟨fun h e => h (by rw [e]), fun h e => h (ba_ext e)⟩
theorem get_ne {xs : List ByteArray} (hn : xs.Nodup) {i j : Nat} (hi : i < xs.length) (hj : j < xs.length) (h : i ≠ j) : xs[i] ≠ xs[j] := by
  have hp := List.pairwise_iff_getElem.1 hn
  by_cases hlt : i < j
  · exact hp i j hi hj hlt
  · exact fun e => hp j i hj hi (by omega) e.symm
theorem keep_least {xs : List ByteArray} (hn : xs.Nodup) {i : Nat} (hi : i < xs.length) : keepTo true xs i xs.length = !lessB xs xs[i] := by
  rw [Bool.eq_iff_iff, keepTo_iff, Bool.not_eq_true', lessB, List.any_eq_false]
  constructor
  · rintro ⟨_, h⟩ u hu hc
    obtain ⟨j, hj, rfl⟩ := List.getElem_of_mem hu
    rw [Bool.and_eq_true, neqT_iff] at hc
    have hne : j ≠ i := fun e => hc.1 (by subst e; rfl)
    have := h j hj hne
    unfold condB at this
    rw [if_pos rfl, getD_get hj, getD_get hi] at this
    rw [this] at hc; exact absurd hc.2 (by decide)
  · intro h
    refine ⟨.inl rfl, fun j hj hne => ?_⟩
    unfold condB
    rw [if_pos rfl, getD_get hj, getD_get hi]
    have := h xs[j] (List.getElem_mem hj)
    cases e : insB xs[j] xs[i] with
    | false => rfl
    | true => exact absurd (by rw [Bool.and_eq_true, neqT_iff]; exact ⟨get_ne hn hj hi hne, e⟩) this
theorem out_least {xs : List ByteArray} (hn : xs.Nodup) : outTo true xs xs.length = leastT xs := by
  have key : ∀ m, m ≤ xs.length → outTo true xs m = (xs.take m).filter fun t => !lessB xs t := by
    intro m
    induction m with
    | zero => intro _; rfl
    | succ m ih =>
      intro hm
      rw [outTo, ih (by omega), keep_least hn (by omega), List.take_succ_eq_append_getElem (by omega), List.filter_append, getD_get (by omega)]
      cases e : lessB xs xs[m]
      · rw [List.filter_cons_of_pos (by rw [e]; rfl)]; rfl
      · rw [List.filter_cons_of_neg (by rw [e]; decide)]; simp
  have := key xs.length (Nat.le_refl _)
  rw [List.take_length] at this
  exact this
theorem keep_great {x : ByteArray} {r : List ByteArray} (hn : (x :: r).Nodup) {i : Nat} (hi : i < r.length) : keepTo false (x :: r) (i + 1) (x :: r).length = !moreB r r[i] := by
  have hnr := (List.nodup_cons.1 hn).2
  rw [Bool.eq_iff_iff, keepTo_iff, Bool.not_eq_true', moreB, List.any_eq_false]
  constructor
  · rintro ⟨_, h⟩ u hu hc
    obtain ⟨j, hj, rfl⟩ := List.getElem_of_mem hu
    rw [Bool.and_eq_true, neqT_iff] at hc
    have hne : j ≠ i := fun e => hc.1 (by subst e; rfl)
    have := h (j + 1) (by simp; omega) (by omega)
    unfold condB at this
    rw [if_neg (by decide), getD_get (xs := x :: r) (by simp; omega), getD_get (xs := x :: r) (by simp; omega), decide_eq_true (by omega), Bool.true_and] at this
    simp only [List.getElem_cons_succ] at this
    rw [this] at hc; exact absurd hc.2 (by decide)
  · intro h
    refine ⟨.inr (by omega), fun j hj hne => ?_⟩
    unfold condB
    rw [if_neg (by decide)]
    rcases j with _ | j
    · rfl
    · have hj' : j < r.length := by simp at hj; omega
      rw [getD_get (xs := x :: r) (by simp; omega), getD_get (xs := x :: r) (by simp; omega)]
      simp only [List.getElem_cons_succ]
      have := h r[j] (List.getElem_mem hj')
      cases e : insB r[i] r[j] with
      | false => simp
      | true => exact absurd (by rw [Bool.and_eq_true, neqT_iff]; exact ⟨get_ne hnr hj' hi (by omega), e⟩) this
theorem out_great {xs : List ByteArray} (hn : xs.Nodup) : outTo false xs xs.length = greatT xs.tail := by
  cases xs with
  | nil => rfl
  | cons x r =>
    have key : ∀ m, m ≤ r.length → outTo false (x :: r) (m + 1) = (r.take m).filter fun t => !moreB r t := by
      intro m
      induction m with
      | zero =>
        intro _
        rw [outTo]
        have : keepTo false (x :: r) 0 (x :: r).length = false := by
          cases e : keepTo false (x :: r) 0 (x :: r).length with
          | false => rfl
          | true =>
            have := ((keepTo_iff _ _ _ _).1 e).1
            simp at this
        rw [this]; rfl
      | succ m ih =>
        intro hm
        rw [outTo, ih (by omega), keep_great hn (by omega), List.take_succ_eq_append_getElem (by omega), List.filter_append, getD_get (xs := x :: r) (by simp; omega)]
        simp only [List.getElem_cons_succ]
        cases e : moreB r r[m]
        · rw [List.filter_cons_of_pos (by rw [e]; rfl)]; rfl
        · rw [List.filter_cons_of_neg (by rw [e]; decide)]; simp
    have := key r.length (Nat.le_refl _)
    rw [List.take_length] at this
    exact this
end Go.Sw
