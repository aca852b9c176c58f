/- Plain words and lemmas: the sign of a circuit, switch by switch. -/
import Derived.Test.YtkfagolmpbbckaaDoorCi
namespace Go.Sw
open Go

/-- the influence that leaves the switch at place k of a circuit -/
def codeC (N : Net) (way : List Nat) (k : Nat) : Nat := edgeC N (way.getD k 0) (way.getD ((k + 1) % way.length) 0)
def foldC (N : Net) (way : List Nat) : Nat → Nat
  | 0 => 1
  | k + 1 => timesC (foldC N way k) (codeC N way k)
theorem lastN_take {way : List Nat} {k : Nat} (h : k < way.length) : lastN (way.take (k + 1)) = way.getD k 0 := by
  rw [List.take_succ_eq_append_getElem h, lastN_snoc, List.getD_eq_getElem?_getD, List.getElem?_eq_getElem h]; rfl
theorem wayC_take {N : Net} {way : List Nat} (k : Nat) (h : k < way.length) : wayC N (way.take (k + 1)) = foldC N way k := by
  induction k with
  | zero =>
    cases way with
    | nil => simp at h
    | cons a r => rfl
  | succ k ih =>
    have h1 : way.take (k + 1) ≠ [] := by
      intro e
      have := congrArg List.length e
      rw [List.length_take, List.length_nil] at this; omega
    rw [List.take_succ_eq_append_getElem (i := k + 1) h, wayC_snoc N h1, ih (by omega), lastN_take (way := way) (k := k) (by omega), foldC]
    unfold codeC
    rw [Nat.mod_eq_of_lt (by omega : k + 1 < way.length)]
    congr 2
    rw [List.getD_eq_getElem?_getD, List.getElem?_eq_getElem h]; rfl
theorem circC_fold {N : Net} {way : List Nat} (h : way ≠ []) : circC N way = foldC N way way.length := by
  have hl : 0 < way.length := List.length_pos_iff.2 h
  obtain ⟨m, hm⟩ : ∃ m, way.length = m + 1 := ⟨way.length - 1, by omega⟩
  have h1 := wayC_take (N := N) m (by omega : m < way.length)
  rw [← hm, List.take_length] at h1
  rw [circC, h1, hm, foldC]
  unfold codeC
  rw [hm, Nat.mod_self]
  have h2 := lastN_take (way := way) (k := m) (by omega)
  rw [← hm, List.take_length] at h2
  rw [h2]
  congr 2
  cases way with
  | nil => exact absurd rfl h
  | cons a r => rfl
theorem foldC_three {N : Net} {way : List Nat} {j m : Nat} (hj : j < m) (h : codeC N way j = 3) : foldC N way m = 3 := by
  induction m with
  | zero => omega
  | succ m ih =>
    rw [foldC]
    by_cases e : j = m
    · subst e; rw [h]; simp [timesC]
    · rw [ih (by omega), timesC_three]
/-- how many of the first k influences are minus -/
def minusC (N : Net) (way : List Nat) : Nat → Nat
  | 0 => 0
  | k + 1 => minusC N way k + if codeC N way k = 2 then 1 else 0
theorem minusC_le (N : Net) (way : List Nat) (k : Nat) : minusC N way k ≤ k := by
  induction k with
  | zero => exact Nat.le_refl _
  | succ k ih => rw [minusC]; split <;> omega
theorem foldC_minus {N : Net} {way : List Nat} {m : Nat} (h : ∀ j, j < m → codeC N way j = 1 ∨ codeC N way j = 2) : foldC N way m = 1 + minusC N way m % 2 := by
  induction m with
  | zero => rfl
  | succ m ih =>
    rw [foldC, minusC, ih fun j hj => h j (by omega)]
    have h2 : minusC N way m % 2 = 0 ∨ minusC N way m % 2 = 1 := by omega
    rcases h m (by omega) with e | e <;> rw [e] <;> rcases h2 with h2 | h2
    · rw [h2]; simp [timesC, h2]
    · rw [h2]; simp [timesC, h2]
    · have : (minusC N way m + 1) % 2 = 1 := by omega
      rw [h2]; simp [timesC, this]
    · have : (minusC N way m + 1) % 2 = 0 := by omega
      rw [h2]; simp [timesC, this]
theorem sgT_code (N : Net) (i k : Nat) : sgT (sgU N.n (N.f k) i) (sgD N.n (N.f k) i) = ⟨#[signT (edgeC N i k)]⟩ := by
  unfold sgT edgeC
  cases sgU N.n (N.f k) i <;> cases sgD N.n (N.f k) i <;> rfl
/-- all influences along a circuit are there -/
def edgesOk (N : Net) (way : List Nat) : Prop := ∀ k, k < way.length → 0 < codeC N way k
/-- all influences along a way are there -/
def stepsOk (N : Net) (way : List Nat) : Prop := ∀ k, k + 1 < way.length → 0 < edgeC N (way.getD k 0) (way.getD (k + 1) 0)
theorem stepsOk.one (N : Net) (i : Nat) : stepsOk N [i] := fun k h => by simp at h
theorem getD_snoc_lt {l : List Nat} {x k : Nat} (h : k < l.length) : (l ++ [x]).getD k 0 = l.getD k 0 := by
  rw [List.getD_eq_getElem?_getD, List.getD_eq_getElem?_getD, List.getElem?_append_left h]
theorem getD_snoc_eq (l : List Nat) (x : Nat) : (l ++ [x]).getD l.length 0 = x := by
  rw [List.getD_eq_getElem?_getD, List.getElem?_append_right (Nat.le_refl _)]; simp
theorem getD_last {l : List Nat} (h : l ≠ []) : l.getD (l.length - 1) 0 = lastN l := by
  have hl : 0 < l.length := List.length_pos_iff.2 h
  have h2 := lastN_take (way := l) (k := l.length - 1) (by omega)
  rw [show l.length - 1 + 1 = l.length by omega, List.take_length] at h2
  exact h2.symm
theorem getD_head {l : List Nat} : l.getD 0 0 = headN l := by cases l <;> rfl
theorem stepsOk.snoc {N : Net} {way : List Nat} (h : stepsOk N way) (hne : way ≠ []) {k : Nat} (hk : 0 < edgeC N (lastN way) k) : stepsOk N (way ++ [k]) := by
  intro j hj
  rw [List.length_append, List.length_singleton] at hj
  by_cases e : j + 1 < way.length
  · rw [getD_snoc_lt (by omega), getD_snoc_lt e]; exact h j e
  · have e2 : j = way.length - 1 := by omega
    have hl : 0 < way.length := List.length_pos_iff.2 hne
    rw [getD_snoc_lt (by omega), show j + 1 = way.length by omega, getD_snoc_eq, e2, getD_last hne]; exact hk
theorem stepsOk.close {N : Net} {way : List Nat} (h : stepsOk N way) (hne : way ≠ []) (hc : closeB N way = true) : edgesOk N way := by
  intro k hk
  unfold codeC
  by_cases e : k + 1 < way.length
  · rw [Nat.mod_eq_of_lt e]; exact h k e
  · have e2 : k = way.length - 1 := by omega
    rw [show k + 1 = way.length by omega, Nat.mod_self, e2, getD_last hne, getD_head]
    unfold closeB at hc
    rw [edgeC_inf, decide_eq_true_eq] at hc
    exact hc
end Go.Sw
