/- The reference's least terms and traps. -/
import Derived.Test.YtkfagolmpbbckaaGreatDoorSpecE
namespace Go.Proofs.YtkfagolmpbbckaaGreatDoor
open Go Go.RowKit Go.Sw
set_option maxRecDepth 100000
set_option linter.unusedVariables false

theorem termT_succ (n : Nat) (p : Trm) : termT (n + 1) p = termT n p ++ bs [letterT (p n)] := by
  apply ba_ext
  simp [termT, List.range_succ]
theorem dec_bit (b : Bool) : decT b.toNat = bs [letterT (some b)] := by cases b <;> rfl
/-- a term with a star put in -/
def starP (p : Trm) (i : Nat) : Trm := fun j => if j = i then none else p j
theorem termT_star (n : Nat) (p : Trm) (i : Nat) (h : i < n) : (termT n p).extract 0 i ++ ⟨#[42]⟩ ++ (termT n p).extract (i + 1) n = termT n (starP p i) := by
  apply ba_ext
  simp only [ByteArray.data_append, ByteArray.data_extract, Array.toList_append, Array.toList_extract, List.extract_eq_take_drop, termT, bs_data]
  apply List.ext_getElem
  · simp; omega
  · intro j h1 h2
    have hj : j < n := by simpa using h2
    simp only [List.getElem_map, List.getElem_range]
    by_cases e : j < i
    · rw [List.getElem_append_left (by simp; omega), List.getElem_append_left (by simp; omega)]
      simp [starP, show j ≠ i by omega]
    · by_cases e2 : j = i
      · subst e2
        rw [List.getElem_append_left (by simp; omega), List.getElem_append_right (by simp; omega)]
        simp [starP, letterT]
      · rw [List.getElem_append_right (by simp; omega)]
        simp only [List.length_append, List.length_take, List.length_drop, List.length_map, List.length_range, List.length_singleton]
        have e3 : starP p i j = p j := by simp [starP, e2]
        rw [e3]
        simp
        congr 2
        omega


theorem foldS_take {α : Type} (f : Trm → α → Trm) (l : List α) (p : Trm) (k : Nat) (h : k < l.length) : (l.take (k + 1)).foldl f p = f ((l.take k).foldl f p) l[k] := by
  rw [List.take_succ_eq_append_getElem h, List.foldl_append]; rfl
/-- the first i switches joined with a state -/
def joinS (p : Trm) (s k : Nat) : Trm := fun j => if j < k then joinP p s j else p j
theorem joinS_next (p : Trm) (s k : Nat) (h : joinP p s k = none) (j : Nat) : starP (joinS p s k) k j = joinS p s (k + 1) j := by
  unfold joinS starP
  simp only
  by_cases e : j = k
  · subst e; rw [if_pos rfl, if_pos (by omega), h]
  · rw [if_neg e]
    by_cases h2 : j < k
    · rw [if_pos h2, if_pos (by omega)]
    · rw [if_neg h2, if_neg (by omega)]
theorem joinS_skip (p : Trm) (s k : Nat) (h : joinP p s k = p k) (j : Nat) : joinS p s k j = joinS p s (k + 1) j := by
  unfold joinS
  by_cases e : j = k
  · subst e; rw [if_neg (by omega), if_pos (by omega), h]
  · by_cases h2 : j < k
    · rw [if_pos h2, if_pos (by omega)]
    · rw [if_neg h2, if_neg (by omega)]



/-- some states, and the steps of the first k of them -/
def stepsS (N : Net) (L : List Nat) (k : Nat) : List Nat := L ++ (L.take k).map (stepN N)
theorem stepsS_zero (N : Net) (L : List Nat) : stepsS N L 0 = L := by simp [stepsS]
theorem stepsS_succ (N : Net) (L : List Nat) (k : Nat) (h : k < L.length) : stepsS N L (k + 1) = stepsS N L k ++ [stepN N L[k]] := by
  unfold stepsS
  rw [List.take_succ_eq_append_getElem h, List.map_append, List.append_assoc, List.map_singleton]
theorem stepsS_length (N : Net) (L : List Nat) (k : Nat) (h : k ≤ L.length) : (stepsS N L k).length = L.length + k := by
  unfold stepsS
  rw [List.length_append, List.length_map, List.length_take, Nat.min_eq_left h]
/-- how far the closing of a term has come -/
def CloseS (N : Net) (p0 : Trm) (g : Nat) (p : Trm) : Prop := closeP (N.n + 1) N p0 = closeP g N p ∧ N.n + 1 ≤ g + starN N.n p
theorem CloseS.zero (N : Net) (p : Trm) : CloseS N p (N.n + 1) p := ⟨rfl, by omega⟩
theorem CloseS.next {N : Net} {p0 p : Trm} {g : Nat} (h : CloseS N p0 g p) (ht : trapP N p = false) : 0 < g ∧ CloseS N p0 (g - 1) (nextP N p) := by
  have h1 := starN_grows ht
  have h2 := starN_le N.n (nextP N p)
  obtain ⟨a1, a2⟩ := h
  obtain ⟨f, rfl⟩ : ∃ f, g = f + 1 := ⟨g - 1, by omega⟩
  rw [closeP_step ht] at a1
  exact ⟨by omega, a1, by omega⟩
theorem CloseS.stop {N : Net} {p0 p : Trm} {g : Nat} (h : CloseS N p0 g p) (ht : trapP N p = true) : closeP (N.n + 1) N p0 = p := by
  rw [h.1, closeP_done ht]


end Go.Proofs.YtkfagolmpbbckaaGreatDoor
