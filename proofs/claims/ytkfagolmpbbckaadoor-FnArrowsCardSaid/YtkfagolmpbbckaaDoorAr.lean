/- Plain words and lemmas: the arrows of a network as texts. -/
import Derived.Test.YtkfagolmpbbckaaDoorCj
namespace Go.Sw
open Go

/-- an arrow's text -/
def arrT (N : Net) (i k : Nat) : ByteArray := bs [UInt8.ofNat (48 + i), 62, UInt8.ofNat (48 + k), signT (edgeC N i k)]
/-- the arrows of a switch to those below k; of the switches below i -/
def rowA (N : Net) (i : Nat) : Nat → List ByteArray
  | 0 => []
  | k + 1 => if 0 < edgeC N i k then rowA N i k ++ [arrT N i k] else rowA N i k
def arrL (N : Net) : Nat → List ByteArray
  | 0 => []
  | i + 1 => arrL N i ++ rowA N i N.n
def arrowsL (w : ByteArray) : List ByteArray := if netOk w then arrL (netOf w) (netOf w).n else []
/-- the arrows told so far -/
def partA (N : Net) (i k : Nat) : List ByteArray := arrL N i ++ rowA N i k
theorem partA_zero (N : Net) (i : Nat) : partA N i 0 = arrL N i := List.append_nil _
theorem partA_end (N : Net) (i : Nat) : partA N i N.n = arrL N (i + 1) := rfl
theorem rowA_length (N : Net) (i k : Nat) : (rowA N i k).length ≤ k := by
  induction k with
  | zero => exact Nat.le_refl _
  | succ k ih =>
    rw [rowA]
    split
    · rw [List.length_append]; simp; omega
    · omega
theorem arrL_length {N : Net} (hn : N.n ≤ 5) (i : Nat) : (arrL N i).length ≤ i * 5 := by
  induction i with
  | zero => exact Nat.le_refl _
  | succ i ih =>
    have := rowA_length N i N.n
    rw [arrL, List.length_append]; omega
theorem arrowsL_length (w : ByteArray) : (arrowsL w).length ≤ 25 := by
  unfold arrowsL
  split
  · rename_i h
    have h1 := netOf_ok h
    have := arrL_length h1.2 (netOf w).n
    omega
  · simp
theorem rowA_yes {N : Net} {i k : Nat} (h : 0 < edgeC N i k) : rowA N i (k + 1) = rowA N i k ++ [arrT N i k] := by rw [rowA, if_pos h]
theorem rowA_no {N : Net} {i k : Nat} (h : edgeC N i k = 0) : rowA N i (k + 1) = rowA N i k := by rw [rowA, if_neg (by omega)]
theorem partA_yes {N : Net} {i k : Nat} (h : 0 < edgeC N i k) : partA N i (k + 1) = partA N i k ++ [arrT N i k] := by unfold partA; rw [rowA_yes h, List.append_assoc]
theorem partA_no {N : Net} {i k : Nat} (h : edgeC N i k = 0) : partA N i (k + 1) = partA N i k := by unfold partA; rw [rowA_no h]
theorem partA_length {N : Net} (hn : N.n ≤ 5) (i k : Nat) : (partA N i k).length ≤ i * 5 + k := by
  have h1 := arrL_length hn i
  have h2 := rowA_length N i k
  unfold partA
  rw [List.length_append]; omega
end Go.Sw
