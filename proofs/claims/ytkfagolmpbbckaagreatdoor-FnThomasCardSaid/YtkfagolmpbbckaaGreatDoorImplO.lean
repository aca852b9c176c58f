/- The program's least and greatest traps. -/
import Derived.Test.YtkfagolmpbbckaaGreatDoorImplN
import Derived.Test.YtkfagolmpbbckaaGreatDoorShelf
import Derived.Deep.Upon
import Derived.Lib.SliceRun
namespace Go.Proofs.YtkfagolmpbbckaaGreatDoor
open Go Go.RowKit Go.Sw
set_option maxRecDepth 100000
set_option linter.unusedVariables false

/-- texts lie in a slice, from wherever in its block -/
structure TxR (w : World) (a : Option Addr) (xs : List ByteArray) : Prop where
  at' : 0 < xs.length → ∃ g o, a = some ⟨g, o, none⟩ ∧ g < w.heap.size ∧ ∀ j (h : j < xs.length), w.cell? ⟨g, o + j, none⟩ = some (.string xs[j])
theorem TxR.below {w w' : World} {a : Option Addr} {xs : List ByteArray} (h : TxR w a xs) {B : Nat} (hb : Below B w w') (hB : ∀ g o, a = some ⟨g, o, none⟩ → g < B) : TxR w' a xs := ⟨fun h0 => by
  obtain ⟨g, o, e, h1, h2⟩ := h.at' h0
  exact ⟨g, o, e, Nat.lt_of_lt_of_le h1 hb.size, fun j hj => (hb.cell (hB g o e)).trans (h2 j hj)⟩⟩
theorem TxR.step {w w' : World} {a : Option Addr} {xs : List ByteArray} (h : TxR w a xs) (hb : Below w.heap.size w w') : TxR w' a xs := ⟨fun h0 => by
  obtain ⟨g, o, e, h1, h2⟩ := h.at' h0
  exact ⟨g, o, e, Nat.lt_of_lt_of_le h1 hb.size, fun j hj => (hb.cell h1).trans (h2 j hj)⟩⟩
theorem TextsAt.txR {w : World} {B : Nat} {a : Option Addr} {xs : List ByteArray} (h : TextsAt w B a xs) : TxR w a xs := ⟨fun h0 => by
  obtain ⟨g, cur, t, h1, _, h3, _, h5⟩ := h.at' h0
  exact ⟨g, 0, h1, block_lt h3, fun j hj => by rw [cell_of_row w _ _ _ _ _ h3, Nat.zero_add]; exact h5 j hj⟩⟩
theorem TxR.lt {w : World} {a : Option Addr} {xs : List ByteArray} (h : TxR w a xs) (h0 : 0 < xs.length) : ∀ g o, a = some ⟨g, o, none⟩ → g < w.heap.size := fun g o e => by
  obtain ⟨g', o', e', h1, _⟩ := h.at' h0
  rw [e] at e'
  cases e'; exact h1
/-- the first place of a kind, or -1 -/
def findS (p : ByteArray → Bool) (xs : List ByteArray) : Int := match xs.findIdx? p with | some k => (k : Int) | none => -1
theorem findS_some {p : ByteArray → Bool} {cs : List ByteArray} {k : Nat} (hk : k < cs.length) (h : p cs[k] = true) (hb : ∀ j (hj : j < k), p (cs[j]'(by omega)) = false) : findS p cs = (k : Int) := by
  unfold findS
  rw [List.findIdx?_eq_some_iff_getElem.2 ⟨hk, h, fun j hj => by rw [hb j hj]; decide⟩]
theorem findS_none {p : ByteArray → Bool} {cs : List ByteArray} (hb : ∀ j (hj : j < cs.length), p cs[j] = false) : findS p cs = -1 := by
  unfold findS
  rw [List.findIdx?_eq_none_iff.2 fun x hx => by
    obtain ⟨j, hj, rfl⟩ := List.getElem_of_mem hx
    exact hb j hj]
theorem findS_cases (p : ByteArray → Bool) (cs : List ByteArray) : (findS p cs = -1 ∧ ∀ j (hj : j < cs.length), p cs[j] = false) ∨ ∃ k, ∃ hk : k < cs.length, findS p cs = (k : Int) ∧ p cs[k] = true ∧ ∀ j (hj : j < k), p (cs[j]'(by omega)) = false := by
  unfold findS
  cases h : cs.findIdx? p with
  | none =>
    rw [List.findIdx?_eq_none_iff] at h
    exact .inl ⟨rfl, fun j hj => h _ (List.getElem_mem hj)⟩
  | some k =>
    obtain ⟨hk, hp, hb⟩ := List.findIdx?_eq_some_iff_getElem.1 h
    exact .inr ⟨k, hk, rfl, hp, fun j hj => by simpa using hb j hj⟩
theorem findS_any (p : ByteArray → Bool) (cs : List ByteArray) : decide (0 ≤ findS p cs) = cs.any p := by
  rcases findS_cases p cs with ⟨h, hall⟩ | ⟨k, hk, h, hp, _⟩
  · have : cs.any p = false := by
      rw [List.any_eq_false]
      intro x hx
      obtain ⟨j, hj, rfl⟩ := List.getElem_of_mem hx
      rw [hall j hj]; decide
    rw [h, this]; decide
  · have : cs.any p = true := List.any_eq_true.2 ⟨_, List.getElem_mem hk, hp⟩
    rw [h, this, decide_eq_true_eq]; exact Int.natCast_nonneg k
end Go.Proofs.YtkfagolmpbbckaaGreatDoor
