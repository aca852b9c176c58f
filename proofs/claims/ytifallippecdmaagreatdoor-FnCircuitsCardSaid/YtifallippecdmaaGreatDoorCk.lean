/- The program's circuits, one by one. -/
import Derived.Test.YtifallippecdmaaGreatDoorImplJ
namespace Go.Proofs.YtifallippecdmaaGreatDoor
open Go Go.RowKit Go.Sw
set_option maxRecDepth 100000
set_option linter.unusedVariables false

/-- a circuit as a value -/
def circV (N : Net) (way : List Nat) (g c : Nat) : Value := .agg #[.slice (some ⟨g, 0, none⟩) way.length c, .int .i64 (setL way : Nat), .int .u8 (signT (circC N way)).toNat]
theorem CircsAt.get {w : World} {N : Net} {v : Value} {cs : List (List Nat)} (h : CircsAt w N v cs) {j : Nat} (hj : j < cs.length) : ∃ q c g c2, v = .slice (some ⟨q, 0, none⟩) cs.length c ∧ q < w.heap.size ∧ RowAt w g cs[j] ∧ w.rangeAt q (j * 3) (circCells N cs[j] g c2) := by
  obtain ⟨base, xs, ho, hx⟩ := h
  obtain ⟨g, c2, h1, h2⟩ := hx j hj
  rcases ho.2 with ⟨rfl, hz⟩ | ⟨q, cap, cur, rfl, hb, hg, h3, h4, h5, h6⟩
  · omega
  · refine ⟨q, cap, g, c2, rfl, block_lt hg, h2, fun m u hu => ?_⟩
    have hm : m < 3 := by
      have := (List.getElem?_eq_some_iff.1 hu).1
      simpa [circCells] using this
    rw [cell_of_row w _ _ _ _ _ hg]
    have e := h1 m hm
    rw [← h6, List.getElem?_take, if_pos (by omega)] at e
    rw [← hu, ← e]; simp
theorem CircsAt.below {w w' : World} {N : Net} {v : Value} {cs : List (List Nat)} (h : CircsAt w N v cs) (hb : Below w.heap.size w w') : CircsAt w' N v cs := by
  obtain ⟨base, xs, ho, hx⟩ := h
  refine ⟨base, xs, own_below ho hb, fun j hj => ?_⟩
  obtain ⟨g, c, h1, h2⟩ := hx j hj
  exact ⟨g, c, h1, h2.below hb⟩
end Go.Proofs.YtifallippecdmaaGreatDoor
