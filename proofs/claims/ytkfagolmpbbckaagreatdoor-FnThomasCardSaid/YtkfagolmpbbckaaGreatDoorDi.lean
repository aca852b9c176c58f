/- The reference's draws for traps: a network and a term. -/
import Derived.Test.YtkfagolmpbbckaaGreatDoorMa
import Derived.Test.YtkfagolmpbbckaaGreatDoorSpecN
import Derived.Deep.RegionHeld3
namespace Go.Proofs.YtkfagolmpbbckaaGreatDoor
open Go Go.RowKit Go.Sw
set_option maxRecDepth 100000
set_option linter.unusedVariables false

theorem traps_size {t x : ByteArray} (hx : x ∈ trapsL t) : x.size ≤ 1100 := by
  unfold trapsL at hx
  cases hok : netOk t
  · rw [hok] at hx; simp at hx
  · rw [hok, if_pos rfl] at hx
    unfold trapsT at hx
    obtain ⟨p, _, rfl⟩ := List.mem_map.1 hx
    rw [termT_size]
    have := netOf_ok hok
    omega
def TopTT (w w' : World) (e : Ending) : Prop := Below w.heap.size w w' ∧ ∃ t u : ByteArray, t.size ≤ 1100 ∧ u.size ≤ 1100 ∧ e = .returned (.tuple #[.string t, .string u])
def TtAt (w w' : World) (r m : Nat) (e : Ending) : Prop := Drw w w' r ∧ Rd w' r m ∧ ∃ t u : ByteArray, t.size ≤ 1100 ∧ u.size ≤ 1100 ∧ e = .returned (.tuple #[.string t, .string u])
end Go.Proofs.YtkfagolmpbbckaaGreatDoor
