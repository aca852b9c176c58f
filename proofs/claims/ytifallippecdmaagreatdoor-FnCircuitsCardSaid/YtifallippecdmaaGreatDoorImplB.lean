/- The program's basic questions: size, validity, steps, fixed points. -/
import Derived.Test.YtifallippecdmaaGreatDoorImplA
import Derived.Test.YtifallippecdmaaGreatDoorImpl9
import Derived.Test.YtifallippecdmaaGreatDoorSl
import Derived.Test.YtifallippecdmaaGreatDoorP2
import Derived.Test.YtifallippecdmaaGreatDoorIv
namespace Go.Proofs.YtifallippecdmaaGreatDoor
open Go Go.RowKit Go.Sw
set_option maxRecDepth 100000
set_option linter.unusedVariables false

def sizI (t : ByteArray) : Int := if netOk t then ((netOf t).n : Nat) else -1
theorem sizI_yes {t : ByteArray} (h : netOk t = true) : sizI t = ((netOf t).n : Nat) := by rw [sizI, h]; rfl
theorem sizI_no {t : ByteArray} (h : netOk t = false) : sizI t = -1 := by rw [sizI, h]; rfl
theorem sizeOf_impl (s : ByteArray) (w : World) (hs : s.size ≤ 1048576) :
    Calls Tryz.prog 10 #[.string s] w fun e w' => Below w.heap.size w w' ∧ e = .returned (.int .i64 (sizI s)) := by
  have c := Lib.hid (readNetwork_any s w hs)
  go_enter Tryz.func10, Tryz.ntmps10
  go_wp2_with fail
  refine c.out.mono ?_
  rintro e w1 ⟨hW1, ⟨hbad, rfl⟩ | ⟨hok, b, cap, rfl, hb1, hb2, hat⟩⟩
  · have Hr := Lib.hid (sizI_no hbad)
    clear hbad
    go_wp2_with fail
    go_ret
    exact ⟨hW1, by rw [Hr.out]; rfl⟩
  · have Hr := Lib.hid (sizI_yes hok)
    clear hok hat
    go_wp2_with fail
    go_ret
    exact ⟨hW1, by rw [Hr.out]; rfl⟩
theorem networkValid_impl (s : ByteArray) (w : World) (hs : s.size ≤ 1048576) :
    Calls Tryz.prog 8 #[.string s] w fun e w' => Below w.heap.size w w' ∧ e = .returned (.bool (netOk s)) := by
  have c := Lib.hid (readNetwork_any s w hs)
  go_enter Tryz.func8, Tryz.ntmps8
  go_wp2_with fail
  refine c.out.mono ?_
  rintro e w1 ⟨hW1, ⟨hbad, rfl⟩ | ⟨hok, b, cap, rfl, hb1, hb2, hat⟩⟩
  · have Hr := Lib.hid hbad
    clear hbad
    go_wp2_with fail
    go_ret
    exact ⟨hW1, by rw [Hr.out]; rfl⟩
  · have Hr := Lib.hid hok
    clear hok hat
    go_wp2_with fail
    go_ret
    exact ⟨hW1, by rw [Hr.out]; rfl⟩
def fixB (N : Net) (s : Nat) : Bool := stepN N s == s
theorem fixB_iff {N : Net} {s : Nat} : fixB N s = true ↔ stepN N s = s := by unfold fixB; rw [beq_iff_eq]
/-- the fixed points in order -/
def fixL (N : Net) : List Nat := pickL (fixB N) (pw N.n)
theorem fixL_mem {N : Net} {s : Nat} : s ∈ fixL N ↔ s < pw N.n ∧ stepN N s = s := by unfold fixL; rw [pickL_mem, fixB_iff]
def pointsL (t : ByteArray) : List Nat := if netOk t then fixL (netOf t) else []
theorem pointsL_length (t : ByteArray) : (pointsL t).length ≤ 32 := by
  unfold pointsL
  cases h : netOk t
  · rw [if_neg (by decide)]; exact Nat.zero_le _
  · rw [if_pos rfl]; exact Nat.le_trans (pickL_length _ _) (pw_le (netOf_ok h).2).2
end Go.Proofs.YtifallippecdmaaGreatDoor
