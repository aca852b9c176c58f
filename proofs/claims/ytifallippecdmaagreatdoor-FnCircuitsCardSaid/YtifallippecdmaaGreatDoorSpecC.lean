/- The reference's influences and monotone networks. -/
import Derived.Test.YtifallippecdmaaGreatDoorSpecB
namespace Go.Proofs.YtifallippecdmaaGreatDoor
open Go Go.RowKit Go.Sw
set_option maxRecDepth 100000
set_option linter.unusedVariables false



theorem l7Sign_any (b cap : Nat) (N : Net) (hn : N.n ≤ 5) (i j : Nat) (hi : i < N.n) (hj : j < N.n) (w : World) (hat : StrsAt w b (netTexts N)) :
    Calls Tryz.prog 60 #[.slice (some ⟨b, 0, none⟩) N.n cap, .int .i64 i, .int .i64 j] w fun e w' => e = .returned (.int .i64 (sg (sgU N.n (N.f j) i) (sgD N.n (N.f j) i))) ∧ w = w' := by
  have hcell : w.cell? ⟨b, j, none⟩ = some (.string (tabText N.n (N.f j))) := by
    rw [← netTexts_get N j hj]; exact hat j (by rw [netTexts_length]; exact hj)
  have C := Lib.hid (l1Sign_any N.n (N.f j) i hn hi w)
  clear hat
  go_enter Tryz.func60, Tryz.ntmps60
  go_wp2_with (go_at_call 79; refine (C.out).mono ?_; rintro e w' ⟨rfl, rfl⟩)
  go_ret
  exact ⟨rfl, rfl⟩



end Go.Proofs.YtifallippecdmaaGreatDoor
