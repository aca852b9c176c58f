/- The laws' comparison of two lists. -/
import Derived.Test.YtifallippecdmaaGreatDoorSl
import Derived.Test.YtifallippecdmaaGreatDoorSx
namespace Go.Proofs.YtifallippecdmaaGreatDoor
open Go Go.RowKit Go.Sw
set_option maxRecDepth 100000
set_option linter.unusedVariables false

theorem bnTexts_any (B1 B2 : Nat) (a b : Option Addr) (ca cb : Nat) (xs : List ByteArray) (w : World) (h1 : TextsAt w B1 a xs) (h2 : TextsAt w B2 b xs) (hn1 : xs.length ≤ 4000000) :
    Calls Tryz.prog 6 #[.slice a xs.length ca, .slice b xs.length cb] w fun e w' => Below w.heap.size w w' ∧ e = .returned (.bool true) := by
  have H1 := Lib.hid h1.at'
  have H2 := Lib.hid h2.at'
  clear h1 h2
  go_enter Tryz.func6, Tryz.ntmps6
  go_wp2_with fail
  go_loopw [5] (fun i wr => (∃ k : Nat, k ≤ xs.length ∧ i = .int .i64 k) ∧ ∃ nq, wr = w.drewN nq) (fun i _ => xs.length - (intOf i).toNat)
  case atStart => exact ⟨⟨0, Nat.zero_le _, rfl⟩, 0, rfl⟩
  case round =>
    obtain ⟨⟨k, hk, rfl⟩, nq0, rfl⟩ := hrel
    by_cases hlt : k < xs.length
    · obtain ⟨g1, c1, t1, rfl, _, hc1, _, hj1⟩ := H1.out (by omega)
      obtain ⟨g2, c2, t2, rfl, _, hc2, _, hj2⟩ := H2.out (by omega)
      have e1 : w.cell? ⟨g1, k, none⟩ = some (.string xs[k]) := by rw [cell_of_row w _ _ _ _ _ hc1]; exact hj1 k hlt
      have e2 : w.cell? ⟨g2, k, none⟩ = some (.string xs[k]) := by rw [cell_of_row w _ _ _ _ _ hc2]; exact hj2 k hlt
      clear hj1 hj2 hc1 hc2
      go_wp2_with fail
      (refine wp_region_quiet_lit (by kernel_rfl) (by kernel_rfl) ?_; (repeat ((with_reducible refine wpQuiet_step ?_); intro K hK; go_simp; first | ((with_reducible refine hK _ ?_); clear hK K) | (rw [if_neg (by decide)]; (with_reducible refine hK _ ?_); clear hK K) | (apply Exists.intro; refine ⟨fun _ => ?_, hK _ ?_⟩; (fail); clear hK K))); (with_reducible refine wpQuiet_nil ?_); intro _ hw'; obtain ⟨nq, hw''⟩ := hw'; subst hw'')
      go_wp2_with fail
      first
        | (go_roundw
           case rel => exact ⟨⟨k + 1, by omega, by go_num⟩, _, rfl⟩
           case measure => simp [intOf] <;> omega)
        | exact ⟨⟨⟨k + 1, by omega, by go_num⟩, _, rfl⟩, by simp [intOf] <;> omega⟩
    · go_wp2_with fail
      go_ret
      exact ⟨below_drewN (Below.refl _ _) _, rfl⟩
end Go.Proofs.YtifallippecdmaaGreatDoor
