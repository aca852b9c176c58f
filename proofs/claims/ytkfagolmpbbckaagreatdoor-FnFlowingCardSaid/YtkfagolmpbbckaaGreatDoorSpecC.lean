/- The reference's influences and monotone networks. -/
import Derived.Test.YtkfagolmpbbckaaGreatDoorSpecB
namespace Go.Proofs.YtkfagolmpbbckaaGreatDoor
open Go Go.RowKit Go.Sw
set_option maxRecDepth 100000
set_option linter.unusedVariables false



theorem l7Sign_any (b cap : Nat) (N : Net) (hn : N.n ≤ 5) (i j : Nat) (hi : i < N.n) (hj : j < N.n) (w : World) (hat : StrsAt w b (netTexts N)) :
    Calls Tryz.prog 133 #[.slice (some ⟨b, 0, none⟩) N.n cap, .int .i64 i, .int .i64 j] w fun e w' => e = .returned (.int .i64 (sg (sgU N.n (N.f j) i) (sgD N.n (N.f j) i))) ∧ w = w' := by
  have hcell : w.cell? ⟨b, j, none⟩ = some (.string (tabText N.n (N.f j))) := by
    rw [← netTexts_get N j hj]; exact hat j (by rw [netTexts_length]; exact hj)
  have C := Lib.hid (l1Sign_any N.n (N.f j) i hn hi w)
  clear hat
  go_enter Tryz.func133, Tryz.ntmps133
  go_wp2_with (go_at_call 156; refine (C.out).mono ?_; rintro e w' ⟨rfl, rfl⟩)
  go_ret
  exact ⟨rfl, rfl⟩


theorem l8Monotone_any (b cap : Nat) (N : Net) (hn : N.n ≤ 5) (w : World) (hat : StrsAt w b (netTexts N)) :
    Calls Tryz.prog 100 #[.slice (some ⟨b, 0, none⟩) N.n cap] w fun e w' => e = .returned (.bool (monoN N)) ∧ w = w' := by
  have Hat := Lib.hid hat
  clear hat
  have hsg := sg_gt
  go_enter Tryz.func100, Tryz.ntmps100
  go_wp2_with fail
  go_loop [3] (fun j => ∃ k : Nat, k ≤ N.n ∧ j = .int .i64 k ∧ ∀ j' i', j' < k → i' < N.n → sgD N.n (N.f i') j' = false) (fun j => N.n - (intOf j).toNat)
  case atStart => exact ⟨0, Nat.zero_le _, rfl, fun j' i' h => absurd h (Nat.not_lt_zero _)⟩
  case round =>
    obtain ⟨j, hj, rfl, hall⟩ := hrel
    have Hall := Lib.hid hall
    clear hall
    by_cases hlt : j < N.n
    · go_wp2_with fail
      go_loop [4] (fun i => ∃ k : Nat, k ≤ N.n ∧ i = .int .i64 k ∧ ∀ i', i' < k → sgD N.n (N.f i') j = false) (fun i => N.n - (intOf i).toNat)
      case atStart => exact ⟨0, Nat.zero_le _, rfl, fun i' h => absurd h (Nat.not_lt_zero _)⟩
      case round =>
        obtain ⟨i, hi, rfl, hin⟩ := hrel
        have Hin := Lib.hid hin
        clear hin
        by_cases hlt2 : i < N.n
        · have C := Lib.hid (l7Sign_any b cap N hn j i hlt hlt2 w Hat.out)
          cases hd : sgD N.n (N.f i) j
          · have Hd := Lib.hid hd
            go_wp2_with (go_at_call 133; refine (C.out).mono ?_; rintro e w' ⟨rfl, rfl⟩)
            go_round
            case rel => exact ⟨i + 1, by omega, by go_num, fun i' h => by
                  by_cases e : i' = i
                  · subst e; exact Hd.out
                  · exact Hin.out i' (by omega)⟩
            case measure => simp [intOf] <;> omega
          · have hbad := monoN_bad hlt hlt2 hd
            have Hbad := Lib.hid hbad
            clear hbad
            go_wp2_with (go_at_call 133; refine (C.out).mono ?_; rintro e w' ⟨rfl, rfl⟩)
            go_ret
            exact ⟨by rw [Hbad.out]; rfl, rfl⟩
        · go_wp2_with fail
          go_round
          case rel => exact ⟨j + 1, by omega, by go_num, fun j' i' h h' => by
                by_cases e : j' = j
                · subst e; exact Hin.out i' (by omega)
                · exact Hall.out j' i' (by omega) h'⟩
          case measure => simp [intOf] <;> omega
    · have hok : monoN N = true := (monoN_iff N).2 fun j' i' h h' => Hall.out j' i' (by omega) h'
      have Hok := Lib.hid hok
      clear hok
      go_wp2_with fail
      go_ret
      exact ⟨by rw [Hok.out]; rfl, rfl⟩

theorem isMonotone_spec (s : ByteArray) (w : World) (hs : s.size ≤ 1048576) :
    Calls Tryz.prog 56 #[.string s] w fun e w' => Below w.heap.size w w' ∧ e = .returned (.bool (monoB s)) := by
  go_enter Tryz.func56, Tryz.ntmps56
  go_wp2_with fail
  refine (l3Open_any s w hs).mono ?_
  rintro e w1 ⟨hW1, ⟨hbad, v, rfl⟩ | ⟨hok, b, cap, rfl, hb1, hb2, hat⟩⟩
  · have hr : monoB s = false := by rw [monoB, hbad]; rfl
    have Hr := Lib.hid hr
    clear hr hbad
    go_wp2_with fail
    go_ret
    exact ⟨hW1, by rw [Hr.out]; rfl⟩
  · have hn := netOf_ok hok
    have hr : monoB s = monoN (netOf s) := by rw [monoB, hok]; rfl
    have Hr := Lib.hid hr
    have C := Lib.hid (l8Monotone_any b cap (netOf s) hn.2 w1 hat)
    clear hat hok hr
    go_wp2_with (go_at_call 100; refine (C.out).mono ?_; rintro e w' ⟨rfl, rfl⟩)
    go_ret
    exact ⟨hW1, by rw [Hr.out]; rfl⟩

end Go.Proofs.YtkfagolmpbbckaaGreatDoor
