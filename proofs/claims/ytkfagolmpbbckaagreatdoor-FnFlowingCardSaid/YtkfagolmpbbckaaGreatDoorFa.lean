/- The longest tail, a state's text, of the program. -/
import Derived.Test.YtkfagolmpbbckaaGreatDoorOc
import Derived.Test.YtkfagolmpbbckaaGreatDoorTh
import Derived.Test.YtkfagolmpbbckaaGreatDoorImplF
namespace Go.Proofs.YtkfagolmpbbckaaGreatDoor
open Go Go.RowKit Go.Sw
set_option maxRecDepth 100000
set_option linter.unusedVariables false
theorem longestTail_flow (t : ByteArray) (w : World) (hs : t.size ≤ 1048576) (hok : netOk t = true) (hc : circL (netOf t) = []) :
    Calls Tryz.prog 27 #[.string t] w fun e w' => Below w.heap.size w w' ∧ ∃ m : Nat, m ≤ (netOf t).n ∧ e = .returned (.int .i64 (m : Int)) := by
  have hn := netOf_ok hok
  have cR := Lib.hid (readNetwork_any t w hs)
  have Hok := Lib.hid hok
  obtain ⟨N, hN⟩ : ∃ N, netOf t = N := ⟨_, rfl⟩
  rw [hN] at hn cR hc ⊢
  have hpw := pw_le hn.2
  have Hc := Lib.hid hc
  clear hok hN hc
  go_enter Tryz.func27, Tryz.ntmps27
  go_wp2_with fail
  refine cR.out.mono ?_
  rintro e w1 ⟨hW1, ⟨hbad, rfl⟩ | ⟨hok2, b, cap, rfl, hb1, hb2, hat⟩⟩
  · rw [Hok.out] at hbad; cases hbad
  · have Hat := Lib.hid hat
    have hW1s := hW1.size
    have cS := Lib.hid (fun wx => states_any (some ⟨b, 0, none⟩) N.n cap hn.2 wx)
    clear hat hok2
    go_wp2_with (go_at_call 51; refine (cS.out _).mono ?_; rintro e w' ⟨rfl, rfl⟩)
    go_loopw [5, 6, 7, 8, 18, 21] (fun lo _ _ _ i _ wr => ∃ (k m : Nat), k ≤ pw N.n ∧ i = .int .i64 k ∧ lo = .int .i64 m ∧ m ≤ N.n ∧ Below w1.heap.size w1 wr) (fun _ _ _ _ i _ _ => pw N.n - (intOf i).toNat)
    case atStart => exact ⟨0, 0, Nat.zero_le _, rfl, rfl, Nat.zero_le _, Below.refl _ _⟩
    case round =>
      obtain ⟨k, m, hk, rfl, rfl, hm, hW⟩ := hrel
      have hWs := hW.size
      by_cases hlt : k < pw N.n
      · have cO := Lib.hid (orbit_any b cap k N hn.2 hlt wr (Hat.out.below hW hb2) (Nat.lt_of_lt_of_le hb2 hWs))
        go_wp2_with fail
        refine cO.out.mono ?_
        rintro e w5 ⟨hW5, p, i, a, hO, rfl, hI⟩
        have hil := flow_tail Hc.out hlt hO
        clear hO hI
        have hB5 := hW.trans (hW5.mono hWs)
        by_cases hmx : (m : Int) ≤ (i : Int)
        · go_wp2_with fail
          go_roundw
          case rel => exact ⟨k + 1, i, by omega, by go_num, by first | rfl | (simp [hmx]; done) | (simp [Int.max_def, hmx]; done) | (congr 1; omega), hil, hB5⟩
          case measure => simp [intOf] <;> omega
        · go_wp2_with fail
          go_roundw
          case rel => exact ⟨k + 1, m, by omega, by go_num, by first | rfl | (simp [hmx]; done) | (simp [Int.max_def, hmx]; done) | (congr 1; omega), hm, hB5⟩
          case measure => simp [intOf] <;> omega
      · obtain rfl : k = pw N.n := by omega
        go_wp2_with fail
        go_ret
        exact ⟨hW1.trans (hW.mono hW1s), m, hm, rfl⟩
theorem formatState_impl (s n : Nat) (h1 : 1 ≤ n) (hn : n ≤ 5) (hs : s < pw n) (w : World) :
    Calls Tryz.prog 29 #[.int .i64 s, .int .i64 n] w fun e w' => Below w.heap.size w w' ∧ e = .returned (.string (termT n (pointP s))) := by
  have hpw := pw_le hn
  have h2 := pow2_le n hn
  have hpc := pw_cast n
  have c := Lib.hid (formatState_any s n hn (by omega) w)
  have q1 : ¬ ((n : Int) < 1) := by omega
  have q2 : ¬ ((5 : Int) < (n : Int)) := by omega
  have q3 : ¬ ((s : Int) < 0) := by omega
  have q4 : ¬ ((2 : Int) ^ n ≤ (s : Int)) := by rw [hpc]; omega
  clear hpc
  go_enter Tryz.func29, Tryz.ntmps29
  go_wp2_with fail
  refine c.out.mono ?_
  rintro e w1 ⟨hW1, rfl⟩
  go_wp2_with fail
  go_ret
  exact ⟨hW1, rfl⟩
end Go.Proofs.YtkfagolmpbbckaaGreatDoor
