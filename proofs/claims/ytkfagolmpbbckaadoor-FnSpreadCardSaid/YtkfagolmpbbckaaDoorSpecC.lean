/- The reference's influences and monotone networks. -/
import Derived.Test.YtkfagolmpbbckaaDoorSpecB
namespace Go.Proofs.YtkfagolmpbbckaaDoor
open Go Go.RowKit Go.Sw
set_option maxRecDepth 100000
set_option linter.unusedVariables false

theorem l1Input_any (n : Nat) (f : Nat → Bool) (i : Nat) (h1 : 1 ≤ n) (hn : n ≤ 5) (hi : i < n) (w : World) :
    Calls Tryd.prog 140 #[.string (tabText n f), .int .i64 i] w fun e w' => e = .returned (.bool true) ∧ w = w' := by
  have hp := pw_le hn
  have hsz : (tabText n f).size = pw n := tabText_size n f
  have hln := lnI_pw h1 hn
  have c1 := tableValid_any (tabText n f) w (by omega)
  rw [tabOk_text h1 hn] at c1
  have C1 := Lib.hid c1
  have C2 := Lib.hid (l1Inputs_any (pw n) w (by omega))
  have a1 : inI i 0 ((n : Int) - 1) = true := by simp [inI]; omega
  clear c1
  go_enter Tryd.func140, Tryd.ntmps140
  go_wp2_with (first | (go_at_call 123; refine (C1.out).mono ?_; rintro e w' ⟨rfl, rfl⟩) | (go_at_call 124; refine (C2.out).mono ?_; rintro e w' ⟨rfl, rfl⟩) | (go_at_call 90; refine (l1In_b _ _ _ _ a1 _).mono ?_; rintro e w' ⟨rfl, rfl⟩))
  go_ret
  exact ⟨rfl, rfl⟩

theorem signOf_any (n : Nat) (f : Nat → Bool) (i : Nat) (h1 : 1 ≤ n) (hn : n ≤ 5) (hi : i < n) (w : World) :
    Calls Tryd.prog 91 #[.string (tabText n f), .int .i64 i] w fun e w' => e = .returned (.string (sgT (sgU n f i) (sgD n f i))) ∧ w = w' := by
  have c := l1Sign_any n f i hn hi w
  cases h3 : sgU n f i <;> cases h4 : sgD n f i <;> rw [h3, h4] at c
  all_goals
    simp only [sg, Bool.toNat_true, Bool.toNat_false, Int.natCast_zero, Int.natCast_one, Int.mul_zero, Int.mul_one, Int.add_zero, Int.zero_add, Int.reduceAdd] at c
    have C := Lib.hid c
    clear c
    go_enter Tryd.func91, Tryd.ntmps91
    go_wp2_with (first | (go_at_call 140; refine (l1Input_any n f i h1 hn hi _).mono ?_; rintro e w' ⟨rfl, rfl⟩) | (go_at_call 141; refine (C.out).mono ?_; rintro e w' ⟨rfl, rfl⟩))
    go_ret
    exact ⟨rfl, rfl⟩

theorem l7Sign_any (b cap : Nat) (N : Net) (hn : N.n ≤ 5) (i j : Nat) (hi : i < N.n) (hj : j < N.n) (w : World) (hat : StrsAt w b (netTexts N)) :
    Calls Tryd.prog 92 #[.slice (some ⟨b, 0, none⟩) N.n cap, .int .i64 i, .int .i64 j] w fun e w' => e = .returned (.int .i64 (sg (sgU N.n (N.f j) i) (sgD N.n (N.f j) i))) ∧ w = w' := by
  have hcell : w.cell? ⟨b, j, none⟩ = some (.string (tabText N.n (N.f j))) := by
    rw [← netTexts_get N j hj]; exact hat j (by rw [netTexts_length]; exact hj)
  have C := Lib.hid (l1Sign_any N.n (N.f j) i hn hi w)
  clear hat
  go_enter Tryd.func92, Tryd.ntmps92
  go_wp2_with (go_at_call 141; refine (C.out).mono ?_; rintro e w' ⟨rfl, rfl⟩)
  go_ret
  exact ⟨rfl, rfl⟩

theorem influence_spec (s : ByteArray) (x y : Int) (w : World) (hs : s.size ≤ 1048576) :
    Calls Tryd.prog 40 #[.string s, .int .i64 x, .int .i64 y] w fun e w' => Below w.heap.size w w' ∧ e = .returned (.string (infT s x y)) := by
  cases h1 : swB s x
  · have hr : infT s x y = ByteArray.empty := by rw [infT, h1]; rfl
    have Hr := Lib.hid hr
    have H1 := Lib.hid h1
    clear hr h1
    go_enter Tryd.func40, Tryd.ntmps40
    go_wp2_with fail
    refine (l3Open_any s w hs).mono ?_
    rintro e w1 ⟨hW1, ⟨hbad, v, rfl⟩ | ⟨hok, b, cap, rfl, hb1, hb2, hat⟩⟩
    · clear hbad
      go_wp2_with fail
      go_ret
      exact ⟨hW1, by rw [Hr.out]; rfl⟩
    · have hn := netOf_ok hok
      have a1 : inI x 0 (((netOf s).n : Int) - 1) = false := by
        have := swB_no H1.out hok
        simp only [inI, Bool.and_eq_false_iff, decide_eq_false_iff_not]; omega
      clear hat hok
      go_wp2_with (go_at_call 90; refine (l1In_b _ _ _ _ a1 _).mono ?_; rintro e w' ⟨rfl, rfl⟩)
      go_ret
      exact ⟨hW1, by rw [Hr.out]; rfl⟩
  · obtain ⟨hok0, hx0, hx1⟩ := swB_yes h1
    have hn := netOf_ok hok0
    have a1 : inI x 0 (((netOf s).n : Int) - 1) = true := by simp [inI]; omega
    obtain ⟨i, rfl⟩ := Int.eq_ofNat_of_zero_le hx0
    cases h2 : swB s y
    · have hr : infT s i y = ByteArray.empty := by rw [infT, h2, Bool.and_false]; rfl
      have a2 : inI y 0 (((netOf s).n : Int) - 1) = false := by
        have := swB_no h2 hok0
        simp only [inI, Bool.and_eq_false_iff, decide_eq_false_iff_not]; omega
      have Hr := Lib.hid hr
      have Hok := Lib.hid hok0
      clear hr h1 h2 hok0
      go_enter Tryd.func40, Tryd.ntmps40
      go_wp2_with fail
      refine (l3Open_any s w hs).mono ?_
      rintro e w1 ⟨hW1, ⟨hbad, v, rfl⟩ | ⟨hok, b, cap, rfl, hb1, hb2, hat⟩⟩
      · rw [Hok.out] at hbad; cases hbad
      · clear hat hok
        go_wp2_with fail
        refine (l1In_b _ _ _ _ a1 _).mono ?_; rintro e w' ⟨rfl, rfl⟩
        go_wp2_with fail
        refine (l1In_b _ _ _ _ a2 _).mono ?_; rintro e w' ⟨rfl, rfl⟩
        go_wp2_with fail
        go_ret
        exact ⟨hW1, by rw [Hr.out]; rfl⟩
    · obtain ⟨_, hy0, hy1⟩ := swB_yes h2
      have a2 : inI y 0 (((netOf s).n : Int) - 1) = true := by simp [inI]; omega
      obtain ⟨j, rfl⟩ := Int.eq_ofNat_of_zero_le hy0
      have hr : infT s i j = sgT (sgU (netOf s).n ((netOf s).f j) i) (sgD (netOf s).n ((netOf s).f j) i) := by rw [infT, h1, h2]; rfl
      have Hr := Lib.hid hr
      have Hok := Lib.hid hok0
      clear hr h1 h2 hok0
      go_enter Tryd.func40, Tryd.ntmps40
      go_wp2_with fail
      refine (l3Open_any s w hs).mono ?_
      rintro e w1 ⟨hW1, ⟨hbad, v, rfl⟩ | ⟨hok, b, cap, rfl, hb1, hb2, hat⟩⟩
      · rw [Hok.out] at hbad; cases hbad
      · have hcell : w1.cell? ⟨b, j, none⟩ = some (.string (tabText (netOf s).n ((netOf s).f j))) := by
          rw [← netTexts_get (netOf s) j (by omega)]; exact hat j (by rw [netTexts_length]; omega)
        clear hat hok
        go_wp2_with fail
        refine (l1In_b _ _ _ _ a1 _).mono ?_; rintro e w' ⟨rfl, rfl⟩
        go_wp2_with fail
        refine (l1In_b _ _ _ _ a2 _).mono ?_; rintro e w' ⟨rfl, rfl⟩
        go_wp2_with fail
        refine (signOf_any (netOf s).n ((netOf s).f j) i hn.1 hn.2 (by omega) _).mono ?_; rintro e w' ⟨rfl, rfl⟩
        go_wp2_with fail
        go_ret
        exact ⟨hW1, by rw [Hr.out]; rfl⟩

theorem l8Monotone_any (b cap : Nat) (N : Net) (hn : N.n ≤ 5) (w : World) (hat : StrsAt w b (netTexts N)) :
    Calls Tryd.prog 125 #[.slice (some ⟨b, 0, none⟩) N.n cap] w fun e w' => e = .returned (.bool (monoN N)) ∧ w = w' := by
  have Hat := Lib.hid hat
  clear hat
  have hsg := sg_gt
  go_enter Tryd.func125, Tryd.ntmps125
  go_wp2_with fail
  go_loop [3] (fun j => ∃ k : Nat, k ≤ N.n ∧ j = .int .i64 k ∧ ∀ j' i', j' < k → i' < N.n → sgD N.n (N.f i') j' = false) (fun j => N.n - (intOf j).toNat)
  case atStart => exact ⟨0, Nat.zero_le _, rfl, fun j' i' h => absurd h (Nat.not_lt_zero _)⟩
  case round =>
    obtain ⟨j, hj, rfl, hall⟩ := hrel
    have Hall := Lib.hid hall
    clear hall
    by_cases hlt : j < N.n
    · go_wp2_with fail
      go_loop [4] (fun i => ∃ k : Nat, k ≤ N.n ∧ i = .int .i64 k ∧ ∀ i', i' < k → sgD N.n (N.f i') j = false) (fun i => N.n - (intOf i).toNat)
      case atStart => exact ⟨0, Nat.zero_le _, rfl, fun i' h => absurd h (Nat.not_lt_zero _)⟩
      case round =>
        obtain ⟨i, hi, rfl, hin⟩ := hrel
        have Hin := Lib.hid hin
        clear hin
        by_cases hlt2 : i < N.n
        · have C := Lib.hid (l7Sign_any b cap N hn j i hlt hlt2 w Hat.out)
          cases hd : sgD N.n (N.f i) j
          · have Hd := Lib.hid hd
            go_wp2_with (go_at_call 92; refine (C.out).mono ?_; rintro e w' ⟨rfl, rfl⟩)
            go_round
            case rel => exact ⟨i + 1, by omega, by go_num, fun i' h => by
                  by_cases e : i' = i
                  · subst e; exact Hd.out
                  · exact Hin.out i' (by omega)⟩
            case measure => simp [intOf] <;> omega
          · have hbad := monoN_bad hlt hlt2 hd
            have Hbad := Lib.hid hbad
            clear hbad
            go_wp2_with (go_at_call 92; refine (C.out).mono ?_; rintro e w' ⟨rfl, rfl⟩)
            go_ret
            exact ⟨by rw [Hbad.out]; rfl, rfl⟩
        · go_wp2_with fail
          go_round
          case rel => exact ⟨j + 1, by omega, by go_num, fun j' i' h h' => by
                by_cases e : j' = j
                · subst e; exact Hin.out i' (by omega)
                · exact Hall.out j' i' (by omega) h'⟩
          case measure => simp [intOf] <;> omega
    · have hok : monoN N = true := (monoN_iff N).2 fun j' i' h h' => Hall.out j' i' (by omega) h'
      have Hok := Lib.hid hok
      clear hok
      go_wp2_with fail
      go_ret
      exact ⟨by rw [Hok.out]; rfl, rfl⟩

theorem isMonotone_spec (s : ByteArray) (w : World) (hs : s.size ≤ 1048576) :
    Calls Tryd.prog 75 #[.string s] w fun e w' => Below w.heap.size w w' ∧ e = .returned (.bool (monoB s)) := by
  go_enter Tryd.func75, Tryd.ntmps75
  go_wp2_with fail
  refine (l3Open_any s w hs).mono ?_
  rintro e w1 ⟨hW1, ⟨hbad, v, rfl⟩ | ⟨hok, b, cap, rfl, hb1, hb2, hat⟩⟩
  · have hr : monoB s = false := by rw [monoB, hbad]; rfl
    have Hr := Lib.hid hr
    clear hr hbad
    go_wp2_with fail
    go_ret
    exact ⟨hW1, by rw [Hr.out]; rfl⟩
  · have hn := netOf_ok hok
    have hr : monoB s = monoN (netOf s) := by rw [monoB, hok]; rfl
    have Hr := Lib.hid hr
    have C := Lib.hid (l8Monotone_any b cap (netOf s) hn.2 w1 hat)
    clear hat hok hr
    go_wp2_with (go_at_call 125; refine (C.out).mono ?_; rintro e w' ⟨rfl, rfl⟩)
    go_ret
    exact ⟨hW1, by rw [Hr.out]; rfl⟩

end Go.Proofs.YtkfagolmpbbckaaDoor
