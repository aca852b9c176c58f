/- The reference's influences in any number of steps. -/
import Derived.Test.YtkkacglcjfgbiaaDoorSpecC
import Derived.Test.YtkkacglcjfgbiaaDoorPu
import Derived.Test.YtkkacglcjfgbiaaDoorSl
import Derived.Deep.LoopGhost
namespace Go.Proofs.YtkkacglcjfgbiaaDoor
open Go Go.RowKit Go.Sw
set_option maxRecDepth 100000
set_option linter.unusedVariables false

theorem l7Acts_any (b cap i : Nat) (N : Net) (hn : N.n ≤ 5) (hi : i < N.n) (w : World) (hat : StrsAt w b (netTexts N)) :
    Calls Tryd.prog 50 #[.slice (some ⟨b, 0, none⟩) N.n cap, .int .i64 i] w fun e w' => e = .returned (.int .i64 ((reachN N i : Nat) : Int)) ∧ w = w' := by
  have hp := pw_le hn
  have cS := Lib.hid (fun k t hk ht => l7Sign_any b cap N hn k t hk ht w hat)
  clear hat
  go_enter Tryd.func50, Tryd.ntmps50
  go_wp2_with fail
  go_loopg [5, 6, 7, 8] 100 (fun g s5 s6 s7 s8 wr => ∃ (s : Nat) (o : Int), s5 = .int .i64 s ∧ s6 = .int .i64 o ∧ (within N i s ∧ ((o = s ∧ s = reachN N i) ∨ (o ≠ s ∧ 2 * (32 - s) + 1 ≤ g))) ∧ w = wr)
  case atStart => exact ⟨0, -1, rfl, rfl, ⟨⟨by omega, fun t h => by simp at h⟩, .inr ⟨by omega, by omega⟩⟩, rfl⟩
  case round =>
    obtain ⟨s, o, rfl, rfl, hst, rfl⟩ := hrel
    have hs := hst.1.1
    have Hst := Lib.hid hst.1
    rcases hst.2 with ⟨rfl, hres⟩ | ⟨hne0, hg⟩
    · have heq : ((s : Int) != (s : Int)) = false := by simp
      have Hres := Lib.hid hres
      clear hst hres
      go_wp2_with fail
      go_ret
      exact ⟨ret_int (congrArg Nat.cast Hres.out), rfl⟩
    · have hne : ((s : Int) != o) = true := by
        simp only [bne_iff_ne, ne_eq]; exact fun e => hne0 e.symm
      clear hst hne0
      go_wp2_with fail
      go_loop [5, 7, 8] (fun x5 x7 x8 => ∃ k m : Nat, k ≤ N.n ∧ x7 = .int .i64 k ∧ x5 = .int .i64 m ∧ (within N i m ∧ subS s m ∧ grownTo N s m k ∧ (i < k → subS (actsN N i) m))) (fun _ x7 _ => N.n - (intOf x7).toNat)
      case atStart => exact ⟨0, s, Nat.zero_le _, rfl, rfl, Hst.out, fun _ h => h, fun k' h => absurd h (Nat.not_lt_zero _), fun h => absurd h (Nat.not_lt_zero _)⟩
      case round =>
        obtain ⟨k, m, hk, rfl, rfl, hin⟩ := hrel
        have Hin := Lib.hid hin
        clear hin
        by_cases hlt : k < N.n
        · go_wp2_with fail
          go_loop [5, 8] (fun x5 x8 => ∃ t m' : Nat, t ≤ N.n ∧ x8 = .int .i64 t ∧ x5 = .int .i64 m' ∧ (within N i m' ∧ subS m m' ∧ ((k = i ∨ s.testBit k = true) → ∀ t', t' < t → infB N k t' = true → m'.testBit t' = true))) (fun _ x8 => N.n - (intOf x8).toNat)
          case atStart => exact ⟨0, m, Nat.zero_le _, rfl, rfl, Hin.out.1, fun _ h => h, fun _ t' h => absurd h (Nat.not_lt_zero _)⟩
          case round =>
            obtain ⟨t, m', ht, rfl, rfl, hit⟩ := hrel
            have hm' := hit.1.1
            have Hit := Lib.hid hit
            clear hit
            by_cases hlt2 : t < N.n
            · have hpt := pw_le (show t ≤ 5 by omega)
              have h2t := pow2_le t (by omega)
              have hor := or_pow m' t (by omega) (by omega)
              have cB := Lib.hid (l1Bit_any m' k (by omega) (by omega) w)
              have hx := cS.out k t hlt hlt2
              have hsg := sg_pos (sgU N.n (N.f t) k) (sgD N.n (N.f t) k)
              obtain ⟨v, hv⟩ : ∃ v, sg (sgU N.n (N.f t) k) (sgD N.n (N.f t) k) = v := ⟨_, rfl⟩
              rw [hv] at hx hsg
              have hinf : infB N k t = (sgU N.n (N.f t) k || sgD N.n (N.f t) k) := rfl
              rw [← hinf] at hsg
              have HX := Lib.hid hx
              clear hx hv hinf
              -- the test fails, or it holds and the switch is put in
              have hno : ¬ ((k = i ∨ m'.testBit k = true) ∧ infB N k t = true) → (within N i m' ∧ subS m m' ∧ ((k = i ∨ s.testBit k = true) → ∀ t', t' < t + 1 → infB N k t' = true → m'.testBit t' = true)) := fun h =>
                ⟨Hit.out.1, Hit.out.2.1, fun hki t' ht' hb => by
                  by_cases e : t' = t
                  · subst e
                    exact absurd ⟨hki.imp id (fun hs => (Hin.out.2.1.trans Hit.out.2.1) k hs), hb⟩ h
                  · exact Hit.out.2.2 hki t' (by omega) hb⟩
              have hyes : (k = i ∨ m'.testBit k = true) → infB N k t = true → (within N i (m' ||| 2 ^ t) ∧ subS m (m' ||| 2 ^ t) ∧ ((k = i ∨ s.testBit k = true) → ∀ t', t' < t + 1 → infB N k t' = true → (m' ||| 2 ^ t).testBit t' = true)) := fun hki hb =>
                ⟨within_one Hit.out.1 hlt2 hki hb, Hit.out.2.1.trans (subS_or _ _), fun hki' t' ht' hb' => by
                  rw [Nat.testBit_or, Nat.testBit_two_pow]
                  by_cases e : t' = t
                  · subst e; simp
                  · rw [Hit.out.2.2 hki' t' (by omega) hb']; rfl⟩
              have Hno := Lib.hid hno
              have Hyes := Lib.hid hyes
              clear hno hyes
              by_cases hki : k = i
              · have hkb : ((k : Int) == (i : Int)) = true := by rw [hki]; simp
                have Hki := Lib.hid hki
                clear hki
                cases hi2 : infB N k t <;> rw [hi2] at hsg
                · have Hi2 := Lib.hid hi2
                  clear hi2
                  go_wp2_with (first | (go_at_call 59; refine cB.out.mono ?_; rintro e w' ⟨rfl, rfl⟩) | (go_at_call 70; refine HX.out.mono ?_; rintro e w' ⟨rfl, rfl⟩))
                  go_round
                  case rel => exact ⟨t + 1, m', by omega, by go_num, rfl, Hno.out (fun h => by rw [Hi2.out] at h; exact absurd h.2 (by decide))⟩
                  case measure => simp [intOf] <;> omega
                · have Hi2 := Lib.hid hi2
                  clear hi2
                  go_wp2_with (first | (go_at_call 59; refine cB.out.mono ?_; rintro e w' ⟨rfl, rfl⟩) | (go_at_call 70; refine HX.out.mono ?_; rintro e w' ⟨rfl, rfl⟩))
                  go_round
                  case rel => exact ⟨t + 1, m' ||| 2 ^ t, by omega, by go_num, rfl, Hyes.out (.inl Hki.out) Hi2.out⟩
                  case measure => simp [intOf] <;> omega
              · have hkb : ((k : Int) == (i : Int)) = false := by
                  simp only [beq_eq_false_iff_ne, ne_eq, Int.natCast_inj]; exact hki
                have Hki := Lib.hid hki
                clear hki
                cases hmb : m'.testBit k
                · have Hmb := Lib.hid hmb
                  go_wp2_with (first | (go_at_call 59; refine cB.out.mono ?_; rintro e w' ⟨rfl, rfl⟩) | (go_at_call 70; refine HX.out.mono ?_; rintro e w' ⟨rfl, rfl⟩))
                  go_round
                  case rel => exact ⟨t + 1, m', by omega, by go_num, rfl, Hno.out (fun h => by
                      rcases h.1 with h1 | h1
                      · exact Hki.out h1
                      · rw [Hmb.out] at h1; cases h1)⟩
                  case measure => simp [intOf] <;> omega
                · have Hmb := Lib.hid hmb
                  cases hi2 : infB N k t <;> rw [hi2] at hsg
                  · have Hi2 := Lib.hid hi2
                    clear hi2
                    go_wp2_with (first | (go_at_call 59; refine cB.out.mono ?_; rintro e w' ⟨rfl, rfl⟩) | (go_at_call 70; refine HX.out.mono ?_; rintro e w' ⟨rfl, rfl⟩))
                    go_round
                    case rel => exact ⟨t + 1, m', by omega, by go_num, rfl, Hno.out (fun h => by rw [Hi2.out] at h; exact absurd h.2 (by decide))⟩
                    case measure => simp [intOf] <;> omega
                  · have Hi2 := Lib.hid hi2
                    clear hi2
                    go_wp2_with (first | (go_at_call 59; refine cB.out.mono ?_; rintro e w' ⟨rfl, rfl⟩) | (go_at_call 70; refine HX.out.mono ?_; rintro e w' ⟨rfl, rfl⟩))
                    go_round
                    case rel => exact ⟨t + 1, m' ||| 2 ^ t, by omega, by go_num, rfl, Hyes.out (.inr Hmb.out) Hi2.out⟩
                    case measure => simp [intOf] <;> omega
            · obtain rfl : t = N.n := by omega
              have hnx : within N i m' ∧ subS s m' ∧ grownTo N s m' (k + 1) ∧ (i < k + 1 → subS (actsN N i) m') :=
                ⟨Hit.out.1, Hin.out.2.1.trans Hit.out.2.1, fun k' hk' hb t ht hx => by
                  by_cases e : k' = k
                  · subst e; exact Hit.out.2.2 (.inr hb) t ht hx
                  · exact Hit.out.2.1 t (Hin.out.2.2.1 k' (by omega) hb t ht hx), fun hik j hj => by
                  by_cases e : i = k
                  · subst e
                    rw [actsN_bit, Bool.and_eq_true, decide_eq_true_eq] at hj
                    exact Hit.out.2.2 (.inl rfl) j hj.1 hj.2
                  · exact Hit.out.2.1 j (Hin.out.2.2.2 (by omega) j hj)⟩
              have Hnx := Lib.hid hnx
              clear hnx
              go_wp2_with fail
              go_round
              case rel => exact ⟨k + 1, m', by omega, by go_num, rfl, Hnx.out⟩
              case measure => simp [intOf] <;> omega
        · obtain rfl : k = N.n := by omega
          have hle := subS_le Hin.out.2.1
          have hm := Hin.out.1.1
          go_wp2_with fail
          by_cases he : m = s
          · subst he
            go_roundg 0
            case measure => omega
            case rel => exact ⟨m, m, rfl, rfl, ⟨Hin.out.1, .inl ⟨rfl, reach_done Hin.out.1 (Hin.out.2.2.2 hi) Hin.out.2.2.1⟩⟩, rfl⟩
          · go_roundg (2 * (32 - m) + 1)
            case measure => omega
            case rel => exact ⟨m, s, rfl, rfl, ⟨Hin.out.1, .inr ⟨by omega, Nat.le_refl _⟩⟩, rfl⟩

theorem actsOn_spec (t : ByteArray) (x : Int) (w : World) (hs : t.size ≤ 1048576) :
    Calls Tryd.prog 21 #[.string t, .int .i64 x] w fun e w' => Below w.heap.size w w' ∧ e = .returned (.int .i64 (actsI t x)) := by
  have cO := Lib.hid (l3Open_any t w hs)
  cases h : swB t x
  · have hr : actsI t x = -1 := by rw [actsI, h]; rfl
    have Hr := Lib.hid hr
    have H := Lib.hid h
    clear hr h
    go_enter Tryd.func21, Tryd.ntmps21
    go_wp2_with fail
    refine cO.out.mono ?_
    rintro e w1 ⟨hW1, ⟨hbad, v, rfl⟩ | ⟨hok, b, cap, rfl, hb1, hb2, hat⟩⟩
    · clear hbad
      go_wp2_with fail
      go_ret
      exact ⟨hW1, ret_int Hr.out.symm⟩
    · have hn := netOf_ok hok
      have a1 : inI x 0 (((netOf t).n : Int) - 1) = false := by
        have := swB_no H.out hok
        simp only [inI, Bool.and_eq_false_iff, decide_eq_false_iff_not]; omega
      clear hat hok
      go_wp2_with (go_at_call 40; refine (l1In_b _ _ _ _ a1 _).mono ?_; rintro e w' ⟨rfl, rfl⟩)
      go_ret
      exact ⟨hW1, ret_int Hr.out.symm⟩
  · obtain ⟨hok0, hi0, hi1⟩ := swB_yes h
    have hn := netOf_ok hok0
    have a1 : inI x 0 (((netOf t).n : Int) - 1) = true := by simp [inI]; omega
    obtain ⟨k, rfl⟩ := Int.eq_ofNat_of_zero_le hi0
    have hr : actsI t k = (reachN (netOf t) k : Nat) := by rw [actsI, h]; rfl
    have Hr := Lib.hid hr
    have Hok := Lib.hid hok0
    clear hr h hok0
    go_enter Tryd.func21, Tryd.ntmps21
    go_wp2_with fail
    refine cO.out.mono ?_
    rintro e w1 ⟨hW1, ⟨hbad, v, rfl⟩ | ⟨hok, b, cap, rfl, hb1, hb2, hat⟩⟩
    · rw [Hok.out] at hbad; cases hbad
    · have c2 := Lib.hid (l7Acts_any b cap k (netOf t) hn.2 (by omega) w1 hat)
      clear hat hok
      go_wp2_with fail
      refine (l1In_b _ _ _ _ a1 _).mono ?_; rintro e w' ⟨rfl, rfl⟩
      go_wp2_with fail
      refine c2.out.mono ?_
      rintro e w' ⟨rfl, rfl⟩
      go_wp2_with fail
      go_ret
      exact ⟨hW1, ret_int Hr.out.symm⟩
end Go.Proofs.YtkkacglcjfgbiaaDoor
