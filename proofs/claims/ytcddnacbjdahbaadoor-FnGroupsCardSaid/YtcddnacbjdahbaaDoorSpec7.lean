/- The reference's influences in any number of steps. -/
import Derived.Test.YtcddnacbjdahbaaDoorSpecC
import Derived.Test.YtcddnacbjdahbaaDoorPu
import Derived.Test.YtcddnacbjdahbaaDoorSl
import Derived.Deep.LoopGhost
namespace Go.Proofs.YtcddnacbjdahbaaDoor
open Go Go.RowKit Go.Sw
set_option maxRecDepth 100000
set_option linter.unusedVariables false

theorem l7Acts_any (b cap i : Nat) (N : Net) (hn : N.n ≤ 5) (hi : i < N.n) (w : World) (hat : StrsAt w b (netTexts N)) :
    Calls Tryd.prog 108 #[.slice (some ⟨b, 0, none⟩) N.n cap, .int .i64 i] w fun e w' => e = .returned (.int .i64 ((reachN N i : Nat) : Int)) ∧ w = w' := by
  have hp := pw_le hn
  have cS := Lib.hid (fun k t hk ht => l7Sign_any b cap N hn k t hk ht w hat)
  clear hat
  go_enter Tryd.func108, Tryd.ntmps108
  go_wp2_with fail
  go_loopg [5, 6, 7, 8] 100 (fun g s5 s6 s7 s8 wr => ∃ (s : Nat) (o : Int), s5 = .int .i64 s ∧ s6 = .int .i64 o ∧ (within N i s ∧ ((o = s ∧ s = reachN N i) ∨ (o ≠ s ∧ 2 * (32 - s) + 1 ≤ g))) ∧ w = wr)
  case atStart => exact ⟨0, -1, rfl, rfl, ⟨⟨by omega, fun t h => by simp at h⟩, .inr ⟨by omega, by omega⟩⟩, rfl⟩
  case round =>
    obtain ⟨s, o, rfl, rfl, hst, rfl⟩ := hrel
    have hs := hst.1.1
    have Hst := Lib.hid hst.1
    rcases hst.2 with ⟨rfl, hres⟩ | ⟨hne0, hg⟩
    · have heq : ((s : Int) != (s : Int)) = false := by simp
      have Hres := Lib.hid hres
      clear hst hres
      go_wp2_with fail
      go_ret
      exact ⟨ret_int (congrArg Nat.cast Hres.out), rfl⟩
    · have hne : ((s : Int) != o) = true := by
        simp only [bne_iff_ne, ne_eq]; exact fun e => hne0 e.symm
      clear hst hne0
      go_wp2_with fail
      go_loop [5, 7, 8] (fun x5 x7 x8 => ∃ k m : Nat, k ≤ N.n ∧ x7 = .int .i64 k ∧ x5 = .int .i64 m ∧ (within N i m ∧ subS s m ∧ grownTo N s m k ∧ (i < k → subS (actsN N i) m))) (fun _ x7 _ => N.n - (intOf x7).toNat)
      case atStart => exact ⟨0, s, Nat.zero_le _, rfl, rfl, Hst.out, fun _ h => h, fun k' h => absurd h (Nat.not_lt_zero _), fun h => absurd h (Nat.not_lt_zero _)⟩
      case round =>
        obtain ⟨k, m, hk, rfl, rfl, hin⟩ := hrel
        have Hin := Lib.hid hin
        clear hin
        by_cases hlt : k < N.n
        · go_wp2_with fail
          go_loop [5, 8] (fun x5 x8 => ∃ t m' : Nat, t ≤ N.n ∧ x8 = .int .i64 t ∧ x5 = .int .i64 m' ∧ (within N i m' ∧ subS m m' ∧ ((k = i ∨ s.testBit k = true) → ∀ t', t' < t → infB N k t' = true → m'.testBit t' = true))) (fun _ x8 => N.n - (intOf x8).toNat)
          case atStart => exact ⟨0, m, Nat.zero_le _, rfl, rfl, Hin.out.1, fun _ h => h, fun _ t' h => absurd h (Nat.not_lt_zero _)⟩
          case round =>
            obtain ⟨t, m', ht, rfl, rfl, hit⟩ := hrel
            have hm' := hit.1.1
            have Hit := Lib.hid hit
            clear hit
            by_cases hlt2 : t < N.n
            · have hpt := pw_le (show t ≤ 5 by omega)
              have h2t := pow2_le t (by omega)
              have hor := or_pow m' t (by omega) (by omega)
              have cB := Lib.hid (l1Bit_any m' k (by omega) (by omega) w)
              have hx := cS.out k t hlt hlt2
              have hsg := sg_pos (sgU N.n (N.f t) k) (sgD N.n (N.f t) k)
              obtain ⟨v, hv⟩ : ∃ v, sg (sgU N.n (N.f t) k) (sgD N.n (N.f t) k) = v := ⟨_, rfl⟩
              rw [hv] at hx hsg
              have hinf : infB N k t = (sgU N.n (N.f t) k || sgD N.n (N.f t) k) := rfl
              rw [← hinf] at hsg
              have HX := Lib.hid hx
              clear hx hv hinf
              -- the test fails, or it holds and the switch is put in
              have hno : ¬ ((k = i ∨ m'.testBit k = true) ∧ infB N k t = true) → (within N i m' ∧ subS m m' ∧ ((k = i ∨ s.testBit k = true) → ∀ t', t' < t + 1 → infB N k t' = true → m'.testBit t' = true)) := fun h =>
                ⟨Hit.out.1, Hit.out.2.1, fun hki t' ht' hb => by
                  by_cases e : t' = t
                  · subst e
                    exact absurd ⟨hki.imp id (fun hs => (Hin.out.2.1.trans Hit.out.2.1) k hs), hb⟩ h
                  · exact Hit.out.2.2 hki t' (by omega) hb⟩
              have hyes : (k = i ∨ m'.testBit k = true) → infB N k t = true → (within N i (m' ||| 2 ^ t) ∧ subS m (m' ||| 2 ^ t) ∧ ((k = i ∨ s.testBit k = true) → ∀ t', t' < t + 1 → infB N k t' = true → (m' ||| 2 ^ t).testBit t' = true)) := fun hki hb =>
                ⟨within_one Hit.out.1 hlt2 hki hb, Hit.out.2.1.trans (subS_or _ _), fun hki' t' ht' hb' => by
                  rw [Nat.testBit_or, Nat.testBit_two_pow]
                  by_cases e : t' = t
                  · subst e; simp
                  · rw [Hit.out.2.2 hki' t' (by omega) hb']; rfl⟩
              have Hno := Lib.hid hno
              have Hyes := Lib.hid hyes
              clear hno hyes
              by_cases hki : k = i
              · have hkb : ((k : Int) == (i : Int)) = true := by rw [hki]; simp
                have Hki := Lib.hid hki
                clear hki
                cases hi2 : infB N k t <;> rw [hi2] at hsg
                · have Hi2 := Lib.hid hi2
                  clear hi2
                  go_wp2_with (first | (go_at_call 109; refine cB.out.mono ?_; rintro e w' ⟨rfl, rfl⟩) | (go_at_call 160; refine HX.out.mono ?_; rintro e w' ⟨rfl, rfl⟩))
                  go_round
                  case rel => exact ⟨t + 1, m', by omega, by go_num, rfl, Hno.out (fun h => by rw [Hi2.out] at h; exact absurd h.2 (by decide))⟩
                  case measure => simp [intOf] <;> omega
                · have Hi2 := Lib.hid hi2
                  clear hi2
                  go_wp2_with (first | (go_at_call 109; refine cB.out.mono ?_; rintro e w' ⟨rfl, rfl⟩) | (go_at_call 160; refine HX.out.mono ?_; rintro e w' ⟨rfl, rfl⟩))
                  go_round
                  case rel => exact ⟨t + 1, m' ||| 2 ^ t, by omega, by go_num, rfl, Hyes.out (.inl Hki.out) Hi2.out⟩
                  case measure => simp [intOf] <;> omega
              · have hkb : ((k : Int) == (i : Int)) = false := by
                  simp only [beq_eq_false_iff_ne, ne_eq, Int.natCast_inj]; exact hki
                have Hki := Lib.hid hki
                clear hki
                cases hmb : m'.testBit k
                · have Hmb := Lib.hid hmb
                  go_wp2_with (first | (go_at_call 109; refine cB.out.mono ?_; rintro e w' ⟨rfl, rfl⟩) | (go_at_call 160; refine HX.out.mono ?_; rintro e w' ⟨rfl, rfl⟩))
                  go_round
                  case rel => exact ⟨t + 1, m', by omega, by go_num, rfl, Hno.out (fun h => by
                      rcases h.1 with h1 | h1
                      · exact Hki.out h1
                      · rw [Hmb.out] at h1; cases h1)⟩
                  case measure => simp [intOf] <;> omega
                · have Hmb := Lib.hid hmb
                  cases hi2 : infB N k t <;> rw [hi2] at hsg
                  · have Hi2 := Lib.hid hi2
                    clear hi2
                    go_wp2_with (first | (go_at_call 109; refine cB.out.mono ?_; rintro e w' ⟨rfl, rfl⟩) | (go_at_call 160; refine HX.out.mono ?_; rintro e w' ⟨rfl, rfl⟩))
                    go_round
                    case rel => exact ⟨t + 1, m', by omega, by go_num, rfl, Hno.out (fun h => by rw [Hi2.out] at h; exact absurd h.2 (by decide))⟩
                    case measure => simp [intOf] <;> omega
                  · have Hi2 := Lib.hid hi2
                    clear hi2
                    go_wp2_with (first | (go_at_call 109; refine cB.out.mono ?_; rintro e w' ⟨rfl, rfl⟩) | (go_at_call 160; refine HX.out.mono ?_; rintro e w' ⟨rfl, rfl⟩))
                    go_round
                    case rel => exact ⟨t + 1, m' ||| 2 ^ t, by omega, by go_num, rfl, Hyes.out (.inr Hmb.out) Hi2.out⟩
                    case measure => simp [intOf] <;> omega
            · obtain rfl : t = N.n := by omega
              have hnx : within N i m' ∧ subS s m' ∧ grownTo N s m' (k + 1) ∧ (i < k + 1 → subS (actsN N i) m') :=
                ⟨Hit.out.1, Hin.out.2.1.trans Hit.out.2.1, fun k' hk' hb t ht hx => by
                  by_cases e : k' = k
                  · subst e; exact Hit.out.2.2 (.inr hb) t ht hx
                  · exact Hit.out.2.1 t (Hin.out.2.2.1 k' (by omega) hb t ht hx), fun hik j hj => by
                  by_cases e : i = k
                  · subst e
                    rw [actsN_bit, Bool.and_eq_true, decide_eq_true_eq] at hj
                    exact Hit.out.2.2 (.inl rfl) j hj.1 hj.2
                  · exact Hit.out.2.1 j (Hin.out.2.2.2 (by omega) j hj)⟩
              have Hnx := Lib.hid hnx
              clear hnx
              go_wp2_with fail
              go_round
              case rel => exact ⟨k + 1, m', by omega, by go_num, rfl, Hnx.out⟩
              case measure => simp [intOf] <;> omega
        · obtain rfl : k = N.n := by omega
          have hle := subS_le Hin.out.2.1
          have hm := Hin.out.1.1
          go_wp2_with fail
          by_cases he : m = s
          · subst he
            go_roundg 0
            case measure => omega
            case rel => exact ⟨m, m, rfl, rfl, ⟨Hin.out.1, .inl ⟨rfl, reach_done Hin.out.1 (Hin.out.2.2.2 hi) Hin.out.2.2.1⟩⟩, rfl⟩
          · go_roundg (2 * (32 - m) + 1)
            case measure => omega
            case rel => exact ⟨m, s, rfl, rfl, ⟨Hin.out.1, .inr ⟨by omega, Nat.le_refl _⟩⟩, rfl⟩

theorem actsOn_spec (t : ByteArray) (x : Int) (w : World) (hs : t.size ≤ 1048576) :
    Calls Tryd.prog 37 #[.string t, .int .i64 x] w fun e w' => Below w.heap.size w w' ∧ e = .returned (.int .i64 (actsI t x)) := by
  have cO := Lib.hid (l3Open_any t w hs)
  cases h : swB t x
  · have hr : actsI t x = -1 := by rw [actsI, h]; rfl
    have Hr := Lib.hid hr
    have H := Lib.hid h
    clear hr h
    go_enter Tryd.func37, Tryd.ntmps37
    go_wp2_with fail
    refine cO.out.mono ?_
    rintro e w1 ⟨hW1, ⟨hbad, v, rfl⟩ | ⟨hok, b, cap, rfl, hb1, hb2, hat⟩⟩
    · clear hbad
      go_wp2_with fail
      go_ret
      exact ⟨hW1, ret_int Hr.out.symm⟩
    · have hn := netOf_ok hok
      have a1 : inI x 0 (((netOf t).n : Int) - 1) = false := by
        have := swB_no H.out hok
        simp only [inI, Bool.and_eq_false_iff, decide_eq_false_iff_not]; omega
      clear hat hok
      go_wp2_with (go_at_call 96; refine (l1In_b _ _ _ _ a1 _).mono ?_; rintro e w' ⟨rfl, rfl⟩)
      go_ret
      exact ⟨hW1, ret_int Hr.out.symm⟩
  · obtain ⟨hok0, hi0, hi1⟩ := swB_yes h
    have hn := netOf_ok hok0
    have a1 : inI x 0 (((netOf t).n : Int) - 1) = true := by simp [inI]; omega
    obtain ⟨k, rfl⟩ := Int.eq_ofNat_of_zero_le hi0
    have hr : actsI t k = (reachN (netOf t) k : Nat) := by rw [actsI, h]; rfl
    have Hr := Lib.hid hr
    have Hok := Lib.hid hok0
    clear hr h hok0
    go_enter Tryd.func37, Tryd.ntmps37
    go_wp2_with fail
    refine cO.out.mono ?_
    rintro e w1 ⟨hW1, ⟨hbad, v, rfl⟩ | ⟨hok, b, cap, rfl, hb1, hb2, hat⟩⟩
    · rw [Hok.out] at hbad; cases hbad
    · have c2 := Lib.hid (l7Acts_any b cap k (netOf t) hn.2 (by omega) w1 hat)
      clear hat hok
      go_wp2_with fail
      refine (l1In_b _ _ _ _ a1 _).mono ?_; rintro e w' ⟨rfl, rfl⟩
      go_wp2_with fail
      refine c2.out.mono ?_
      rintro e w' ⟨rfl, rfl⟩
      go_wp2_with fail
      go_ret
      exact ⟨hW1, ret_int Hr.out.symm⟩
theorem groupsOf_spec (t : ByteArray) (w : World) (hs : t.size ≤ 1048576) :
    Calls Tryd.prog 39 #[.string t] w fun e w' => Below w.heap.size w w' ∧ ∃ a cap, e = .returned (.slice a (groupsL t).length cap) ∧ IntsAt w' w.heap.size a (groupsL t) := by
  have c0 := Lib.hid (fun wx => l3Open_any t wx hs)
  go_enter Tryd.func39, Tryd.ntmps39
  go_wp2_with ((with_reducible show wpList _ _ _ (⟨_, .buildSlice 30 0 _, _, _, _, _⟩ :: _) _ _); refine wpList_buildSlice' rfl _ _ _ rfl rfl (int_none _) ?_)
  refine (c0.out _).mono ?_
  rintro e w1 ⟨hW1, hcase⟩
  have hW0 : Below w.heap.size w w1 := ((Below.refl _ _).alloc (Nat.le_refl _) _).trans (hW1.mono (by simp))
  have hnew : w1.ownsRow w.heap.size 3 1 (.slice (some ⟨w.heap.size, 0, none⟩) 0 0) 0 [] :=
    own_below (World.ownsRow_made w #[] 0 (Nat.le_refl _) (by unfold maxLen; omega) rfl) hW1
  have Hnew := Lib.hid hnew
  clear hnew
  rcases hcase with ⟨hbad, v, rfl⟩ | ⟨hok, b, cap, rfl, hb1, hb2, hat⟩
  · have hr : groupsL t = [] := by rw [groupsL, hbad]; rfl
    have Hr := Lib.hid hr
    clear hr hbad
    go_wp2_with fail
    go_loopw [3, 6, 7, 8, 9] (fun out _ i _ _ wr => out = .slice (some ⟨w.heap.size, 0, none⟩) 0 0 ∧ i = .int .i64 0 ∧ wr = w1) (fun _ _ _ _ _ _ => 0)
    case atStart => exact ⟨rfl, rfl, rfl⟩
    case round =>
      obtain ⟨rfl, rfl, rfl⟩ := hrel
      go_wp2_with fail
      go_ret
      exact ⟨hW0, _, 0, by rw [Hr.out]; rfl, by rw [Hr.out]; exact intsAt_nil _ _ _⟩
  · obtain ⟨N, hN⟩ : ∃ N, netOf t = N := ⟨_, rfl⟩
    have hn := netOf_ok hok
    have hr : groupsL t = grpL N N.n := by rw [groupsL, hok, ← hN]; rfl
    rw [hN] at hn hat ⊢
    have hp := pw_le hn.2
    have Hr := Lib.hid hr
    have Hat := Lib.hid hat
    clear hr hok hat hN
    go_wp2_with fail
    go_loopw [3, 6, 7, 8, 9] (fun out done j _ _ wr => ∃ i : Nat, i ≤ N.n ∧ j = .int .i64 i ∧ done = .int .i64 ((grpD N i : Nat) : Int) ∧ wr.ownsRow w.heap.size 3 1 out (grpL N i).length (ints (grpL N i)) ∧ (StrsAt wr b (netTexts N) ∧ b < wr.heap.size ∧ out.ownBlock ≠ some b) ∧ Below w.heap.size w wr) (fun _ _ j _ _ _ => N.n - (intOf j).toNat)
    case atStart => exact ⟨0, Nat.zero_le _, rfl, rfl, Hnew.out, ⟨Hat.out, hb2, fun e => by cases e; simp at hb1; omega⟩, hW0⟩
    case round =>
      obtain ⟨i, hi, rfl, rfl, hown, hS, hW⟩ := hrel
      have hbs := hS.2.1
      have Hown := Lib.hid hown
      have HS := Lib.hid hS
      have hlen := grpL_length N i
      have hdl := grpD_lt N i hi
      have hsz := hW.size
      clear hown hS
      by_cases hlt : i < N.n
      · have cB := Lib.hid (l1Bit_any (grpD N i) i (by omega) (by omega) wr)
        have c1 := Lib.hid (l7Acts_any b cap i N hn.2 hlt wr HS.out.1)
        cases hdb : (grpD N i).testBit i
        · have hD : grpD N (i + 1) = grpD N i ||| grpN N i := by rw [grpD, hdb]; rfl
          have hL : grpL N (i + 1) = grpL N i ++ [((grpN N i : Nat) : Int)] := by rw [grpL, hdb]; rfl
          have hgrp := grp_later hdb
          have HD := Lib.hid hD
          have HL := Lib.hid hL
          have HGrp := Lib.hid hgrp
          have hgl := grpN_lt N i hlt
          have hor := i64_or (grpD N i) (grpN N i) (by omega) (by omega)
          have h2i := pow2_le i (by omega)
          have h0 : (2 : Int) ^ i = (((2 ^ i ||| ofBits (i + 1) (laterB N i) : Nat)) : Int) := by rw [later_zero]; simp
          have H0 := Lib.hid h0
          clear hD hL h0 hgrp
          obtain ⟨wo, rfl⟩ : ∃ wo : World, wo = wr := ⟨_, rfl⟩
          go_wp2_with (go_at_call 109; refine cB.out.mono ?_; rintro e w' ⟨rfl, rfl⟩)
          go_loop [8, 9] (fun set j => ∃ k : Nat, i + 1 ≤ k ∧ k ≤ N.n ∧ j = .int .i64 k ∧ set = .int .i64 ((2 ^ i ||| ofBits k (laterB N i) : Nat) : Int)) (fun _ j => N.n - (intOf j).toNat)
          case atStart => exact ⟨i + 1, Nat.le_refl _, by omega, by go_num, by rw [← H0.out]⟩
          case round =>
            obtain ⟨k, hik, hk, rfl, rfl⟩ := hrel
            by_cases hlt2 : k < N.n
            · have hsl := or_ofBits_lt (p := laterB N i) hlt hk
              have hor2 := or_pow (2 ^ i ||| ofBits k (laterB N i)) k (by omega) (by omega)
              have h2k := pow2_le k (by omega)
              have hr1 := reachN_lt N i
              have hr2 := reachN_lt N k
              have c2 := Lib.hid (l7Acts_any b cap k N hn.2 hlt2 wo HS.out.1)
              have cB1 := Lib.hid (l1Bit_any (reachN N i) k (by omega) (by omega) wo)
              have cB2 := Lib.hid (l1Bit_any (reachN N k) i (by omega) (by omega) wo)
              have hmu : laterB N i k = ((reachN N i).testBit k && (reachN N k).testBit i) := by
                unfold laterB mutB; rw [decide_eq_true (by omega), Bool.true_and]
              cases hb1' : (reachN N i).testBit k
              · have hnx : ofBits (k + 1) (laterB N i) = ofBits k (laterB N i) := ofBits_skip (by rw [hmu, hb1']; rfl)
                have Hnx := Lib.hid hnx
                clear hnx hmu
                go_wp2_with fail
                refine c1.out.mono ?_
                rintro e w' ⟨rfl, rfl⟩
                go_wp2_with fail
                refine cB1.out.mono ?_
                rintro e w' ⟨rfl, rfl⟩
                go_wp2_with fail
                go_round
                case rel => exact ⟨k + 1, by omega, by omega, by go_num, by rw [Hnx.out]⟩
                case measure => simp [intOf] <;> omega
              · cases hb2' : (reachN N k).testBit i
                case' false => have hnx : ofBits (k + 1) (laterB N i) = ofBits k (laterB N i) := ofBits_skip (by rw [hmu, hb1', hb2']; rfl)
                case' true => have hnx : (2 ^ i ||| ofBits k (laterB N i)) ||| 2 ^ k = 2 ^ i ||| ofBits (k + 1) (laterB N i) := or_next (by rw [hmu, hb1', hb2']; rfl)
                all_goals
                  have Hnx := Lib.hid hnx
                  clear hnx hmu
                  go_wp2_with fail
                  refine c1.out.mono ?_
                  rintro e w' ⟨rfl, rfl⟩
                  go_wp2_with fail
                  refine cB1.out.mono ?_
                  rintro e w' ⟨rfl, rfl⟩
                  go_wp2_with fail
                  refine c2.out.mono ?_
                  rintro e w' ⟨rfl, rfl⟩
                  go_wp2_with fail
                  refine cB2.out.mono ?_
                  rintro e w' ⟨rfl, rfl⟩
                  go_wp2_with fail
                  go_round
                  case rel => exact ⟨k + 1, by omega, by omega, by go_num, by rw [Hnx.out]⟩
                  case measure => simp [intOf] <;> omega
            · obtain rfl : k = N.n := by omega
              have hset := HGrp.out
              obtain ⟨g, hg⟩ : ∃ g, grpN N i = g := ⟨_, rfl⟩
              rw [hg] at hset hor hgl
              rw [hset]
              have HG := Lib.hid hg
              clear hset hg
              go_wp2_with (first | ((with_reducible show wpList _ _ _ (⟨_, .buildSlice 30 1 _, _, _, _, _⟩ :: _) _ _); refine wpList_buildSlice' rfl _ _ _ rfl rfl (int_one (g : Int) _) ?_) | (at_builtin; refine wpList_int_appendK rfl _ _ rfl w.heap.size _ (grpL N i) rfl ((Hown.out.alloc _)) _ _ rfl (cell_new ?_) (by omega) (hW.alloc (by omega) _) ?_ ?_ ?_))
              · rfl
              · first | omega | (simp; omega)
              · intro v' w3 hown3 hB3 hk3
                have hS3 : StrsAt w3 b (netTexts N) ∧ b < w3.heap.size ∧ v'.ownBlock ≠ some b := by
                  have h1 := hk3 b (by first | omega | (simp; omega)) HS.out.2.2
                  refine ⟨HS.out.1.same (h1.1.trans (Below.heap_alloc _ _ _ hbs)), ?_, h1.2⟩
                  have h2 : ∃ o, w3.heap[b]? = some o := by rw [h1.1, Below.heap_alloc _ _ _ hbs]; exact ⟨_, Array.getElem?_eq_getElem hbs⟩
                  exact block_lt h2.choose_spec
                have hown4 : w3.ownsRow w.heap.size 3 1 v' (grpL N (i + 1)).length (ints (grpL N (i + 1))) := by rw [HL.out, List.length_append, HG.out]; exact hown3
                have Hown3 := Lib.hid hown4
                have HB3 := Lib.hid hB3
                have HS3 := Lib.hid hS3
                clear hown3 hown4 hB3 hk3 hS3
                go_wp2_with fail
                go_roundw
                case rel => exact ⟨i + 1, by omega, by go_num, by rw [HD.out, HG.out], Hown3.out, HS3.out, HB3.out⟩
                case measure => simp [intOf] <;> omega
        · have hD : grpD N (i + 1) = grpD N i := by rw [grpD, hdb]; rfl
          have hL : grpL N (i + 1) = grpL N i := by rw [grpL, hdb]; rfl
          have HD := Lib.hid hD
          have HL := Lib.hid hL
          clear hD hL
          go_wp2_with (go_at_call 109; refine cB.out.mono ?_; rintro e w' ⟨rfl, rfl⟩)
          go_roundw
          case rel => exact ⟨i + 1, by omega, by go_num, by rw [HD.out], by rw [HL.out]; exact Hown.out, HS.out, hW⟩
          case measure => simp [intOf] <;> omega
      · obtain rfl : i = N.n := by omega
        obtain ⟨a, cp, rfl, hcp, hI⟩ := intsAt_of_own Hown.out
        have hI' := Lib.hid hI
        clear hI
        go_wp2_with fail
        go_ret
        exact ⟨hW, a, cp, by rw [Hr.out]; rfl, by rw [Hr.out]; exact hI'.out⟩
end Go.Proofs.YtcddnacbjdahbaaDoor
