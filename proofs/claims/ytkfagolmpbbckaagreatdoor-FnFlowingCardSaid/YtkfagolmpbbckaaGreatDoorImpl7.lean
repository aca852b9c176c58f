/- The program's influences in any number of steps. -/
import Derived.Test.YtkfagolmpbbckaaGreatDoorImplA
import Derived.Test.YtkfagolmpbbckaaGreatDoorP1
import Derived.Test.YtkfagolmpbbckaaGreatDoorSl
import Derived.Deep.LoopGhost
namespace Go.Proofs.YtkfagolmpbbckaaGreatDoor
open Go Go.RowKit Go.Sw
set_option maxRecDepth 100000
set_option linter.unusedVariables false

theorem acts_any (b cap i : Nat) (N : Net) (hn : N.n ≤ 5) (hi : i < N.n) (w : World) (hat : NetAt w b N.n N.f) (hb : b < w.heap.size) :
    Calls Tryz.prog 82 #[.slice (some ⟨b, 0, none⟩) N.n cap, .int .i64 i] w fun e w' => Below w.heap.size w w' ∧ e = .returned (.int .i64 (actsN N i)) := by
  have Hat := Lib.hid hat
  clear hat
  go_enter Tryz.func82, Tryz.ntmps82
  go_wp2_with fail
  go_loopw [5, 6, 7, 10] (fun set _ _ j wr => (∃ k : Nat, k ≤ N.n ∧ j = .int .i64 k ∧ set = .int .i64 ((ofBits k (infB N i) : Nat) : Int)) ∧ Below w.heap.size w wr) (fun _ _ _ j _ => N.n - (intOf j).toNat)
  case atStart => exact ⟨⟨0, Nat.zero_le _, rfl, rfl⟩, Below.refl _ _⟩
  case round =>
    obtain ⟨⟨k, hk, rfl, rfl⟩, hW⟩ := hrel
    by_cases hlt : k < N.n
    · have hr : wr.rangeAt b (k * 33) (tlist N.n (N.f k)) := (Hat.out.below hW hb) k hlt
      have Hr := Lib.hid hr
      clear hr
      obtain ⟨wo, rfl⟩ : ∃ wo : World, wo = wr := ⟨_, rfl⟩
      have hlt2 := ofBits_lt k (infB N i)
      have hpk := pw_le (show k ≤ 5 by omega)
      have hor := or_pow (ofBits k (infB N i)) k (by omega) (by omega)
      have h2k := pow2_le k (by omega)
      have c := fun W => sign_any N.n (N.f k) i hn hi W
      cases hu : sgU N.n (N.f k) i <;> cases hd : sgD N.n (N.f k) i
      case' false.false => have hs : sgT false false = ⟨#[48]⟩ := rfl
      case' true.false => have hs : sgT true false = ⟨#[43]⟩ := rfl
      case' false.true => have hs : sgT false true = ⟨#[45]⟩ := rfl
      case' true.true => have hs : sgT true true = ⟨#[42]⟩ := rfl
      case' false.false =>
        have hnx : ofBits (k + 1) (infB N i) = ofBits k (infB N i) := ofBits_skip (by rw [infB, hu, hd]; rfl)
      case' true.false =>
        have hnx : ofBits (k + 1) (infB N i) = ofBits k (infB N i) ||| 2 ^ k := (ofBits_or (by rw [infB, hu, hd]; rfl)).symm
      case' false.true =>
        have hnx : ofBits (k + 1) (infB N i) = ofBits k (infB N i) ||| 2 ^ k := (ofBits_or (by rw [infB, hu, hd]; rfl)).symm
      case' true.true =>
        have hnx : ofBits (k + 1) (infB N i) = ofBits k (infB N i) ||| 2 ^ k := (ofBits_or (by rw [infB, hu, hd]; rfl)).symm
      all_goals
        rw [hu, hd, hs] at c
        have C := Lib.hid c
        have Hnx := Lib.hid hnx
        clear c hd hu hs hnx
        go_wp2_with (first | ((with_reducible show wpList _ _ _ (⟨_, .alloc 86, _, _, _, _⟩ :: _) _ _); refine wpList_alloc' rfl _ rfl (tab_alloc _) ?_) | ((with_reducible show wpList _ _ _ (⟨_, .store 86 _ _, _, _, _, _⟩ :: _) _ _); refine wpList_store' rfl _ _ _ rfl rfl rfl (tab_store_new _ _ N.n _ ?_) ?_; simp) | ((with_reducible show wpList _ _ _ (⟨_, .load 86 _, _, _, _, _⟩ :: _) _ _); refine wpList_load' rfl _ _ rfl rfl (tab_load_at _ _ _ N.n (N.f k) (range_new ?_)) ?_; simp) | ((with_reducible show wpList _ _ _ (⟨_, .load 86 _, _, _, _, _⟩ :: _) _ _); refine wpList_load' rfl _ _ rfl rfl (tab_load_at _ _ _ N.n (N.f k) Hr.out) ?_) | (go_at_call 96; refine (C.out _).mono ?_; rintro e w1 ⟨rfl, hb1⟩))
        go_roundw
        case rel => exact ⟨⟨k + 1, by omega, by go_num, by rw [Hnx.out]⟩, (hW.alloc hW.size _).trans (hb1.mono (by have := hW.size; simp; omega))⟩
        case measure => simp [intOf] <;> omega
    · obtain rfl : k = N.n := by omega
      go_wp2_with fail
      go_ret
      exact ⟨hW, rfl⟩
theorem farther_any (b cap i : Nat) (N : Net) (hn : N.n ≤ 5) (hi : i < N.n) (w : World) (hat : NetAt w b N.n N.f) (hb : b < w.heap.size) :
    Calls Tryz.prog 67 #[.slice (some ⟨b, 0, none⟩) N.n cap, .int .i64 i] w fun e w' => Below w.heap.size w w' ∧ e = .returned (.int .i64 ((reachN N i : Nat) : Int)) := by
  have hp := pw_le hn
  have Hat := Lib.hid hat
  have c0 := Lib.hid (acts_any b cap i N hn hi w hat hb)
  clear hat
  go_enter Tryz.func67, Tryz.ntmps67
  go_wp2_with fail
  refine c0.out.mono ?_
  rintro e w1 ⟨hW1, rfl⟩
  go_wp2_with fail
  go_loopg [5, 6, 7] 32 (fun g s5 s6 s7 wr => ∃ s : Nat, s5 = .int .i64 s ∧ 32 - s ≤ g ∧ (within N i s ∧ subS (actsN N i) s) ∧ Below w.heap.size w wr)
  case atStart => exact ⟨actsN N i, rfl, by omega, ⟨within_acts N i, fun _ h => h⟩, hW1⟩
  case round =>
    obtain ⟨s, rfl, hg, hst, hW⟩ := hrel
    have hs := hst.1.1
    have Hst := Lib.hid hst
    clear hst
    obtain ⟨wo, rfl⟩ : ∃ wo : World, wo = wr := ⟨_, rfl⟩
    go_wp2_with fail
    go_loopw [6, 7, 14] (fun nx _ j wr => ∃ k m : Nat, k ≤ N.n ∧ j = .int .i64 k ∧ nx = .int .i64 m ∧ (within N i m ∧ subS s m ∧ grownTo N s m k) ∧ Below w.heap.size w wr) (fun _ _ j _ => N.n - (intOf j).toNat)
    case atStart => exact ⟨0, s, Nat.zero_le _, rfl, rfl, ⟨Hst.out.1, fun _ h => h, fun k' h => absurd h (Nat.not_lt_zero _)⟩, hW⟩
    case round =>
      obtain ⟨k, m, hk, rfl, rfl, hin, hW2⟩ := hrel
      have hm := hin.1.1
      have Hin := Lib.hid hin
      clear hin
      by_cases hlt : k < N.n
      · cases hbk : s.testBit k
        · have hnx := grownTo_skip Hin.out.2.2 hbk
          have Hnx := Lib.hid hnx
          clear hnx
          go_wp2_with fail
          go_roundw
          case rel => exact ⟨k + 1, m, by omega, by go_num, rfl, ⟨Hin.out.1, Hin.out.2.1, Hnx.out⟩, hW2⟩
          case measure => simp [intOf] <;> omega
        · have hnx : within N i (m ||| actsN N k) ∧ subS s (m ||| actsN N k) ∧ grownTo N s (m ||| actsN N k) (k + 1) :=
            ⟨within_or Hin.out.1 (within_acts_of Hst.out.1 hbk), Hin.out.2.1.trans (subS_or _ _), grownTo_next Hin.out.2.2 hbk⟩
          have Hnx := Lib.hid hnx
          have hal := actsN_lt N k
          have hor := i64_or m (actsN N k) (by omega) (by omega)
          have c1 := Lib.hid (acts_any b cap k N hn hlt wr (Hat.out.below hW2 hb) (Nat.lt_of_lt_of_le hb hW2.size))
          clear hnx
          go_wp2_with (go_at_call 82; refine c1.out.mono ?_; rintro e w2 ⟨hW3, rfl⟩)
          go_roundw
          case rel => exact ⟨k + 1, m ||| actsN N k, by omega, by go_num, rfl, Hnx.out, hW2.trans (hW3.mono hW2.size)⟩
          case measure => simp [intOf] <;> omega
      · obtain rfl : k = N.n := by omega
        by_cases he : m = s
        · subst he
          have hres := reach_done Hin.out.1 Hst.out.2 Hin.out.2.2
          have heq : ((m : Int) == (m : Int)) = true := by simp
          have Hres := Lib.hid hres
          clear hres
          go_wp2_with fail
          go_ret
          exact ⟨hW2, ret_int (congrArg Nat.cast Hres.out)⟩
        · have hle := subS_le Hin.out.2.1
          have hne : ((m : Int) == (s : Int)) = false := by
            simp only [beq_eq_false_iff_ne, ne_eq, Int.natCast_inj]; exact he
          have hlt3 : s < m := by omega
          clear he
          go_wp2_with fail
          go_roundg (32 - m)
          case measure => omega
          case rel => exact ⟨m, rfl, Nat.le_refl _, ⟨Hin.out.1, Hst.out.2.trans Hin.out.2.1⟩, hW2⟩

theorem actsOn_impl (t : ByteArray) (x : Int) (w : World) (hs : t.size ≤ 1048576) :
    Calls Tryz.prog 25 #[.string t, .int .i64 x] w fun e w' => Below w.heap.size w w' ∧ e = .returned (.int .i64 (actsI t x)) := by
  cases h : swB t x
  · have hr : actsI t x = -1 := by rw [actsI, h]; rfl
    have Hr := Lib.hid hr
    have c := Lib.hid (switchOf_no t x w hs h)
    clear hr h
    go_enter Tryz.func25, Tryz.ntmps25
    go_wp2_with fail
    refine c.out.mono ?_
    rintro e w1 ⟨hW1, v, rfl⟩
    go_wp2_with fail
    go_ret
    exact ⟨hW1, ret_int Hr.out.symm⟩
  · obtain ⟨h1, h2, h3⟩ := swB_yes h
    have hn := (netOf_ok h1).2
    obtain ⟨k, rfl⟩ := Int.eq_ofNat_of_zero_le h2
    have hr : actsI t k = (reachN (netOf t) k : Nat) := by rw [actsI, h]; rfl
    have Hr := Lib.hid hr
    have c := Lib.hid (switchOf_yes t k w hs h)
    clear hr h h1
    go_enter Tryz.func25, Tryz.ntmps25
    go_wp2_with fail
    refine c.out.mono ?_
    rintro e w1 ⟨hW1, b, cap, rfl, hb1, hb2, hat⟩
    have c2 := Lib.hid (farther_any b cap k (netOf t) hn (by omega) w1 hat hb2)
    clear hat
    go_wp2_with fail
    refine c2.out.mono ?_
    rintro e w2 ⟨hW2, rfl⟩
    go_wp2_with fail
    go_ret
    exact ⟨hW1.trans (hW2.mono hW1.size), ret_int Hr.out.symm⟩
end Go.Proofs.YtkfagolmpbbckaaGreatDoor
