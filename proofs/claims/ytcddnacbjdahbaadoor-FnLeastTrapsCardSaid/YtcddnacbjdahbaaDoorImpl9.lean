/- The program's removing of switches: which can be, states with one put in. -/
import Derived.Test.YtcddnacbjdahbaaDoorImplA
import Derived.Test.YtcddnacbjdahbaaDoorPu
import Derived.Test.YtcddnacbjdahbaaDoorSl
namespace Go.Proofs.YtcddnacbjdahbaaDoor
open Go Go.RowKit Go.Sw
set_option maxRecDepth 100000
set_option linter.unusedVariables false

theorem hold_any (s i : Nat) (v : Bool) (hs : s < 32) (hi : i < 5) (w : World) :
    Calls Tryd.prog 188 #[.int .i64 s, .int .i64 i, .int .i64 (b2 v)] w fun e w' => Below w.heap.size w w' ∧ e = .returned (.int .i64 (setN s i v)) := by
  have h2 := pow2_le i (by omega)
  obtain ⟨h3, h4⟩ := set_facts s i v hs hi
  cases v
  all_goals
    simp only [Bool.toNat_true, Bool.toNat_false, Int.natCast_zero, Int.natCast_one, Int.zero_mul, Int.one_mul, b2_true, b2_false] at h4 ⊢
    go_enter Tryd.func188, Tryd.ntmps188
    go_wp2_with fail
    go_quiet (fail)
    go_wp2_with fail
    go_ret
    exact ⟨below_drewN (Below.refl _ _) _, rfl⟩

theorem stepOne_any (b cap s i : Nat) (N : Net) (hn : N.n ≤ 5) (hs : s < pw N.n) (hi : i < N.n) (w : World) (hat : NetAt w b N.n N.f) :
    Calls Tryd.prog 143 #[.slice (some ⟨b, 0, none⟩) N.n cap, .int .i64 s, .int .i64 i] w fun e w' => Below w.heap.size w w' ∧ e = .returned (.int .i64 (setN s i (N.f i s))) := by
  have hp := pw_le hn
  have hc : w.cell? ⟨b, i * 33 + 1 + s, none⟩ = some (.int .u8 (b2 (N.f i s))) := by
    have h := tcells_bit N.n (N.f i) s (by omega)
    have h2 : (tlist N.n (N.f i))[1 + s]? = some (.int .u8 (b2 (N.f i s))) := by simpa [tcells] using h
    have h3 : w.cell? ⟨b, i * 33 + (1 + s), none⟩ = some (.int .u8 (b2 (N.f i s))) := hat i hi (1 + s) _ h2
    rw [← Nat.add_assoc] at h3
    exact h3
  have c := fun wx => hold_any s i (N.f i s) (by omega) (by omega) wx
  clear hat
  cases hv : N.f i s <;> rw [hv] at hc c <;> simp only [b2_true, b2_false] at hc c
  all_goals
    have C := Lib.hid c
    clear c hv
    go_enter Tryd.func143, Tryd.ntmps143
    go_wp2_with fail
    refine (C.out _).mono ?_
    rintro e w1 ⟨hW1, rfl⟩
    go_wp2_with fail
    go_ret
    exact ⟨hW1, rfl⟩

theorem put_any (s i : Nat) (hs : s < 16) (hi : i < 5) (w : World) :
    Calls Tryd.prog 159 #[.int .i64 s, .int .i64 i] w fun e w' => e = .returned (.int .i64 (putN s i : Nat)) ∧ w = w' := by
  obtain ⟨ha, h0, h1, ho, _⟩ := put_facts s i hs hi
  have h2 := pow2_le i (by omega)
  go_enter Tryd.func159, Tryd.ntmps159
  go_wp2
  go_ret
  exact ⟨rfl, rfl⟩

theorem lift_any (b cap s i : Nat) (N : Net) (h2 : 2 ≤ N.n) (hn : N.n ≤ 5) (hs : s < pw (N.n - 1)) (hi : i < N.n) (w : World) (hat : NetAt w b N.n N.f) :
    Calls Tryd.prog 95 #[.slice (some ⟨b, 0, none⟩) N.n cap, .int .i64 i, .int .i64 s] w fun e w' => Below w.heap.size w w' ∧ e = .returned (.int .i64 (liftN N i s)) := by
  have hp := pw_le hn
  have hh := pw_half (show 1 ≤ N.n by omega)
  have hlt := putN_lt s i (N.n - 1) hs
  rw [show N.n - 1 + 1 = N.n by omega] at hlt
  have c1 := Lib.hid (put_any s i (by omega) (by omega) w)
  have c2 := Lib.hid (stepOne_any b cap (putN s i) i N hn hlt hi w hat)
  clear hat hh
  go_enter Tryd.func95, Tryd.ntmps95
  go_wp2_with fail
  refine c1.out.mono ?_
  rintro e w' ⟨rfl, rfl⟩
  go_wp2_with fail
  refine c2.out.mono ?_
  rintro e w1 ⟨hW1, rfl⟩
  go_wp2_with fail
  go_ret
  exact ⟨hW1, rfl⟩

theorem removable_any (b cap i : Nat) (N : Net) (hn : N.n ≤ 5) (hi : i < N.n) (w : World) (hat : NetAt w b N.n N.f) :
    Calls Tryd.prog 93 #[.slice (some ⟨b, 0, none⟩) N.n cap, .int .i64 i] w fun e w' => Below w.heap.size w w' ∧ e = .returned (.bool (freeB N i)) := by
  by_cases h1 : 1 < N.n
  · have hr := hat i hi
    have c := fun wx => sign_any N.n (N.f i) i hn hi wx
    have hf : freeB N i = !infB N i i := by rw [freeB, decide_eq_true h1, Bool.true_and]
    rw [hf, infB]
    have Hr := Lib.hid hr
    clear hr hat hf
    cases hu : sgU N.n (N.f i) i <;> cases hd : sgD N.n (N.f i) i
    case' false.false => have hs : sgT false false = ⟨#[48]⟩ := rfl
    case' true.false => have hs : sgT true false = ⟨#[43]⟩ := rfl
    case' false.true => have hs : sgT false true = ⟨#[45]⟩ := rfl
    case' true.true => have hs : sgT true true = ⟨#[42]⟩ := rfl
    all_goals
      rw [hu, hd, hs] at c
      have C := Lib.hid c
      clear c hu hd hs
      go_enter Tryd.func93, Tryd.ntmps93
      go_wp2_with (first | ((with_reducible show wpList _ _ _ (⟨_, .load 123 _, _, _, _, _⟩ :: _) _ _); refine wpList_loadG rfl _ _ rfl rfl (tab_load_at _ _ _ N.n (N.f i) Hr.out) ?_) | (go_at_call 158; refine (C.out _).mono ?_; rintro e w1 ⟨rfl, hb1⟩))
      go_ret
      exact ⟨hb1, rfl⟩
  · have hf : freeB N i = false := by rw [freeB, decide_eq_false h1, Bool.false_and]
    have Hf := Lib.hid hf
    clear hat hf
    go_enter Tryd.func93, Tryd.ntmps93
    go_wp2_with fail
    go_ret
    exact ⟨Below.refl _ _, by rw [Hf.out]; rfl⟩

theorem liftState_impl (t : ByteArray) (i s : Int) (w : World) (hs : t.size ≤ 1048576) :
    Calls Tryd.prog 28 #[.string t, .int .i64 i, .int .i64 s] w fun e w' => Below w.heap.size w w' ∧ e = .returned (.int .i64 (liftI t i s)) := by
  cases h : swB t i
  · have hr : liftI t i s = -1 := by rw [liftI, liftB, h]; rfl
    have Hr := Lib.hid hr
    have c := Lib.hid (switchOf_no t i w hs h)
    clear hr h
    go_enter Tryd.func28, Tryd.ntmps28
    go_wp2_with fail
    refine c.out.mono ?_
    rintro e w1 ⟨hW1, v, rfl⟩
    go_wp2_with fail
    go_ret
    exact ⟨hW1, ret_int Hr.out.symm⟩
  · obtain ⟨hok, hi0, hi1⟩ := swB_yes h
    have hn := netOf_ok hok
    have hp := pw_le hn.2
    have hh := pw_half hn.1
    obtain ⟨k, rfl⟩ := Int.eq_ofNat_of_zero_le hi0
    have c := Lib.hid (switchOf_yes t k w hs h)
    have hB : liftB t k s = (freeB (netOf t) k && (decide (0 ≤ s) && decide (s < (pw ((netOf t).n - 1) : Nat)))) := by rw [liftB, h]; rfl
    cases hf : freeB (netOf t) k
    · have hr : liftI t k s = -1 := by rw [liftI, hB, hf]; rfl
      have Hr := Lib.hid hr
      have Hf := Lib.hid hf
      clear hr h hf hB hok hh
      go_enter Tryd.func28, Tryd.ntmps28
      go_wp2_with fail
      refine c.out.mono ?_
      rintro e w1 ⟨hW1, b, cp, rfl, hb1, hb2, hat⟩
      have c2 := removable_any b cp k (netOf t) hn.2 (by omega) w1 hat
      rw [Hf.out] at c2
      have C2 := Lib.hid c2
      clear c2 hat
      go_wp2_with fail
      refine C2.out.mono ?_
      rintro e w2 ⟨hW2, rfl⟩
      go_wp2_with fail
      go_ret
      exact ⟨hW1.trans (hW2.mono hW1.size), ret_int Hr.out.symm⟩
    · have h2n : 2 ≤ (netOf t).n := by
        simp only [freeB, Bool.and_eq_true, decide_eq_true_eq] at hf; exact hf.1
      have Hf := Lib.hid hf
      by_cases hs0 : s < 0 ∨ ((pw ((netOf t).n - 1) : Nat) : Int) ≤ s
      · have hr : liftI t k s = -1 := by
          have : (decide (0 ≤ s) && decide (s < (pw ((netOf t).n - 1) : Nat))) = false := by
            rw [Bool.and_eq_false_iff, decide_eq_false_iff_not, decide_eq_false_iff_not]; omega
          rw [liftI, hB, this, Bool.and_false]; rfl
        have hdiv : ((pw (netOf t).n : Nat) : Int) / 2 = ((pw ((netOf t).n - 1) : Nat) : Int) := by omega
        have Hr := Lib.hid hr
        clear hr h hf hB hok hh
        rcases hs0 with hs0 | hs0
        all_goals
          go_enter Tryd.func28, Tryd.ntmps28
          go_wp2_with fail
          refine c.out.mono ?_
          rintro e w1 ⟨hW1, b, cp, rfl, hb1, hb2, hat⟩
          have c2 := removable_any b cp k (netOf t) hn.2 (by omega) w1 hat
          rw [Hf.out] at c2
          have C2 := Lib.hid c2
          have c3 := Lib.hid (fun wx => states_any (some ⟨b, 0, none⟩) (netOf t).n cp hn.2 wx)
          clear c2 hat
          go_wp2_with fail
          refine C2.out.mono ?_
          rintro e w2 ⟨hW2, rfl⟩
          go_wp2_with (go_at_call 94; refine (c3.out _).mono ?_; rintro e w' ⟨rfl, rfl⟩)
          go_ret
          exact ⟨hW1.trans (hW2.mono hW1.size), ret_int Hr.out.symm⟩
      · obtain ⟨m, rfl⟩ := Int.eq_ofNat_of_zero_le (show 0 ≤ s by omega)
        have hm : m < pw ((netOf t).n - 1) := by omega
        have hr : liftI t k m = (liftN (netOf t) k m : Nat) := by
          have : (decide ((0 : Int) ≤ m) && decide ((m : Int) < (pw ((netOf t).n - 1) : Nat))) = true := by
            rw [Bool.and_eq_true, decide_eq_true_eq, decide_eq_true_eq]; omega
          rw [liftI, hB, hf, this]; rfl
        have hdiv : ((pw (netOf t).n : Nat) : Int) / 2 = ((pw ((netOf t).n - 1) : Nat) : Int) := by omega
        have Hr := Lib.hid hr
        clear hr h hf hB hok hh hs0
        go_enter Tryd.func28, Tryd.ntmps28
        go_wp2_with fail
        refine c.out.mono ?_
        rintro e w1 ⟨hW1, b, cp, rfl, hb1, hb2, hat⟩
        have c2 := removable_any b cp k (netOf t) hn.2 (by omega) w1 hat
        rw [Hf.out] at c2
        have C2 := Lib.hid c2
        have c3 := Lib.hid (fun wx => states_any (some ⟨b, 0, none⟩) (netOf t).n cp hn.2 wx)
        have Hat := Lib.hid hat
        clear c2 hat
        go_wp2_with fail
        refine C2.out.mono ?_
        rintro e w2 ⟨hW2, rfl⟩
        have c4 := Lib.hid (lift_any b cp m k (netOf t) h2n hn.2 hm (by omega) w2 (Hat.out.below hW2 hb2))
        go_wp2_with fail
        refine (c3.out _).mono ?_
        rintro e w' ⟨rfl, rfl⟩
        go_wp2_with fail
        refine c4.out.mono ?_
        rintro e w3 ⟨hW3, rfl⟩
        go_wp2_with fail
        go_ret
        have hW12 := hW1.trans (hW2.mono hW1.size)
        exact ⟨hW12.trans (hW3.mono hW12.size), ret_int Hr.out.symm⟩
theorem removable_impl (t : ByteArray) (w : World) (hs : t.size ≤ 1048576) :
    Calls Tryd.prog 57 #[.string t] w fun e w' => Below w.heap.size w w' ∧ ∃ a cap, e = .returned (.slice a (remL t).length cap) ∧ IntsAt w' w.heap.size a (remL t) := by
  go_enter Tryd.func57, Tryd.ntmps57
  go_wp2_with fail
  refine (readNetwork_any t w hs).mono ?_
  rintro e w1 ⟨hW1, ⟨hbad, rfl⟩ | ⟨hok, b, cap, rfl, hb1, hb2, hat⟩⟩
  · have hr : remL t = [] := by rw [remL, hbad]; rfl
    have Hr := Lib.hid hr
    clear hr hbad
    go_wp2_with fail
    go_loopw [5, 6] (fun out i wr => out = .slice none 0 0 ∧ i = .int .i64 0 ∧ wr = w1) (fun _ _ _ => 0)
    case atStart => exact ⟨rfl, rfl, rfl⟩
    case round =>
      obtain ⟨rfl, rfl, rfl⟩ := hrel
      go_wp2_with fail
      refine (clip_any none 0 0 (fun h => absurd h (Nat.lt_irrefl _)) (Nat.le_refl _) (by omega) _).mono ?_
      rintro e w' ⟨rfl, rfl⟩
      go_wp2_with fail
      go_ret
      exact ⟨hW1, none, 0, by rw [Hr.out]; rfl, by rw [Hr.out]; exact intsAt_nil _ _ _⟩
  · have hn := netOf_ok hok
    have hr : remL t = freeL (netOf t) (netOf t).n := by rw [remL, hok]; rfl
    have Hr := Lib.hid hr
    have Hat := Lib.hid hat
    clear hr hok hat
    go_wp2_with fail
    go_loopw [5, 6] (fun out i wr => ∃ k : Nat, k ≤ (netOf t).n ∧ i = .int .i64 k ∧ wr.ownsRow w1.heap.size 3 1 out (freeL (netOf t) k).length (ints (freeL (netOf t) k)) ∧ Below w1.heap.size w1 wr) (fun _ i _ => (netOf t).n - (intOf i).toNat)
    case atStart => exact ⟨0, Nat.zero_le _, rfl, World.ownsRow_nil _ _ _ _, Below.refl _ _⟩
    case round =>
      obtain ⟨k, hk, rfl, hown, hW⟩ := hrel
      have Hown := Lib.hid hown
      have hlen := freeL_length (netOf t) k
      clear hown
      by_cases hlt : k < (netOf t).n
      · have c := removable_any b cap k (netOf t) hn.2 hlt wr (Hat.out.below hW hb2)
        have hsz := hW.size
        cases hf : freeB (netOf t) k
        · have hL : freeL (netOf t) (k + 1) = freeL (netOf t) k := by rw [freeL, hf]; rfl
          have HL := Lib.hid hL
          rw [hf] at c
          have C := Lib.hid c
          clear c hL hf
          go_wp2_with fail
          refine C.out.mono ?_
          rintro e w2 ⟨hW2, rfl⟩
          go_wp2_with fail
          go_roundw
          case rel => exact ⟨k + 1, by omega, by go_num, by rw [HL.out]; exact own_below Hown.out hW2, hW.trans (hW2.mono hsz)⟩
          case measure => simp [intOf] <;> omega
        · have hL : freeL (netOf t) (k + 1) = freeL (netOf t) k ++ [(k : Int)] := by rw [freeL, hf]; rfl
          have HL := Lib.hid hL
          rw [hf] at c
          have C := Lib.hid c
          clear c hL hf
          go_wp2_with fail
          refine C.out.mono ?_
          rintro e w2 ⟨hW2, rfl⟩
          have hsz2 := hW2.size
          go_wp2_with (first | ((with_reducible show wpList _ _ _ (⟨_, .buildSlice 30 1 _, _, _, _, _⟩ :: _) _ _); refine wpList_buildSlice' rfl _ _ _ rfl rfl (int_one (k : Int) _) ?_) | (at_builtin; refine wpList_int_append rfl _ _ rfl w1.heap.size _ (freeL (netOf t) k) rfl (((own_below Hown.out hW2).alloc _)) _ _ rfl (cell_new ?_) (by omega) ((hW.trans (hW2.mono hsz)).alloc (by omega) _) ?_ ?_ ?_))
          · rfl
          · exact Nat.le_refl _
          · simp; omega
          · intro v' w3 hown3 hB3
            have hown4 : w3.ownsRow w1.heap.size 3 1 v' (freeL (netOf t) (k + 1)).length (ints (freeL (netOf t) (k + 1))) := by rw [HL.out, List.length_append]; exact hown3
            have Hown3 := Lib.hid hown4
            have HB3 := Lib.hid hB3
            clear hown3 hown4 hB3
            go_wp2_with fail
            go_roundw
            case rel => exact ⟨k + 1, by omega, by go_num, Hown3.out, HB3.out⟩
            case measure => simp [intOf] <;> omega
      · obtain rfl : k = (netOf t).n := by omega
        obtain ⟨a, cp, rfl, hcp, hI⟩ := intsAt_of_own Hown.out
        have hI' := Lib.hid (hI.mono hW1.size)
        have ha : 0 < (freeL (netOf t) (netOf t).n).length → ∃ g, a = some ⟨g, 0, none⟩ := fun h0 => by
          obtain ⟨g, _, _, h1, _⟩ := hI.at' h0
          exact ⟨g, h1⟩
        have C := Lib.hid (fun wx => clip_any a (freeL (netOf t) (netOf t).n).length cp ha hcp (by omega) wx)
        clear hI ha
        go_wp2_with fail
        refine (C.out _).mono ?_
        rintro e w' ⟨rfl, rfl⟩
        go_wp2_with fail
        go_ret
        exact ⟨hW1.trans (hW.mono hW1.size), a, _, by rw [Hr.out]; rfl, by rw [Hr.out]; exact hI'.out⟩
end Go.Proofs.YtcddnacbjdahbaaDoor
