/- The reference's removing of switches: which can be, states with one put in. -/
import Derived.Test.YtcddnacbjdahbaaDoorSpecC
import Derived.Test.YtcddnacbjdahbaaDoorPu
import Derived.Test.YtcddnacbjdahbaaDoorSl
namespace Go.Proofs.YtcddnacbjdahbaaDoor
open Go Go.RowKit Go.Sw
set_option maxRecDepth 100000
set_option linter.unusedVariables false

theorem l9Put_any (s i : Nat) (hs : s < 16) (hi : i < 5) (w : World) :
    Calls Tryd.prog 161 #[.int .i64 s, .int .i64 i, .int .i64 0] w fun e w' => e = .returned (.int .i64 (putN s i : Nat)) ∧ w = w' := by
  obtain ⟨ha, h0, h1, ho, hz⟩ := put_facts s i hs hi
  have h2 := pow2_le i (by omega)
  go_enter Tryd.func161, Tryd.ntmps161
  go_wp2
  go_ret
  exact ⟨rfl, rfl⟩

theorem l9Lift_any (b cap s i : Nat) (N : Net) (h2 : 2 ≤ N.n) (hn : N.n ≤ 5) (hs : s < pw (N.n - 1)) (hi : i < N.n) (w : World) (hat : StrsAt w b (netTexts N)) :
    Calls Tryd.prog 99 #[.slice (some ⟨b, 0, none⟩) N.n cap, .int .i64 i, .int .i64 s] w fun e w' => e = .returned (.int .i64 (liftN N i s)) ∧ w = w' := by
  have hp := pw_le hn
  have hh := pw_half (show 1 ≤ N.n by omega)
  have hlt := putN_lt s i (N.n - 1) hs
  rw [show N.n - 1 + 1 = N.n by omega] at hlt
  have hcell : w.cell? ⟨b, i, none⟩ = some (.string (tabText N.n (N.f i))) := by
    rw [← netTexts_get N i hi]; exact hat i (by rw [netTexts_length]; exact hi)
  have c1 := Lib.hid (l9Put_any s i (by omega) (by omega) w)
  have c2 := Lib.hid (l1At_any N.n (N.f i) (putN s i) hn hlt w)
  have c3 := Lib.hid (l1Set_any (putN s i) i (N.f i (putN s i)) (by omega) (by omega) w)
  clear hat hh
  go_enter Tryd.func99, Tryd.ntmps99
  go_wp2_with fail
  refine c1.out.mono ?_
  rintro e w' ⟨rfl, rfl⟩
  go_wp2_with fail
  refine c2.out.mono ?_
  rintro e w' ⟨rfl, rfl⟩
  go_wp2_with fail
  refine c3.out.mono ?_
  rintro e w' ⟨rfl, rfl⟩
  go_wp2_with fail
  go_ret
  exact ⟨rfl, rfl⟩

theorem l9Free_any (b cap i : Nat) (N : Net) (hn : N.n ≤ 5) (hi : i < N.n) (w : World) (hat : StrsAt w b (netTexts N)) :
    Calls Tryd.prog 97 #[.slice (some ⟨b, 0, none⟩) N.n cap, .int .i64 i] w fun e w' => e = .returned (.bool (freeB N i)) ∧ w = w' := by
  by_cases h1 : 1 < N.n
  · have hf : freeB N i = (sg (sgU N.n (N.f i) i) (sgD N.n (N.f i) i) == 0) := by rw [freeB, decide_eq_true h1, Bool.true_and, sg_zero]; rfl
    have c := Lib.hid (l7Sign_any b cap N hn i i hi hi w hat)
    rw [hf]
    clear hat hf
    go_enter Tryd.func97, Tryd.ntmps97
    go_wp2_with fail
    refine c.out.mono ?_
    rintro e w' ⟨rfl, rfl⟩
    go_wp2_with fail
    go_ret
    exact ⟨rfl, rfl⟩
  · have hf : freeB N i = false := by rw [freeB, decide_eq_false h1, Bool.false_and]
    rw [hf]
    clear hat hf
    go_enter Tryd.func97, Tryd.ntmps97
    go_wp2_with fail
    go_ret
    exact ⟨rfl, rfl⟩

theorem liftState_spec (t : ByteArray) (i s : Int) (w : World) (hs : t.size ≤ 1048576) :
    Calls Tryd.prog 29 #[.string t, .int .i64 i, .int .i64 s] w fun e w' => Below w.heap.size w w' ∧ e = .returned (.int .i64 (liftI t i s)) := by
  have cO := Lib.hid (l3Open_any t w hs)
  cases h : swB t i
  · have hr : liftI t i s = -1 := by rw [liftI, liftB, h]; rfl
    have Hr := Lib.hid hr
    have H := Lib.hid h
    clear hr h
    go_enter Tryd.func29, Tryd.ntmps29
    go_wp2_with fail
    refine cO.out.mono ?_
    rintro e w1 ⟨hW1, ⟨hbad, v, rfl⟩ | ⟨hok, b, cap, rfl, hb1, hb2, hat⟩⟩
    · clear hbad
      go_wp2_with fail
      go_ret
      exact ⟨hW1, ret_int Hr.out.symm⟩
    · have hn := netOf_ok hok
      have a1 : inI i 0 (((netOf t).n : Int) - 1) = false := by
        have := swB_no H.out hok
        simp only [inI, Bool.and_eq_false_iff, decide_eq_false_iff_not]; omega
      clear hat hok
      go_wp2_with (go_at_call 96; refine (l1In_b _ _ _ _ a1 _).mono ?_; rintro e w' ⟨rfl, rfl⟩)
      go_ret
      exact ⟨hW1, ret_int Hr.out.symm⟩
  · obtain ⟨hok0, hi0, hi1⟩ := swB_yes h
    have hn := netOf_ok hok0
    have hp := pw_le hn.2
    have hh := pw_half hn.1
    have a1 : inI i 0 (((netOf t).n : Int) - 1) = true := by simp [inI]; omega
    obtain ⟨k, rfl⟩ := Int.eq_ofNat_of_zero_le hi0
    have Hok := Lib.hid hok0
    have hB : liftB t k s = (freeB (netOf t) k && (decide (0 ≤ s) && decide (s < (pw ((netOf t).n - 1) : Nat)))) := by rw [liftB, h]; rfl
    have hdiv : (((pw (netOf t).n - 1 : Nat)) : Int) / 2 = ((pw ((netOf t).n - 1) - 1 : Nat) : Int) := by omega
    cases hf : freeB (netOf t) k
    · have hr : liftI t k s = -1 := by rw [liftI, hB, hf]; rfl
      have Hr := Lib.hid hr
      have Hf := Lib.hid hf
      clear hr h hf hB hok0 hh hdiv
      go_enter Tryd.func29, Tryd.ntmps29
      go_wp2_with fail
      refine cO.out.mono ?_
      rintro e w1 ⟨hW1, ⟨hbad, v, rfl⟩ | ⟨hok, b, cap, rfl, hb1, hb2, hat⟩⟩
      · rw [Hok.out] at hbad; cases hbad
      · have c2 := l9Free_any b cap k (netOf t) hn.2 (by omega) w1 hat
        rw [Hf.out] at c2
        have C2 := Lib.hid c2
        clear c2 hat hok
        go_wp2_with fail
        refine (l1In_b _ _ _ _ a1 _).mono ?_; rintro e w' ⟨rfl, rfl⟩
        go_wp2_with fail
        refine C2.out.mono ?_
        rintro e w' ⟨rfl, rfl⟩
        go_wp2_with fail
        go_ret
        exact ⟨hW1, ret_int Hr.out.symm⟩
    · have h2n : 2 ≤ (netOf t).n := by
        simp only [freeB, Bool.and_eq_true, decide_eq_true_eq] at hf; exact hf.1
      have Hf := Lib.hid hf
      cases ha3 : inI s 0 ((pw ((netOf t).n - 1) - 1 : Nat) : Int)
      · have hr : liftI t k s = -1 := by
          have : (decide (0 ≤ s) && decide (s < (pw ((netOf t).n - 1) : Nat))) = false := by
            simp only [inI, Bool.and_eq_false_iff, decide_eq_false_iff_not] at ha3
            rw [Bool.and_eq_false_iff, decide_eq_false_iff_not, decide_eq_false_iff_not]; omega
          rw [liftI, hB, this, Bool.and_false]; rfl
        have Hr := Lib.hid hr
        have Ha3 := Lib.hid ha3
        clear hr h hf hB hok0 hh ha3
        go_enter Tryd.func29, Tryd.ntmps29
        go_wp2_with fail
        refine cO.out.mono ?_
        rintro e w1 ⟨hW1, ⟨hbad, v, rfl⟩ | ⟨hok, b, cap, rfl, hb1, hb2, hat⟩⟩
        · rw [Hok.out] at hbad; cases hbad
        · have c2 := l9Free_any b cap k (netOf t) hn.2 (by omega) w1 hat
          rw [Hf.out] at c2
          have C2 := Lib.hid c2
          have c3 := Lib.hid (l3All_any (some ⟨b, 0, none⟩) (netOf t).n cap hn.2 w1)
          clear c2 hat hok
          go_wp2_with fail
          refine (l1In_b _ _ _ _ a1 _).mono ?_; rintro e w' ⟨rfl, rfl⟩
          go_wp2_with fail
          refine C2.out.mono ?_
          rintro e w' ⟨rfl, rfl⟩
          go_wp2_with fail
          refine c3.out.mono ?_
          rintro e w' ⟨rfl, rfl⟩
          go_wp2_with fail
          refine (l1In_b _ _ _ _ Ha3.out _).mono ?_; rintro e w' ⟨rfl, rfl⟩
          go_wp2_with fail
          go_ret
          exact ⟨hW1, ret_int Hr.out.symm⟩
      · have hs0 : 0 ≤ s ∧ s ≤ ((pw ((netOf t).n - 1) - 1 : Nat) : Int) := by simpa [inI] using ha3
        obtain ⟨m, rfl⟩ := Int.eq_ofNat_of_zero_le hs0.1
        have hp1 := pw_le (show (netOf t).n - 1 ≤ 5 by omega)
        have hm : m < pw ((netOf t).n - 1) := by omega
        have hr : liftI t k m = (liftN (netOf t) k m : Nat) := by
          have : (decide ((0 : Int) ≤ m) && decide ((m : Int) < (pw ((netOf t).n - 1) : Nat))) = true := by
            rw [Bool.and_eq_true, decide_eq_true_eq, decide_eq_true_eq]; omega
          rw [liftI, hB, hf, this]; rfl
        have Hr := Lib.hid hr
        have Ha3 := Lib.hid ha3
        clear hr h hf hB hok0 hh ha3 hs0
        go_enter Tryd.func29, Tryd.ntmps29
        go_wp2_with fail
        refine cO.out.mono ?_
        rintro e w1 ⟨hW1, ⟨hbad, v, rfl⟩ | ⟨hok, b, cap, rfl, hb1, hb2, hat⟩⟩
        · rw [Hok.out] at hbad; cases hbad
        · have c2 := l9Free_any b cap k (netOf t) hn.2 (by omega) w1 hat
          rw [Hf.out] at c2
          have C2 := Lib.hid c2
          have c3 := Lib.hid (l3All_any (some ⟨b, 0, none⟩) (netOf t).n cap hn.2 w1)
          have c4 := Lib.hid (l9Lift_any b cap m k (netOf t) h2n hn.2 hm (by omega) w1 hat)
          clear c2 hat hok
          go_wp2_with fail
          refine (l1In_b _ _ _ _ a1 _).mono ?_; rintro e w' ⟨rfl, rfl⟩
          go_wp2_with fail
          refine C2.out.mono ?_
          rintro e w' ⟨rfl, rfl⟩
          go_wp2_with fail
          refine c3.out.mono ?_
          rintro e w' ⟨rfl, rfl⟩
          go_wp2_with fail
          refine (l1In_b _ _ _ _ Ha3.out _).mono ?_; rintro e w' ⟨rfl, rfl⟩
          go_wp2_with fail
          refine c4.out.mono ?_
          rintro e w' ⟨rfl, rfl⟩
          go_wp2_with fail
          go_ret
          exact ⟨hW1, ret_int Hr.out.symm⟩

theorem removable_spec (t : ByteArray) (w : World) (hs : t.size ≤ 1048576) :
    Calls Tryd.prog 58 #[.string t] w fun e w' => Below w.heap.size w w' ∧ ∃ a cap, e = .returned (.slice a (remL t).length cap) ∧ IntsAt w' w.heap.size a (remL t) := by
  have c0 := Lib.hid (fun wx => l3Open_any t wx hs)
  go_enter Tryd.func58, Tryd.ntmps58
  go_wp2_with ((with_reducible show wpList _ _ _ (⟨_, .buildSlice 30 0 _, _, _, _, _⟩ :: _) _ _); refine wpList_buildSlice' rfl _ _ _ rfl rfl (int_none _) ?_)
  refine (c0.out _).mono ?_
  rintro e w1 ⟨hW1, hcase⟩
  have hW0 : Below w.heap.size w w1 := ((Below.refl _ _).alloc (Nat.le_refl _) _).trans (hW1.mono (by simp))
  have hnew : w1.ownsRow w.heap.size 3 1 (.slice (some ⟨w.heap.size, 0, none⟩) 0 0) 0 [] :=
    own_below (World.ownsRow_made w #[] 0 (Nat.le_refl _) (by unfold maxLen; omega) rfl) hW1
  have Hnew := Lib.hid hnew
  clear hnew
  rcases hcase with ⟨hbad, v, rfl⟩ | ⟨hok, b, cap, rfl, hb1, hb2, hat⟩
  · have hr : remL t = [] := by rw [remL, hbad]; rfl
    have Hr := Lib.hid hr
    clear hr hbad
    go_wp2_with fail
    go_loopw [3, 6] (fun out i wr => out = .slice (some ⟨w.heap.size, 0, none⟩) 0 0 ∧ i = .int .i64 0 ∧ wr = w1) (fun _ _ _ => 0)
    case atStart => exact ⟨rfl, rfl, rfl⟩
    case round =>
      obtain ⟨rfl, rfl, rfl⟩ := hrel
      go_wp2_with fail
      go_ret
      exact ⟨hW0, _, 0, by rw [Hr.out]; rfl, by rw [Hr.out]; exact intsAt_nil _ _ _⟩
  · have hn := netOf_ok hok
    have hr : remL t = freeL (netOf t) (netOf t).n := by rw [remL, hok]; rfl
    have Hr := Lib.hid hr
    have Hat := Lib.hid hat
    clear hr hok hat
    go_wp2_with fail
    go_loopw [3, 6] (fun out i wr => ∃ k : Nat, k ≤ (netOf t).n ∧ i = .int .i64 k ∧ wr.ownsRow w.heap.size 3 1 out (freeL (netOf t) k).length (ints (freeL (netOf t) k)) ∧ (StrsAt wr b (netTexts (netOf t)) ∧ b < wr.heap.size ∧ out.ownBlock ≠ some b) ∧ Below w.heap.size w wr) (fun _ i _ => (netOf t).n - (intOf i).toNat)
    case atStart => exact ⟨0, Nat.zero_le _, rfl, Hnew.out, ⟨Hat.out, hb2, fun e => by cases e; simp at hb1; omega⟩, hW0⟩
    case round =>
      obtain ⟨k, hk, rfl, hown, hS, hW⟩ := hrel
      have hbs := hS.2.1
      have Hown := Lib.hid hown
      have HS := Lib.hid hS
      have hlen := freeL_length (netOf t) k
      have hsz := hW.size
      clear hown hS
      by_cases hlt : k < (netOf t).n
      · have c := l9Free_any b cap k (netOf t) hn.2 hlt wr HS.out.1
        cases hf : freeB (netOf t) k
        · have hL : freeL (netOf t) (k + 1) = freeL (netOf t) k := by rw [freeL, hf]; rfl
          have HL := Lib.hid hL
          rw [hf] at c
          have C := Lib.hid c
          clear c hL hf
          go_wp2_with fail
          refine C.out.mono ?_
          rintro e w' ⟨rfl, rfl⟩
          go_wp2_with fail
          go_roundw
          case rel => exact ⟨k + 1, by omega, by go_num, by rw [HL.out]; exact Hown.out, HS.out, hW⟩
          case measure => simp [intOf] <;> omega
        · have hL : freeL (netOf t) (k + 1) = freeL (netOf t) k ++ [(k : Int)] := by rw [freeL, hf]; rfl
          have HL := Lib.hid hL
          rw [hf] at c
          have C := Lib.hid c
          clear c hL hf
          obtain ⟨wo, rfl⟩ : ∃ wo : World, wo = wr := ⟨_, rfl⟩
          go_wp2_with (first | (go_at_call 97; refine C.out.mono ?_; rintro e w' ⟨rfl, rfl⟩) | ((with_reducible show wpList _ _ _ (⟨_, .buildSlice 30 1 _, _, _, _, _⟩ :: _) _ _); refine wpList_buildSlice' rfl _ _ _ rfl rfl (int_one (k : Int) _) ?_) | (at_builtin; refine wpList_int_appendK rfl _ _ rfl w.heap.size _ (freeL (netOf t) k) rfl ((Hown.out.alloc _)) _ _ rfl (cell_new ?_) (by omega) (hW.alloc (by omega) _) ?_ ?_ ?_))
          · rfl
          · exact Nat.le_refl _
          · simp; omega
          · intro v' w3 hown3 hB3 hk3
            have hS3 : StrsAt w3 b (netTexts (netOf t)) ∧ b < w3.heap.size ∧ v'.ownBlock ≠ some b := by
              have h1 := hk3 b (by first | omega | (simp; omega)) HS.out.2.2
              refine ⟨HS.out.1.same (h1.1.trans (Below.heap_alloc _ _ _ hbs)), ?_, h1.2⟩
              have h2 : ∃ o, w3.heap[b]? = some o := by rw [h1.1, Below.heap_alloc _ _ _ hbs]; exact ⟨_, Array.getElem?_eq_getElem hbs⟩
              exact block_lt h2.choose_spec
            have hown4 : w3.ownsRow w.heap.size 3 1 v' (freeL (netOf t) (k + 1)).length (ints (freeL (netOf t) (k + 1))) := by rw [HL.out, List.length_append]; exact hown3
            have Hown3 := Lib.hid hown4
            have HB3 := Lib.hid hB3
            have HS3 := Lib.hid hS3
            clear hown3 hown4 hB3 hk3 hS3
            go_wp2_with fail
            go_roundw
            case rel => exact ⟨k + 1, by omega, by go_num, Hown3.out, HS3.out, HB3.out⟩
            case measure => simp [intOf] <;> omega
      · obtain rfl : k = (netOf t).n := by omega
        obtain ⟨a, cp, rfl, hcp, hI⟩ := intsAt_of_own Hown.out
        have hI' := Lib.hid hI
        clear hI
        go_wp2_with fail
        go_ret
        exact ⟨hW, a, cp, by rw [Hr.out]; rfl, by rw [Hr.out]; exact hI'.out⟩
end Go.Proofs.YtcddnacbjdahbaaDoor
