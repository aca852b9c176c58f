/- The reference's settling, rising and falling, least and greatest points, joins and meets. -/
import Derived.Test.YtkfagolmpbbckaaDoorSpecC
import Derived.Test.YtkfagolmpbbckaaDoorPt
import Derived.Deep.LoopGhost
namespace Go.Proofs.YtkfagolmpbbckaaDoor
open Go Go.RowKit Go.Sw
set_option maxRecDepth 100000
set_option linter.unusedVariables false

theorem l8Rest_any (b cap s : Nat) (N : Net) (hn : N.n ≤ 5) (hs : restP N 32 s) (w : World) (hat : StrsAt w b (netTexts N)) :
    Calls Tryd.prog 76 #[.slice (some ⟨b, 0, none⟩) N.n cap, .int .i64 s] w fun e w' => e = .returned (.int .i64 (limN N s)) ∧ w = w' := by
  have hp := pw_le hn
  have Hat := Lib.hid hat
  have Hs := Lib.hid hs
  have cA := Lib.hid (fun wx => l3All_any (some ⟨b, 0, none⟩) N.n cap hn wx)
  clear hat hs
  go_enter Tryd.func76, Tryd.ntmps76
  go_wp2_with fail
  go_loopg [1] 32 (fun g x wr => ∃ t : Nat, x = .int .i64 t ∧ g ≤ 32 ∧ (iterN N (32 - g) s = t ∧ restP N g t) ∧ w = wr)
  case atStart => exact ⟨s, rfl, Nat.le_refl _, ⟨rfl, Hs.out⟩, rfl⟩
  case round =>
    obtain ⟨t, rfl, hg, hst, rfl⟩ := hrel
    have ht := hst.2.1
    have hlt := stepN_lt N t
    have Hst := Lib.hid hst
    have c1 := Lib.hid (l3StepAll_any b cap t N hn ht w Hat.out)
    clear hst
    by_cases he : stepN N t = t
    · have hne : (((stepN N t : Nat) : Int) != (t : Int)) = false := by rw [he]; simp
      have hres : limN N s = t := limN_of N s t (32 - gk) (by omega) Hst.out.1 he
      have Hres := Lib.hid hres
      clear he hres
      go_wp2_with fail
      refine (cA.out _).mono ?_
      rintro e w' ⟨rfl, rfl⟩
      go_wp2_with fail
      refine c1.out.mono ?_
      rintro e w' ⟨rfl, rfl⟩
      go_wp2_with fail
      go_ret
      exact ⟨ret_int (congrArg Nat.cast Hres.out.symm), rfl⟩
    · have hne : (((stepN N t : Nat) : Int) != (t : Int)) = true := by
        simp only [bne_iff_ne, ne_eq, Int.natCast_inj]; exact he
      have hnext := restP_step Hst.out.2 he
      have hit : iterN N (32 - (gk - 1)) s = stepN N t := by
        rw [show 32 - (gk - 1) = (32 - gk) + 1 by omega, iterN_succ, Hst.out.1]
      have hg0 := hnext.1
      have Hnext := Lib.hid hnext
      have Hit := Lib.hid hit
      clear he hnext hit
      go_wp2_with fail
      refine (cA.out _).mono ?_
      rintro e w' ⟨rfl, rfl⟩
      go_wp2_with fail
      refine c1.out.mono ?_
      rintro e w' ⟨rfl, rfl⟩
      go_wp2_with fail
      refine (cA.out _).mono ?_
      rintro e w' ⟨rfl, rfl⟩
      go_wp2_with fail
      refine c1.out.mono ?_
      rintro e w' ⟨rfl, rfl⟩
      go_wp2_with fail
      go_roundg (gk - 1)
      case measure => omega
      case rel => exact ⟨stepN N t, rfl, by omega, ⟨Hit.out, Hnext.out.2⟩, rfl⟩

theorem riseFrom_spec (s : ByteArray) (x : Int) (w : World) (hs : s.size ≤ 1048576) :
    Calls Tryd.prog 34 #[.string s, .int .i64 x] w fun e w' => Below w.heap.size w w' ∧ e = .returned (.int .i64 (riseI s x)) := by
  have cM := fun wx => isMonotone_spec s wx hs
  have cR := fun wx => isRising_spec s x wx hs
  cases hm : monoB s
  · have hr : riseI s x = -1 := by rw [riseI, hm]; rfl
    rw [hm] at cM
    have Hr := Lib.hid hr
    have CM := Lib.hid cM
    clear hr cM cR hm
    go_enter Tryd.func34, Tryd.ntmps34
    go_wp2_with fail
    refine (l3Open_any s w hs).mono ?_
    rintro e w1 ⟨hW1, ⟨hbad, v, rfl⟩ | ⟨hok, b, cap, rfl, hb1, hb2, hat⟩⟩
    · clear hbad
      go_wp2_with fail
      refine (CM.out _).mono ?_
      rintro e w2 ⟨hW2, rfl⟩
      go_wp2_with fail
      go_ret
      exact ⟨hW1.trans (hW2.mono hW1.size), ret_int Hr.out.symm⟩
    · clear hok hat
      go_wp2_with fail
      refine (CM.out _).mono ?_
      rintro e w2 ⟨hW2, rfl⟩
      go_wp2_with fail
      go_ret
      exact ⟨hW1.trans (hW2.mono hW1.size), ret_int Hr.out.symm⟩
  · have hok0 : netOk s = true := by simp only [monoB, Bool.and_eq_true] at hm; exact hm.1
    have hmN : monoN (netOf s) = true := by simp only [monoB, Bool.and_eq_true] at hm; exact hm.2
    have hn := (netOf_ok hok0).2
    rw [hm] at cM
    have CM := Lib.hid cM
    have Hok := Lib.hid hok0
    cases hb : riseB s x
    · have hr : riseI s x = -1 := by rw [riseI, hb, Bool.and_false]; rfl
      rw [hb] at cR
      have Hr := Lib.hid hr
      have CR := Lib.hid cR
      clear hr cM cR hm hmN hok0 hb
      go_enter Tryd.func34, Tryd.ntmps34
      go_wp2_with fail
      refine (l3Open_any s w hs).mono ?_
      rintro e w1 ⟨hW1, ⟨hbad, v, rfl⟩ | ⟨hok, b, cap, rfl, hb1, hb2, hat⟩⟩
      · rw [Hok.out] at hbad; cases hbad
      · clear hok hat
        go_wp2_with fail
        refine (CM.out _).mono ?_
        rintro e w2 ⟨hW2, rfl⟩
        go_wp2_with fail
        refine (CR.out _).mono ?_
        rintro e w3 ⟨hW3, rfl⟩
        go_wp2_with fail
        go_ret
        have hW12 := hW1.trans (hW2.mono hW1.size)
        exact ⟨hW12.trans (hW3.mono hW12.size), ret_int Hr.out.symm⟩
    · have hst := stB_yes (x := x) (w := s) (by simp only [riseB, Bool.and_eq_true] at hb; exact hb.1)
      obtain ⟨m, rfl⟩ := Int.eq_ofNat_of_zero_le hst.2.1
      have hr : riseI s m = (limN (netOf s) m : Nat) := by rw [riseI, hb, hm]; rfl
      have HP := Lib.hid (rise_rest hmN hn (riseB_P hb))
      rw [hb] at cR
      have Hr := Lib.hid hr
      have CR := Lib.hid cR
      clear hr cM cR hm hmN hok0 hb hst
      go_enter Tryd.func34, Tryd.ntmps34
      go_wp2_with fail
      refine (l3Open_any s w hs).mono ?_
      rintro e w1 ⟨hW1, ⟨hbad, v, rfl⟩ | ⟨hok, b, cap, rfl, hb1, hb2, hat⟩⟩
      · rw [Hok.out] at hbad; cases hbad
      · have Hat := Lib.hid hat
        clear hok hat
        go_wp2_with fail
        refine (CM.out _).mono ?_
        rintro e w2 ⟨hW2, rfl⟩
        go_wp2_with fail
        refine (CR.out _).mono ?_
        rintro e w3 ⟨hW3, rfl⟩
        have hB3 := hW2.trans (hW3.mono hW2.size)
        have c4 := Lib.hid (l8Rest_any b cap m (netOf s) hn HP.out w3 (Hat.out.below hB3 hb2))
        go_wp2_with fail
        refine c4.out.mono ?_
        rintro e w4 ⟨rfl, rfl⟩
        go_wp2_with fail
        go_ret
        exact ⟨hW1.trans (hB3.mono hW1.size), ret_int Hr.out.symm⟩

theorem fallFrom_spec (s : ByteArray) (x : Int) (w : World) (hs : s.size ≤ 1048576) :
    Calls Tryd.prog 21 #[.string s, .int .i64 x] w fun e w' => Below w.heap.size w w' ∧ e = .returned (.int .i64 (fallI s x)) := by
  have cM := fun wx => isMonotone_spec s wx hs
  have cR := fun wx => isFalling_spec s x wx hs
  cases hm : monoB s
  · have hr : fallI s x = -1 := by rw [fallI, hm]; rfl
    rw [hm] at cM
    have Hr := Lib.hid hr
    have CM := Lib.hid cM
    clear hr cM cR hm
    go_enter Tryd.func21, Tryd.ntmps21
    go_wp2_with fail
    refine (l3Open_any s w hs).mono ?_
    rintro e w1 ⟨hW1, ⟨hbad, v, rfl⟩ | ⟨hok, b, cap, rfl, hb1, hb2, hat⟩⟩
    · clear hbad
      go_wp2_with fail
      refine (CM.out _).mono ?_
      rintro e w2 ⟨hW2, rfl⟩
      go_wp2_with fail
      go_ret
      exact ⟨hW1.trans (hW2.mono hW1.size), ret_int Hr.out.symm⟩
    · clear hok hat
      go_wp2_with fail
      refine (CM.out _).mono ?_
      rintro e w2 ⟨hW2, rfl⟩
      go_wp2_with fail
      go_ret
      exact ⟨hW1.trans (hW2.mono hW1.size), ret_int Hr.out.symm⟩
  · have hok0 : netOk s = true := by simp only [monoB, Bool.and_eq_true] at hm; exact hm.1
    have hmN : monoN (netOf s) = true := by simp only [monoB, Bool.and_eq_true] at hm; exact hm.2
    have hn := (netOf_ok hok0).2
    rw [hm] at cM
    have CM := Lib.hid cM
    have Hok := Lib.hid hok0
    cases hb : fallB s x
    · have hr : fallI s x = -1 := by rw [fallI, hb, Bool.and_false]; rfl
      rw [hb] at cR
      have Hr := Lib.hid hr
      have CR := Lib.hid cR
      clear hr cM cR hm hmN hok0 hb
      go_enter Tryd.func21, Tryd.ntmps21
      go_wp2_with fail
      refine (l3Open_any s w hs).mono ?_
      rintro e w1 ⟨hW1, ⟨hbad, v, rfl⟩ | ⟨hok, b, cap, rfl, hb1, hb2, hat⟩⟩
      · rw [Hok.out] at hbad; cases hbad
      · clear hok hat
        go_wp2_with fail
        refine (CM.out _).mono ?_
        rintro e w2 ⟨hW2, rfl⟩
        go_wp2_with fail
        refine (CR.out _).mono ?_
        rintro e w3 ⟨hW3, rfl⟩
        go_wp2_with fail
        go_ret
        have hW12 := hW1.trans (hW2.mono hW1.size)
        exact ⟨hW12.trans (hW3.mono hW12.size), ret_int Hr.out.symm⟩
    · have hst := stB_yes (x := x) (w := s) (by simp only [fallB, Bool.and_eq_true] at hb; exact hb.1)
      obtain ⟨m, rfl⟩ := Int.eq_ofNat_of_zero_le hst.2.1
      have hr : fallI s m = (limN (netOf s) m : Nat) := by rw [fallI, hb, hm]; rfl
      have HP := Lib.hid (fall_rest hmN hn (fallB_P hb))
      rw [hb] at cR
      have Hr := Lib.hid hr
      have CR := Lib.hid cR
      clear hr cM cR hm hmN hok0 hb hst
      go_enter Tryd.func21, Tryd.ntmps21
      go_wp2_with fail
      refine (l3Open_any s w hs).mono ?_
      rintro e w1 ⟨hW1, ⟨hbad, v, rfl⟩ | ⟨hok, b, cap, rfl, hb1, hb2, hat⟩⟩
      · rw [Hok.out] at hbad; cases hbad
      · have Hat := Lib.hid hat
        clear hok hat
        go_wp2_with fail
        refine (CM.out _).mono ?_
        rintro e w2 ⟨hW2, rfl⟩
        go_wp2_with fail
        refine (CR.out _).mono ?_
        rintro e w3 ⟨hW3, rfl⟩
        have hB3 := hW2.trans (hW3.mono hW2.size)
        have c4 := Lib.hid (l8Rest_any b cap m (netOf s) hn HP.out w3 (Hat.out.below hB3 hb2))
        go_wp2_with fail
        refine c4.out.mono ?_
        rintro e w4 ⟨rfl, rfl⟩
        go_wp2_with fail
        go_ret
        exact ⟨hW1.trans (hB3.mono hW1.size), ret_int Hr.out.symm⟩

theorem leastPoint_spec (s : ByteArray) (w : World) (hs : s.size ≤ 1048576) :
    Calls Tryd.prog 28 #[.string s] w fun e w' => Below w.heap.size w w' ∧ e = .returned (.int .i64 (riseI s 0)) := by
  have C := Lib.hid (riseFrom_spec s 0 w hs)
  go_enter Tryd.func28, Tryd.ntmps28
  go_wp2_with fail
  refine C.out.mono ?_
  rintro e w1 ⟨hW1, rfl⟩
  go_wp2_with fail
  go_ret
  exact ⟨hW1, rfl⟩

theorem greatestPoint_spec (s : ByteArray) (w : World) (hs : s.size ≤ 1048576) :
    Calls Tryd.prog 29 #[.string s] w fun e w' => Below w.heap.size w w' ∧ e = .returned (.int .i64 (greatI s)) := by
  go_enter Tryd.func29, Tryd.ntmps29
  go_wp2_with fail
  refine (l3Open_any s w hs).mono ?_
  rintro e w1 ⟨hW1, ⟨hbad, v, rfl⟩ | ⟨hok, b, cap, rfl, hb1, hb2, hat⟩⟩
  · have hr : greatI s = fallI s ((pw 0 - 1 : Nat)) := by rw [greatI, hbad, if_neg (by decide), fallI, monoB, hbad, Bool.false_and, Bool.false_and, if_neg (by decide)]
    have Hr := Lib.hid hr
    have C := Lib.hid (fun wx => fallFrom_spec s ((pw 0 - 1 : Nat)) wx hs)
    have c1 := Lib.hid (fun wx => l3All_any v 0 0 (by omega) wx)
    clear hr hbad
    go_wp2_with fail
    refine (c1.out _).mono ?_
    rintro e w' ⟨rfl, rfl⟩
    go_wp2_with fail
    refine (C.out _).mono ?_
    rintro e w2 ⟨hW2, rfl⟩
    go_wp2_with fail
    go_ret
    exact ⟨hW1.trans (hW2.mono hW1.size), ret_int Hr.out.symm⟩
  · have hn := (netOf_ok hok).2
    have hp := pw_le hn
    have hr : greatI s = fallI s ((pw (netOf s).n - 1 : Nat)) := by rw [greatI, hok, if_pos rfl]
    have Hr := Lib.hid hr
    have C := Lib.hid (fun wx => fallFrom_spec s ((pw (netOf s).n - 1 : Nat)) wx hs)
    have c1 := Lib.hid (fun wx => l3All_any (some ⟨b, 0, none⟩) (netOf s).n cap hn wx)
    clear hr hat hok
    go_wp2_with fail
    refine (c1.out _).mono ?_
    rintro e w' ⟨rfl, rfl⟩
    go_wp2_with fail
    refine (C.out _).mono ?_
    rintro e w2 ⟨hW2, rfl⟩
    go_wp2_with fail
    go_ret
    exact ⟨hW1.trans (hW2.mono hW1.size), ret_int Hr.out.symm⟩

theorem l8Points_any (s : ByteArray) (x y : Int) (w : World) (hs : s.size ≤ 1048576) :
    Calls Tryd.prog 66 #[.string s, .int .i64 x, .int .i64 y] w fun e w' => Below w.heap.size w w' ∧ e = .returned (.bool (monoB s && bothB s x y)) := by
  have cM := fun wx => isMonotone_spec s wx hs
  have c1 := Lib.hid (fun wx => restless_any s x wx hs)
  have c2 := Lib.hid (fun wx => restless_any s y wx hs)
  cases hm : monoB s
  · rw [hm] at cM
    rw [Bool.false_and]
    have CM := Lib.hid cM
    clear cM hm
    go_enter Tryd.func66, Tryd.ntmps66
    go_wp2_with fail
    refine (CM.out _).mono ?_
    rintro e w1 ⟨hW1, rfl⟩
    go_wp2_with fail
    go_ret
    exact ⟨hW1, rfl⟩
  · rw [hm] at cM
    rw [Bool.true_and]
    have CM := Lib.hid cM
    clear cM hm
    cases h1 : restI s x == 0
    · have hr : bothB s x y = false := by rw [bothB, h1]; rfl
      have Hr := Lib.hid hr
      clear hr
      go_enter Tryd.func66, Tryd.ntmps66
      go_wp2_with fail
      refine (CM.out _).mono ?_
      rintro e w1 ⟨hW1, rfl⟩
      go_wp2_with fail
      refine (c1.out _).mono ?_
      rintro e w2 ⟨hW2, rfl⟩
      go_wp2_with fail
      go_ret
      exact ⟨hW1.trans (hW2.mono hW1.size), by rw [Hr.out]; rfl⟩
    · have hr : bothB s x y = (restI s y == 0) := by rw [bothB, h1]; rfl
      have Hr := Lib.hid hr
      clear hr
      go_enter Tryd.func66, Tryd.ntmps66
      go_wp2_with fail
      refine (CM.out _).mono ?_
      rintro e w1 ⟨hW1, rfl⟩
      go_wp2_with fail
      refine (c1.out _).mono ?_
      rintro e w2 ⟨hW2, rfl⟩
      go_wp2_with fail
      refine (c2.out _).mono ?_
      rintro e w3 ⟨hW3, rfl⟩
      go_wp2_with fail
      go_ret
      have hW12 := hW1.trans (hW2.mono hW1.size)
      exact ⟨hW12.trans (hW3.mono hW12.size), by rw [Hr.out]; rfl⟩

theorem joinPoints_spec (s : ByteArray) (x y : Int) (w : World) (hs : s.size ≤ 1048576) :
    Calls Tryd.prog 14 #[.string s, .int .i64 x, .int .i64 y] w fun e w' => Below w.heap.size w w' ∧ e = .returned (.int .i64 (joinI s x y)) := by
  have c1 := l8Points_any s x y w hs
  cases h1 : monoB s && bothB s x y
  · have hr : joinI s x y = -1 := by
      rw [Bool.and_eq_false_iff] at h1
      unfold joinI
      split
      · rename_i hb
        rcases h1 with h1 | h1
        · unfold riseI; rw [h1, Bool.false_and]; rfl
        · rw [hb] at h1; cases h1
      · rfl
    rw [h1] at c1
    have Hr := Lib.hid hr
    have C1 := Lib.hid c1
    clear hr c1 h1
    go_enter Tryd.func14, Tryd.ntmps14
    go_wp2_with fail
    refine C1.out.mono ?_
    rintro e w1 ⟨hW1, rfl⟩
    go_wp2_with fail
    go_ret
    exact ⟨hW1, ret_int Hr.out.symm⟩
  · rw [h1] at c1
    have h0 : bothB s x y = true := by rw [Bool.and_eq_true] at h1; exact h1.2
    have h2 := h0
    simp only [bothB, Bool.and_eq_true, beq_iff_eq] at h2
    have hx := stB_yes (rest_zero h2.1)
    have hy := stB_yes (rest_zero h2.2)
    have hn := (netOf_ok hx.1).2
    have hp := pw_le hn
    obtain ⟨a, rfl⟩ := Int.eq_ofNat_of_zero_le hx.2.1
    obtain ⟨b, rfl⟩ := Int.eq_ofNat_of_zero_le hy.2.1
    have hr : joinI s a b = riseI s ((a ||| b : Nat)) := by rw [joinI, h0]; rfl
    have hor := i64_or a b (by omega) (by omega)
    have Hr := Lib.hid hr
    have C1 := Lib.hid c1
    have C2 := Lib.hid (fun wx => riseFrom_spec s ((a ||| b : Nat)) wx hs)
    have hx1 := hx.2.2
    have hy1 := hy.2.2
    clear hr c1 h1 h0 h2 hx hy
    go_enter Tryd.func14, Tryd.ntmps14
    go_wp2_with fail
    refine C1.out.mono ?_
    rintro e w1 ⟨hW1, rfl⟩
    go_wp2_with fail
    refine (C2.out _).mono ?_
    rintro e w2 ⟨hW2, rfl⟩
    go_wp2_with fail
    go_ret
    exact ⟨hW1.trans (hW2.mono hW1.size), ret_int Hr.out.symm⟩

theorem meetPoints_spec (s : ByteArray) (x y : Int) (w : World) (hs : s.size ≤ 1048576) :
    Calls Tryd.prog 15 #[.string s, .int .i64 x, .int .i64 y] w fun e w' => Below w.heap.size w w' ∧ e = .returned (.int .i64 (meetI s x y)) := by
  have c1 := l8Points_any s x y w hs
  cases h1 : monoB s && bothB s x y
  · have hr : meetI s x y = -1 := by
      rw [Bool.and_eq_false_iff] at h1
      unfold meetI
      split
      · rename_i hb
        rcases h1 with h1 | h1
        · unfold fallI; rw [h1, Bool.false_and]; rfl
        · rw [hb] at h1; cases h1
      · rfl
    rw [h1] at c1
    have Hr := Lib.hid hr
    have C1 := Lib.hid c1
    clear hr c1 h1
    go_enter Tryd.func15, Tryd.ntmps15
    go_wp2_with fail
    refine C1.out.mono ?_
    rintro e w1 ⟨hW1, rfl⟩
    go_wp2_with fail
    go_ret
    exact ⟨hW1, ret_int Hr.out.symm⟩
  · rw [h1] at c1
    have h0 : bothB s x y = true := by rw [Bool.and_eq_true] at h1; exact h1.2
    have h2 := h0
    simp only [bothB, Bool.and_eq_true, beq_iff_eq] at h2
    have hx := stB_yes (rest_zero h2.1)
    have hy := stB_yes (rest_zero h2.2)
    have hn := (netOf_ok hx.1).2
    have hp := pw_le hn
    obtain ⟨a, rfl⟩ := Int.eq_ofNat_of_zero_le hx.2.1
    obtain ⟨b, rfl⟩ := Int.eq_ofNat_of_zero_le hy.2.1
    have hr : meetI s a b = fallI s ((a &&& b : Nat)) := by rw [meetI, h0]; rfl
    have hor := i64_and a b (by omega) (by omega)
    have Hr := Lib.hid hr
    have C1 := Lib.hid c1
    have C2 := Lib.hid (fun wx => fallFrom_spec s ((a &&& b : Nat)) wx hs)
    have hx1 := hx.2.2
    have hy1 := hy.2.2
    clear hr c1 h1 h0 h2 hx hy
    go_enter Tryd.func15, Tryd.ntmps15
    go_wp2_with fail
    refine C1.out.mono ?_
    rintro e w1 ⟨hW1, rfl⟩
    go_wp2_with fail
    refine (C2.out _).mono ?_
    rintro e w2 ⟨hW2, rfl⟩
    go_wp2_with fail
    go_ret
    exact ⟨hW1.trans (hW2.mono hW1.size), ret_int Hr.out.symm⟩
end Go.Proofs.YtkfagolmpbbckaaDoor
