/- The program's settling, rising and falling, least and greatest points, joins and meets. -/
import Derived.Test.YtkfagolmpbbckaaDoorImplA
import Derived.Test.YtkfagolmpbbckaaDoorPt
import Derived.Deep.LoopGhost
namespace Go.Proofs.YtkfagolmpbbckaaDoor
open Go Go.RowKit Go.Sw
set_option maxRecDepth 100000
set_option linter.unusedVariables false

theorem settle_any (b cap s : Nat) (N : Net) (hn : N.n ≤ 5) (hs : restP N 32 s) (w : World) (hat : NetAt w b N.n N.f) (hb : b < w.heap.size) :
    Calls Tryd.prog 121 #[.slice (some ⟨b, 0, none⟩) N.n cap, .int .i64 s] w fun e w' => e = .returned (.int .i64 (limN N s)) ∧ Below w.heap.size w w' := by
  have hp := pw_le hn
  have Hat := Lib.hid hat
  have Hs := Lib.hid hs
  clear hat hs
  go_enter Tryd.func121, Tryd.ntmps121
  go_wp2_with fail
  go_loopg [1] 32 (fun g x wr => ∃ t : Nat, x = .int .i64 t ∧ g ≤ 32 ∧ (iterN N (32 - g) s = t ∧ restP N g t) ∧ Below w.heap.size w wr)
  case atStart => exact ⟨s, rfl, Nat.le_refl _, ⟨rfl, Hs.out⟩, Below.refl _ _⟩
  case round =>
    obtain ⟨t, rfl, hg, hst, hW⟩ := hrel
    have ht := hst.2.1
    have hlt := stepN_lt N t
    have Hst := Lib.hid hst
    have c1 := Lib.hid (step_any b cap t N hn ht wr (Hat.out.below hW hb) (Nat.lt_of_lt_of_le hb hW.size))
    clear hst
    by_cases he : stepN N t = t
    · have hne : (((stepN N t : Nat) : Int) != (t : Int)) = false := by rw [he]; simp
      have hres : limN N s = t := limN_of N s t (32 - gk) (by omega) Hst.out.1 he
      have Hres := Lib.hid hres
      clear he hres
      go_wp2_with fail
      refine c1.out.mono ?_
      rintro e w1 ⟨rfl, hW1⟩
      go_wp2_with fail
      go_ret
      exact ⟨ret_int (congrArg Nat.cast Hres.out.symm), hW.trans (hW1.mono hW.size)⟩
    · have hne : (((stepN N t : Nat) : Int) != (t : Int)) = true := by
        simp only [bne_iff_ne, ne_eq, Int.natCast_inj]; exact he
      have hnext := restP_step Hst.out.2 he
      have hit : iterN N (32 - (gk - 1)) s = stepN N t := by
        rw [show 32 - (gk - 1) = (32 - gk) + 1 by omega, iterN_succ, Hst.out.1]
      have hg0 := hnext.1
      have Hnext := Lib.hid hnext
      have Hit := Lib.hid hit
      clear he hnext hit
      go_wp2_with fail
      refine c1.out.mono ?_
      rintro e w1 ⟨rfl, hW1⟩
      have hW2 := hW.trans (hW1.mono hW.size)
      have c2 := Lib.hid (step_any b cap t N hn ht w1 (Hat.out.below hW2 hb) (Nat.lt_of_lt_of_le hb hW2.size))
      go_wp2_with fail
      refine c2.out.mono ?_
      rintro e w2 ⟨rfl, hW3⟩
      go_wp2_with fail
      go_roundg (gk - 1)
      case measure => omega
      case rel => exact ⟨stepN N t, rfl, by omega, ⟨Hit.out, Hnext.out.2⟩, hW2.trans (hW3.mono hW2.size)⟩


/-- settling what a function asks for -/
theorem from_any (s : ByteArray) (x : Int) (k : Nat) (cap : Array Value) (may : Bool) (w : World) (hs : s.size ≤ 1048576)
    (hk : ∀ args w, (callFunc k args).run Tryd.prog w = .ok (.enter k args) w)
    (hcl : ∀ wx : World, Calls Tryd.prog k (#[.string s, .int .i64 x] ++ cap) wx fun e w' => Below wx.heap.size wx w' ∧ e = .returned (.bool may))
    (hmay : may = true → ∃ m : Nat, x = m ∧ (monoN (netOf s) = true → restP (netOf s) 32 m)) (hst : may = true → stB s x = true) :
    Calls Tryd.prog 72 #[.string s, .int .i64 x, .func (.func k) #[] cap] w fun e w' => Below w.heap.size w w' ∧ e = .returned (.int .i64 (if monoB s && may then (limN (netOf s) x.toNat : Nat) else -1)) := by
  have Hcl := Lib.hid hcl
  have Hmay := Lib.hid hmay
  have Hst := Lib.hid hst
  clear hcl hmay hst
  cases h : stB s x
  · have hr : (if monoB s && may then ((limN (netOf s) x.toNat : Nat) : Int) else -1) = -1 := by
      cases hm : may
      · simp
      · rw [Hst.out hm] at h; cases h
    rw [hr]
    clear hr
    have c := Lib.hid (stateOf_no s x w hs h)
    clear h
    go_enter Tryd.func72, Tryd.ntmps72
    go_wp2_with fail
    refine c.out.mono ?_
    rintro e w1 ⟨hW1, v, rfl⟩
    go_wp2_with fail
    go_ret
    exact ⟨hW1, rfl⟩
  · obtain ⟨h1, h2, h3⟩ := stB_yes h
    have hn := (netOf_ok h1).2
    obtain ⟨m, rfl⟩ := Int.eq_ofNat_of_zero_le h2
    have c := Lib.hid (stateOf_yes s m w hs h)
    have hB : monoB s = monoN (netOf s) := by rw [monoB, h1]; rfl
    rw [hB, Int.toNat_natCast]
    clear h h1 hB
    cases hmo : monoN (netOf s)
    · rw [Bool.false_and, if_neg (by decide)]
      have Hmo := Lib.hid hmo
      clear hmo
      go_enter Tryd.func72, Tryd.ntmps72
      go_wp2_with fail
      refine c.out.mono ?_
      rintro e w1 ⟨hW1, b, cp, rfl, hb1, hb2, hat⟩
      have c2 := monotone_any b cp (netOf s) hn w1 hat hb2
      rw [Hmo.out] at c2
      have C2 := Lib.hid c2
      clear c2 hat
      go_wp2_with fail
      refine C2.out.mono ?_
      rintro e w2 ⟨rfl, hW2⟩
      go_wp2_with fail
      go_ret
      exact ⟨hW1.trans (hW2.mono hW1.size), rfl⟩
    · have Hmo := Lib.hid hmo
      rw [Bool.true_and]
      clear hmo
      cases hm : may
      · rw [if_neg (by decide)]
        have cl := Hcl.out
        rw [hm] at cl
        have Cl := Lib.hid cl
        clear cl hm
        go_enter Tryd.func72, Tryd.ntmps72
        go_wp2_with fail
        refine c.out.mono ?_
        rintro e w1 ⟨hW1, b, cp, rfl, hb1, hb2, hat⟩
        have c2 := monotone_any b cp (netOf s) hn w1 hat hb2
        rw [Hmo.out] at c2
        have C2 := Lib.hid c2
        clear c2 hat
        go_wp2_with fail
        refine C2.out.mono ?_
        rintro e w2 ⟨rfl, hW2⟩
        go_wp2_with fail
        refine (Cl.out _).mono ?_
        rintro e w3 ⟨hW3, rfl⟩
        go_wp2_with fail
        go_ret
        have hW12 := hW1.trans (hW2.mono hW1.size)
        exact ⟨hW12.trans (hW3.mono hW12.size), rfl⟩
      · rw [if_pos rfl]
        have hP : restP (netOf s) 32 m := by
          obtain ⟨m', e, hp⟩ := Hmay.out hm
          obtain rfl : m = m' := by omega
          exact hp Hmo.out
        have HP := Lib.hid hP
        have cl := Hcl.out
        rw [hm] at cl
        have Cl := Lib.hid cl
        clear cl hm hP
        go_enter Tryd.func72, Tryd.ntmps72
        go_wp2_with fail
        refine c.out.mono ?_
        rintro e w1 ⟨hW1, b, cp, rfl, hb1, hb2, hat⟩
        have c2 := monotone_any b cp (netOf s) hn w1 hat hb2
        rw [Hmo.out] at c2
        have C2 := Lib.hid c2
        have Hat := Lib.hid hat
        clear c2 hat
        go_wp2_with fail
        refine C2.out.mono ?_
        rintro e w2 ⟨rfl, hW2⟩
        go_wp2_with fail
        refine (Cl.out _).mono ?_
        rintro e w3 ⟨hW3, rfl⟩
        have hB3 := hW2.trans (hW3.mono hW2.size)
        have c4 := Lib.hid (settle_any b cp m (netOf s) hn HP.out w3 (Hat.out.below hB3 hb2) (Nat.lt_of_lt_of_le hb2 hB3.size))
        go_wp2_with fail
        refine c4.out.mono ?_
        rintro e w4 ⟨rfl, hW4⟩
        go_wp2_with fail
        go_ret
        have hW13 := hW1.trans (hB3.mono hW1.size)
        exact ⟨hW13.trans (hW4.mono hW13.size), rfl⟩


theorem riseFrom_impl (s : ByteArray) (x : Int) (w : World) (hs : s.size ≤ 1048576) :
    Calls Tryd.prog 32 #[.string s, .int .i64 x] w fun e w' => Below w.heap.size w w' ∧ e = .returned (.int .i64 (riseI s x)) := by
  have c := from_any s x 33 #[] (riseB s x) w hs (enters_fn Tryd.func33 (by kernel_rfl) rfl) (fun wx => isRising_impl s x wx hs)
    (fun h => by
      have h1 := (stB_yes (x := x) (w := s) (by simp only [riseB, Bool.and_eq_true] at h; exact h.1))
      obtain ⟨m, rfl⟩ := Int.eq_ofNat_of_zero_le h1.2.1
      exact ⟨m, rfl, fun hm => rise_rest hm (netOf_ok h1.1).2 (riseB_P h)⟩)
    (fun h => by simp only [riseB, Bool.and_eq_true] at h; exact h.1)
  have C : Calls Tryd.prog 72 #[.string s, .int .i64 x, .func (.func 33) #[] #[]] w fun e w' => Below w.heap.size w w' ∧ e = .returned (.int .i64 (riseI s x)) := c
  have CC := Lib.hid C
  clear c C
  go_enter Tryd.func32, Tryd.ntmps32
  go_wp2_with fail
  refine CC.out.mono ?_
  rintro e w1 ⟨hW1, rfl⟩
  go_wp2_with fail
  go_ret
  exact ⟨hW1, rfl⟩

theorem fallFrom_impl (s : ByteArray) (x : Int) (w : World) (hs : s.size ≤ 1048576) :
    Calls Tryd.prog 19 #[.string s, .int .i64 x] w fun e w' => Below w.heap.size w w' ∧ e = .returned (.int .i64 (fallI s x)) := by
  have c := from_any s x 20 #[] (fallB s x) w hs (enters_fn Tryd.func20 (by kernel_rfl) rfl) (fun wx => isFalling_impl s x wx hs)
    (fun h => by
      have h1 := (stB_yes (x := x) (w := s) (by simp only [fallB, Bool.and_eq_true] at h; exact h.1))
      obtain ⟨m, rfl⟩ := Int.eq_ofNat_of_zero_le h1.2.1
      exact ⟨m, rfl, fun hm => fall_rest hm (netOf_ok h1.1).2 (fallB_P h)⟩)
    (fun h => by simp only [fallB, Bool.and_eq_true] at h; exact h.1)
  have C : Calls Tryd.prog 72 #[.string s, .int .i64 x, .func (.func 20) #[] #[]] w fun e w' => Below w.heap.size w w' ∧ e = .returned (.int .i64 (fallI s x)) := c
  have CC := Lib.hid C
  clear c C
  go_enter Tryd.func19, Tryd.ntmps19
  go_wp2_with fail
  refine CC.out.mono ?_
  rintro e w1 ⟨hW1, rfl⟩
  go_wp2_with fail
  go_ret
  exact ⟨hW1, rfl⟩

theorem leastPoint_impl (s : ByteArray) (w : World) (hs : s.size ≤ 1048576) :
    Calls Tryd.prog 26 #[.string s] w fun e w' => Below w.heap.size w w' ∧ e = .returned (.int .i64 (riseI s 0)) := by
  have C := Lib.hid (riseFrom_impl s 0 w hs)
  go_enter Tryd.func26, Tryd.ntmps26
  go_wp2_with fail
  refine C.out.mono ?_
  rintro e w1 ⟨hW1, rfl⟩
  go_wp2_with fail
  go_ret
  exact ⟨hW1, rfl⟩

theorem greatestPoint_impl (s : ByteArray) (w : World) (hs : s.size ≤ 1048576) :
    Calls Tryd.prog 27 #[.string s] w fun e w' => Below w.heap.size w w' ∧ e = .returned (.int .i64 (greatI s)) := by
  go_enter Tryd.func27, Tryd.ntmps27
  go_wp2_with fail
  refine (readNetwork_any s w hs).mono ?_
  rintro e w1 ⟨hW1, ⟨hbad, rfl⟩ | ⟨hok, b, cap, rfl, hb1, hb2, hat⟩⟩
  · have hr : greatI s = -1 := by rw [greatI, hbad]; rfl
    have Hr := Lib.hid hr
    clear hr hbad
    go_wp2_with fail
    go_ret
    exact ⟨hW1, ret_int Hr.out.symm⟩
  · have hn := (netOf_ok hok).2
    have hp := pw_le hn
    have hr : greatI s = fallI s ((pw (netOf s).n : Int) - 1) := by
      rw [greatI, hok, if_pos rfl, show (((pw (netOf s).n - 1 : Nat)) : Int) = (pw (netOf s).n : Int) - 1 by omega]
    have Hr := Lib.hid hr
    have C := Lib.hid (fun wx => fallFrom_impl s ((pw (netOf s).n : Int) - 1) wx hs)
    have c1 := Lib.hid (fun wx => states_any (some ⟨b, 0, none⟩) (netOf s).n cap hn wx)
    clear hr hat hok
    go_wp2_with fail
    refine (c1.out _).mono ?_
    rintro e w' ⟨rfl, rfl⟩
    go_wp2_with fail
    refine (C.out _).mono ?_
    rintro e w2 ⟨hW2, rfl⟩
    go_wp2_with fail
    go_ret
    exact ⟨hW1.trans (hW2.mono hW1.size), ret_int Hr.out.symm⟩

theorem restless_impl (s : ByteArray) (x : Int) (w : World) (hs : s.size ≤ 1048576) :
    Calls Tryd.prog 17 #[.string s, .int .i64 x] w fun e w' => Below w.heap.size w w' ∧ e = .returned (.int .i64 (restI s x)) := by
  cases h : stB s x
  · have hr : restI s x = -1 := by rw [restI, h]; rfl
    have Hr := Lib.hid hr
    have c := Lib.hid (stateOf_no s x w hs h)
    clear hr h
    go_enter Tryd.func17, Tryd.ntmps17
    go_wp2_with fail
    refine c.out.mono ?_
    rintro e w1 ⟨hW1, v, rfl⟩
    go_wp2_with fail
    go_ret
    exact ⟨hW1, ret_int Hr.out.symm⟩
  · obtain ⟨h1, h2, h3⟩ := stB_yes h
    have hn := (netOf_ok h1).2
    have h4 := pw_le hn
    obtain ⟨k, rfl⟩ := Int.eq_ofNat_of_zero_le h2
    have hr : restI s k = (stepN (netOf s) k ^^^ k : Nat) := by rw [restI, h]; rfl
    have hx := i64_xor (stepN (netOf s) k) k (by have := stepN_lt (netOf s) k; omega) (by omega)
    have Hr := Lib.hid hr
    have c := Lib.hid (stateOf_yes s k w hs h)
    clear hr h h1
    go_enter Tryd.func17, Tryd.ntmps17
    go_wp2_with fail
    refine c.out.mono ?_
    rintro e w1 ⟨hW1, b, cap, rfl, hb1, hb2, hat⟩
    have c2 := Lib.hid (step_any b cap k (netOf s) hn (by omega) w1 hat hb2)
    clear hat
    go_wp2_with fail
    refine c2.out.mono ?_
    rintro e w2 ⟨rfl, hW2⟩
    go_wp2_with fail
    go_ret
    exact ⟨hW1.trans (hW2.mono hW1.size), ret_int Hr.out.symm⟩

theorem bothFixed_any (s : ByteArray) (x y : Int) (w : World) (hs : s.size ≤ 1048576) :
    Calls Tryd.prog 65 #[.string s, .int .i64 x, .int .i64 y] w fun e w' => Below w.heap.size w w' ∧ e = .returned (.bool (bothB s x y)) := by
  have c1 := Lib.hid (restless_impl s x w hs)
  have c2 := Lib.hid (fun wx => restless_impl s y wx hs)
  cases h1 : restI s x == 0
  · have hr : bothB s x y = false := by rw [bothB, h1]; rfl
    have Hr := Lib.hid hr
    clear hr
    go_enter Tryd.func65, Tryd.ntmps65
    go_wp2_with fail
    refine c1.out.mono ?_
    rintro e w1 ⟨hW1, rfl⟩
    go_wp2_with fail
    go_ret
    exact ⟨hW1, by rw [Hr.out]; rfl⟩
  · have hr : bothB s x y = (restI s y == 0) := by rw [bothB, h1]; rfl
    have Hr := Lib.hid hr
    clear hr
    go_enter Tryd.func65, Tryd.ntmps65
    go_wp2_with fail
    refine c1.out.mono ?_
    rintro e w1 ⟨hW1, rfl⟩
    go_wp2_with fail
    refine (c2.out _).mono ?_
    rintro e w2 ⟨hW2, rfl⟩
    go_wp2_with fail
    go_ret
    exact ⟨hW1.trans (hW2.mono hW1.size), by rw [Hr.out]; rfl⟩

theorem joinPoints_impl (s : ByteArray) (x y : Int) (w : World) (hs : s.size ≤ 1048576) :
    Calls Tryd.prog 12 #[.string s, .int .i64 x, .int .i64 y] w fun e w' => Below w.heap.size w w' ∧ e = .returned (.int .i64 (joinI s x y)) := by
  have c1 := bothFixed_any s x y w hs
  cases h1 : bothB s x y
  · have hr : joinI s x y = -1 := by rw [joinI, h1]; rfl
    rw [h1] at c1
    have Hr := Lib.hid hr
    have C1 := Lib.hid c1
    clear hr c1 h1
    go_enter Tryd.func12, Tryd.ntmps12
    go_wp2_with fail
    refine C1.out.mono ?_
    rintro e w1 ⟨hW1, rfl⟩
    go_wp2_with fail
    go_ret
    exact ⟨hW1, ret_int Hr.out.symm⟩
  · rw [h1] at c1
    simp only [bothB, Bool.and_eq_true, beq_iff_eq] at h1
    have hx := stB_yes (rest_zero h1.1)
    have hy := stB_yes (rest_zero h1.2)
    have hn := (netOf_ok hx.1).2
    have hp := pw_le hn
    have h0 : bothB s x y = true := by simp [bothB, h1.1, h1.2]
    obtain ⟨a, rfl⟩ := Int.eq_ofNat_of_zero_le hx.2.1
    obtain ⟨b, rfl⟩ := Int.eq_ofNat_of_zero_le hy.2.1
    have hr : joinI s a b = riseI s ((a ||| b : Nat)) := by rw [joinI, h0]; rfl
    have hor := i64_or a b (by omega) (by omega)
    have Hr := Lib.hid hr
    have C1 := Lib.hid c1
    have C2 := Lib.hid (fun wx => riseFrom_impl s ((a ||| b : Nat)) wx hs)
    have hx1 := hx.2.2
    have hy1 := hy.2.2
    clear hr c1 h1 h0 hx hy
    go_enter Tryd.func12, Tryd.ntmps12
    go_wp2_with fail
    refine C1.out.mono ?_
    rintro e w1 ⟨hW1, rfl⟩
    go_wp2_with fail
    refine (C2.out _).mono ?_
    rintro e w2 ⟨hW2, rfl⟩
    go_wp2_with fail
    go_ret
    exact ⟨hW1.trans (hW2.mono hW1.size), ret_int Hr.out.symm⟩

theorem meetPoints_impl (s : ByteArray) (x y : Int) (w : World) (hs : s.size ≤ 1048576) :
    Calls Tryd.prog 13 #[.string s, .int .i64 x, .int .i64 y] w fun e w' => Below w.heap.size w w' ∧ e = .returned (.int .i64 (meetI s x y)) := by
  have c1 := bothFixed_any s x y w hs
  cases h1 : bothB s x y
  · have hr : meetI s x y = -1 := by rw [meetI, h1]; rfl
    rw [h1] at c1
    have Hr := Lib.hid hr
    have C1 := Lib.hid c1
    clear hr c1 h1
    go_enter Tryd.func13, Tryd.ntmps13
    go_wp2_with fail
    refine C1.out.mono ?_
    rintro e w1 ⟨hW1, rfl⟩
    go_wp2_with fail
    go_ret
    exact ⟨hW1, ret_int Hr.out.symm⟩
  · rw [h1] at c1
    simp only [bothB, Bool.and_eq_true, beq_iff_eq] at h1
    have hx := stB_yes (rest_zero h1.1)
    have hy := stB_yes (rest_zero h1.2)
    have hn := (netOf_ok hx.1).2
    have hp := pw_le hn
    have h0 : bothB s x y = true := by simp [bothB, h1.1, h1.2]
    obtain ⟨a, rfl⟩ := Int.eq_ofNat_of_zero_le hx.2.1
    obtain ⟨b, rfl⟩ := Int.eq_ofNat_of_zero_le hy.2.1
    have hr : meetI s a b = fallI s ((a &&& b : Nat)) := by rw [meetI, h0]; rfl
    have hor := i64_and a b (by omega) (by omega)
    have Hr := Lib.hid hr
    have C1 := Lib.hid c1
    have C2 := Lib.hid (fun wx => fallFrom_impl s ((a &&& b : Nat)) wx hs)
    have hx1 := hx.2.2
    have hy1 := hy.2.2
    clear hr c1 h1 h0 hx hy
    go_enter Tryd.func13, Tryd.ntmps13
    go_wp2_with fail
    refine C1.out.mono ?_
    rintro e w1 ⟨hW1, rfl⟩
    go_wp2_with fail
    refine (C2.out _).mono ?_
    rintro e w2 ⟨hW2, rfl⟩
    go_wp2_with fail
    go_ret
    exact ⟨hW1.trans (hW2.mono hW1.size), ret_int Hr.out.symm⟩
end Go.Proofs.YtkfagolmpbbckaaDoor
