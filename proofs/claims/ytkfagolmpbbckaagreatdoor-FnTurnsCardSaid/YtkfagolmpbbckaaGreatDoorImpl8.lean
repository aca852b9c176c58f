/- The program's settling, rising and falling, least and greatest points, joins and meets. -/
import Derived.Test.YtkfagolmpbbckaaGreatDoorImplA
import Derived.Test.YtkfagolmpbbckaaGreatDoorP1
import Derived.Deep.LoopGhost
namespace Go.Proofs.YtkfagolmpbbckaaGreatDoor
open Go Go.RowKit Go.Sw
set_option maxRecDepth 100000
set_option linter.unusedVariables false

theorem settle_any (b cap s : Nat) (N : Net) (hn : N.n ≤ 5) (hs : restP N 32 s) (w : World) (hat : NetAt w b N.n N.f) (hb : b < w.heap.size) :
    Calls Tryz.prog 137 #[.slice (some ⟨b, 0, none⟩) N.n cap, .int .i64 s] w fun e w' => e = .returned (.int .i64 (limN N s)) ∧ Below w.heap.size w w' := by
  have hp := pw_le hn
  have Hat := Lib.hid hat
  have Hs := Lib.hid hs
  clear hat hs
  go_enter Tryz.func137, Tryz.ntmps137
  go_wp2_with fail
  go_loopg [1] 32 (fun g x wr => ∃ t : Nat, x = .int .i64 t ∧ g ≤ 32 ∧ (iterN N (32 - g) s = t ∧ restP N g t) ∧ Below w.heap.size w wr)
  case atStart => exact ⟨s, rfl, Nat.le_refl _, ⟨rfl, Hs.out⟩, Below.refl _ _⟩
  case round =>
    obtain ⟨t, rfl, hg, hst, hW⟩ := hrel
    have ht := hst.2.1
    have hlt := stepN_lt N t
    have Hst := Lib.hid hst
    have c1 := Lib.hid (step_any b cap t N hn ht wr (Hat.out.below hW hb) (Nat.lt_of_lt_of_le hb hW.size))
    clear hst
    by_cases he : stepN N t = t
    · have hne : (((stepN N t : Nat) : Int) != (t : Int)) = false := by rw [he]; simp
      have hres : limN N s = t := limN_of N s t (32 - gk) (by omega) Hst.out.1 he
      have Hres := Lib.hid hres
      clear he hres
      go_wp2_with fail
      refine c1.out.mono ?_
      rintro e w1 ⟨rfl, hW1⟩
      go_wp2_with fail
      go_ret
      exact ⟨ret_int (congrArg Nat.cast Hres.out.symm), hW.trans (hW1.mono hW.size)⟩
    · have hne : (((stepN N t : Nat) : Int) != (t : Int)) = true := by
        simp only [bne_iff_ne, ne_eq, Int.natCast_inj]; exact he
      have hnext := restP_step Hst.out.2 he
      have hit : iterN N (32 - (gk - 1)) s = stepN N t := by
        rw [show 32 - (gk - 1) = (32 - gk) + 1 by omega, iterN_succ, Hst.out.1]
      have hg0 := hnext.1
      have Hnext := Lib.hid hnext
      have Hit := Lib.hid hit
      clear he hnext hit
      go_wp2_with fail
      refine c1.out.mono ?_
      rintro e w1 ⟨rfl, hW1⟩
      have hW2 := hW.trans (hW1.mono hW.size)
      have c2 := Lib.hid (step_any b cap t N hn ht w1 (Hat.out.below hW2 hb) (Nat.lt_of_lt_of_le hb hW2.size))
      go_wp2_with fail
      refine c2.out.mono ?_
      rintro e w2 ⟨rfl, hW3⟩
      go_wp2_with fail
      go_roundg (gk - 1)
      case measure => omega
      case rel => exact ⟨stepN N t, rfl, by omega, ⟨Hit.out, Hnext.out.2⟩, hW2.trans (hW3.mono hW2.size)⟩


/-- settling what a function asks for -/
theorem from_any (s : ByteArray) (x : Int) (k : Nat) (cap : Array Value) (may : Bool) (w : World) (hs : s.size ≤ 1048576)
    (hk : ∀ args w, (callFunc k args).run Tryz.prog w = .ok (.enter k args) w)
    (hcl : ∀ wx : World, Calls Tryz.prog k (#[.string s, .int .i64 x] ++ cap) wx fun e w' => Below wx.heap.size wx w' ∧ e = .returned (.bool may))
    (hmay : may = true → ∃ m : Nat, x = m ∧ (monoN (netOf s) = true → restP (netOf s) 32 m)) (hst : may = true → stB s x = true) :
    Calls Tryz.prog 103 #[.string s, .int .i64 x, .func (.func k) #[] cap] w fun e w' => Below w.heap.size w w' ∧ e = .returned (.int .i64 (if monoB s && may then (limN (netOf s) x.toNat : Nat) else -1)) := by
  have Hcl := Lib.hid hcl
  have Hmay := Lib.hid hmay
  have Hst := Lib.hid hst
  clear hcl hmay hst
  cases h : stB s x
  · have hr : (if monoB s && may then ((limN (netOf s) x.toNat : Nat) : Int) else -1) = -1 := by
      cases hm : may
      · simp
      · rw [Hst.out hm] at h; cases h
    rw [hr]
    clear hr
    have c := Lib.hid (stateOf_no s x w hs h)
    clear h
    go_enter Tryz.func103, Tryz.ntmps103
    go_wp2_with fail
    refine c.out.mono ?_
    rintro e w1 ⟨hW1, v, rfl⟩
    go_wp2_with fail
    go_ret
    exact ⟨hW1, rfl⟩
  · obtain ⟨h1, h2, h3⟩ := stB_yes h
    have hn := (netOf_ok h1).2
    obtain ⟨m, rfl⟩ := Int.eq_ofNat_of_zero_le h2
    have c := Lib.hid (stateOf_yes s m w hs h)
    have hB : monoB s = monoN (netOf s) := by rw [monoB, h1]; rfl
    rw [hB, Int.toNat_natCast]
    clear h h1 hB
    cases hmo : monoN (netOf s)
    · rw [Bool.false_and, if_neg (by decide)]
      have Hmo := Lib.hid hmo
      clear hmo
      go_enter Tryz.func103, Tryz.ntmps103
      go_wp2_with fail
      refine c.out.mono ?_
      rintro e w1 ⟨hW1, b, cp, rfl, hb1, hb2, hat⟩
      have c2 := monotone_any b cp (netOf s) hn w1 hat hb2
      rw [Hmo.out] at c2
      have C2 := Lib.hid c2
      clear c2 hat
      go_wp2_with fail
      refine C2.out.mono ?_
      rintro e w2 ⟨rfl, hW2⟩
      go_wp2_with fail
      go_ret
      exact ⟨hW1.trans (hW2.mono hW1.size), rfl⟩
    · have Hmo := Lib.hid hmo
      rw [Bool.true_and]
      clear hmo
      cases hm : may
      · rw [if_neg (by decide)]
        have cl := Hcl.out
        rw [hm] at cl
        have Cl := Lib.hid cl
        clear cl hm
        go_enter Tryz.func103, Tryz.ntmps103
        go_wp2_with fail
        refine c.out.mono ?_
        rintro e w1 ⟨hW1, b, cp, rfl, hb1, hb2, hat⟩
        have c2 := monotone_any b cp (netOf s) hn w1 hat hb2
        rw [Hmo.out] at c2
        have C2 := Lib.hid c2
        clear c2 hat
        go_wp2_with fail
        refine C2.out.mono ?_
        rintro e w2 ⟨rfl, hW2⟩
        go_wp2_with fail
        refine (Cl.out _).mono ?_
        rintro e w3 ⟨hW3, rfl⟩
        go_wp2_with fail
        go_ret
        have hW12 := hW1.trans (hW2.mono hW1.size)
        exact ⟨hW12.trans (hW3.mono hW12.size), rfl⟩
      · rw [if_pos rfl]
        have hP : restP (netOf s) 32 m := by
          obtain ⟨m', e, hp⟩ := Hmay.out hm
          obtain rfl : m = m' := by omega
          exact hp Hmo.out
        have HP := Lib.hid hP
        have cl := Hcl.out
        rw [hm] at cl
        have Cl := Lib.hid cl
        clear cl hm hP
        go_enter Tryz.func103, Tryz.ntmps103
        go_wp2_with fail
        refine c.out.mono ?_
        rintro e w1 ⟨hW1, b, cp, rfl, hb1, hb2, hat⟩
        have c2 := monotone_any b cp (netOf s) hn w1 hat hb2
        rw [Hmo.out] at c2
        have C2 := Lib.hid c2
        have Hat := Lib.hid hat
        clear c2 hat
        go_wp2_with fail
        refine C2.out.mono ?_
        rintro e w2 ⟨rfl, hW2⟩
        go_wp2_with fail
        refine (Cl.out _).mono ?_
        rintro e w3 ⟨hW3, rfl⟩
        have hB3 := hW2.trans (hW3.mono hW2.size)
        have c4 := Lib.hid (settle_any b cp m (netOf s) hn HP.out w3 (Hat.out.below hB3 hb2) (Nat.lt_of_lt_of_le hb2 hB3.size))
        go_wp2_with fail
        refine c4.out.mono ?_
        rintro e w4 ⟨rfl, hW4⟩
        go_wp2_with fail
        go_ret
        have hW13 := hW1.trans (hB3.mono hW1.size)
        exact ⟨hW13.trans (hW4.mono hW13.size), rfl⟩


theorem riseFrom_impl (s : ByteArray) (x : Int) (w : World) (hs : s.size ≤ 1048576) :
    Calls Tryz.prog 59 #[.string s, .int .i64 x] w fun e w' => Below w.heap.size w w' ∧ e = .returned (.int .i64 (riseI s x)) := by
  have c := from_any s x 104 #[] (riseB s x) w hs (enters_fn Tryz.func104 (by kernel_rfl) rfl) (fun wx => isRising_impl s x wx hs)
    (fun h => by
      have h1 := (stB_yes (x := x) (w := s) (by simp only [riseB, Bool.and_eq_true] at h; exact h.1))
      obtain ⟨m, rfl⟩ := Int.eq_ofNat_of_zero_le h1.2.1
      exact ⟨m, rfl, fun hm => rise_rest hm (netOf_ok h1.1).2 (riseB_P h)⟩)
    (fun h => by simp only [riseB, Bool.and_eq_true] at h; exact h.1)
  have C : Calls Tryz.prog 103 #[.string s, .int .i64 x, .func (.func 104) #[] #[]] w fun e w' => Below w.heap.size w w' ∧ e = .returned (.int .i64 (riseI s x)) := c
  have CC := Lib.hid C
  clear c C
  go_enter Tryz.func59, Tryz.ntmps59
  go_wp2_with fail
  refine CC.out.mono ?_
  rintro e w1 ⟨hW1, rfl⟩
  go_wp2_with fail
  go_ret
  exact ⟨hW1, rfl⟩


theorem leastPoint_impl (s : ByteArray) (w : World) (hs : s.size ≤ 1048576) :
    Calls Tryz.prog 20 #[.string s] w fun e w' => Below w.heap.size w w' ∧ e = .returned (.int .i64 (riseI s 0)) := by
  have C := Lib.hid (riseFrom_impl s 0 w hs)
  go_enter Tryz.func20, Tryz.ntmps20
  go_wp2_with fail
  refine C.out.mono ?_
  rintro e w1 ⟨hW1, rfl⟩
  go_wp2_with fail
  go_ret
  exact ⟨hW1, rfl⟩


theorem restless_impl (s : ByteArray) (x : Int) (w : World) (hs : s.size ≤ 1048576) :
    Calls Tryz.prog 21 #[.string s, .int .i64 x] w fun e w' => Below w.heap.size w w' ∧ e = .returned (.int .i64 (restI s x)) := by
  cases h : stB s x
  · have hr : restI s x = -1 := by rw [restI, h]; rfl
    have Hr := Lib.hid hr
    have c := Lib.hid (stateOf_no s x w hs h)
    clear hr h
    go_enter Tryz.func21, Tryz.ntmps21
    go_wp2_with fail
    refine c.out.mono ?_
    rintro e w1 ⟨hW1, v, rfl⟩
    go_wp2_with fail
    go_ret
    exact ⟨hW1, ret_int Hr.out.symm⟩
  · obtain ⟨h1, h2, h3⟩ := stB_yes h
    have hn := (netOf_ok h1).2
    have h4 := pw_le hn
    obtain ⟨k, rfl⟩ := Int.eq_ofNat_of_zero_le h2
    have hr : restI s k = (stepN (netOf s) k ^^^ k : Nat) := by rw [restI, h]; rfl
    have hx := i64_xor (stepN (netOf s) k) k (by have := stepN_lt (netOf s) k; omega) (by omega)
    have Hr := Lib.hid hr
    have c := Lib.hid (stateOf_yes s k w hs h)
    clear hr h h1
    go_enter Tryz.func21, Tryz.ntmps21
    go_wp2_with fail
    refine c.out.mono ?_
    rintro e w1 ⟨hW1, b, cap, rfl, hb1, hb2, hat⟩
    have c2 := Lib.hid (step_any b cap k (netOf s) hn (by omega) w1 hat hb2)
    clear hat
    go_wp2_with fail
    refine c2.out.mono ?_
    rintro e w2 ⟨rfl, hW2⟩
    go_wp2_with fail
    go_ret
    exact ⟨hW1.trans (hW2.mono hW1.size), ret_int Hr.out.symm⟩



end Go.Proofs.YtkfagolmpbbckaaGreatDoor
