/- Walk of the law on dropping a switch. -/
import Derived.Test.YtcddnacbjdahbaaDoorMa
import Derived.Test.YtcddnacbjdahbaaDoorDp
import Derived.Test.YtcddnacbjdahbaaDoorImplB
import Derived.Test.YtcddnacbjdahbaaDoorImpl8
import Derived.Test.YtcddnacbjdahbaaDoorPg
import Derived.Test.YtcddnacbjdahbaaDoorSpec9
namespace Go.Proofs.YtcddnacbjdahbaaDoor
open Go Go.RowKit Go.Sw
set_option maxRecDepth 100000
set_option linter.unusedVariables false

theorem CodeAt.below {w w' : World} {a : Option Addr} {len cap : Nat} (h : CodeAt w a len cap) (hb : Below w.heap.size w w') : CodeAt w' a len cap := by
  obtain ⟨h1, x, h2, h3⟩ := h
  refine ⟨h1, x, h2, fun h0 => ?_⟩
  obtain ⟨b, o, k1, k2, k3⟩ := h3 h0
  exact ⟨b, o, k1, Nat.lt_of_lt_of_le k2 hb.size, fun i hi => (hb.cell k2).trans (k3 i hi)⟩
theorem liftB_yes {t : ByteArray} {i s : Int} (h : liftB t i s = true) : netOk t = true ∧ ∃ i' s' : Nat, i = i' ∧ s = s' ∧ i' < (netOf t).n ∧ freeB (netOf t) i' = true ∧ s' < pw ((netOf t).n - 1) := by
  unfold liftB at h
  simp only [Bool.and_eq_true, decide_eq_true_eq] at h
  obtain ⟨h1, h2, h3, h4⟩ := h
  obtain ⟨k1, k2, k3⟩ := swB_yes h1
  refine ⟨k1, i.toNat, s.toNat, by omega, by omega, by omega, h2, by omega⟩
set_option maxHeartbeats 2000000 in
theorem law_DropSwitch (w : World) (a : Option Addr) (n c : Nat) (hc : c ≤ maxLen) (h : CodeAt w a n c) (a' : Option Addr) (n' c' : Nat) (hc' : c' ≤ maxLen) (h' : CodeAt w a' n' c') :
    Calls Tryd.prog 5 #[.slice a n c, .slice a' n' c'] w fun e w' => Below w.heap.size w w' ∧ e = .returned (.bool true) := by
  have hle := h.1
  have hle' := h'.1
  have m0 : n ≤ 9223372036854775807 := by unfold maxLen at hc; omega
  have m1 : n' ≤ 9223372036854775807 := by unfold maxLen at hc'; omega
  have cD := Lib.hid (drawLift_any a n c hc w h)
  have H' := Lib.hid h'
  clear h h'
  by_cases s0 : n ≤ 1048576
  case' neg =>
    go_enter Tryd.func5, Tryd.ntmps5
    go_wp2_with fail
    go_ret
    exact ⟨Below.refl _ _, rfl⟩
  by_cases s1 : n' ≤ 1048576
  case' neg =>
    go_enter Tryd.func5, Tryd.ntmps5
    go_wp2_with fail
    go_ret
    exact ⟨Below.refl _ _, rfl⟩
  go_enter Tryd.func5, Tryd.ntmps5
  go_wp2_with fail
  refine cD.out.mono ?_
  rintro e w1 ⟨hW1, t, i, s, ht, hi, hs, rfl⟩
  have hW1s := hW1.size
  have c1 := liftState_impl t i s w1 (by omega)
  have c2 := Lib.hid (fun wx => liftState_spec t i s wx (by omega))
  have H1' := Lib.hid (H'.out.below hW1)
  cases hok : liftB t i s
  · have hr : liftI t i s = -1 := by rw [liftI, hok]; rfl
    rw [hr] at c1 c2
    have C1 := Lib.hid c1
    clear c1 hr hok
    go_wp2_with fail
    refine C1.out.mono ?_
    rintro e w2 ⟨hW2, rfl⟩
    go_wp2_with fail
    refine (c2.out _).mono ?_
    rintro e w3 ⟨hW3, rfl⟩
    go_wp2_with fail
    refine (c2.out _).mono ?_
    rintro e w4 ⟨hW4, rfl⟩
    go_wp2_with fail
    go_ret
    have k2 := hW2.size
    have k3 := hW3.size
    exact ⟨((hW1.trans (hW2.mono hW1s)).trans (hW3.mono (by omega))).trans (hW4.mono (by omega)), rfl⟩
  · obtain ⟨hnok, i', s', rfl, rfl, hi', hf, hs'⟩ := liftB_yes hok
    have hn := netOf_ok hnok
    have hr : liftI t i' s' = ((liftN (netOf t) i' s' : Nat) : Int) := by rw [liftI, hok]; rfl
    rw [hr] at c1 c2
    have c3 := Lib.hid (fun wx => sizeOf_impl t wx (by omega))
    have hz := sizI_yes hnok
    rw [hz] at c3
    have hlt := liftN_lt (netOf t) i' s' hi' hs'
    have c4 := Lib.hid (fun wx => restless_impl t ((liftN (netOf t) i' s' : Nat) : Int) wx (by omega))
    have hrest : restI t ((liftN (netOf t) i' s' : Nat) : Int) = ((stepN (netOf t) (liftN (netOf t) i' s') ^^^ liftN (netOf t) i' s' : Nat) : Int) := by
      have hst : stB t ((liftN (netOf t) i' s' : Nat) : Int) = true := by
        unfold stB
        rw [hnok, Bool.true_and, decide_eq_true (by omega), decide_eq_true (by omega)]; rfl
      rw [restI, hst]; rfl
    rw [hrest] at c4
    have hbit := lift_rest hf hi' hs'
    have hxl : stepN (netOf t) (liftN (netOf t) i' s') ^^^ liftN (netOf t) i' s' < pw (netOf t).n := xor_lt (stepN_lt _ _) hlt
    have hpw := pw_le hn.2
    have h2 := (free_inf hf).1
    have cdr := (drop_both ((liftN (netOf t) i' s' : Nat) : Int) ((netOf t).n : Nat) (i' : Nat))
    have hdr : dropI ((liftN (netOf t) i' s' : Nat) : Int) ((netOf t).n : Nat) (i' : Nat) = (s' : Int) := by
      have : dropOk ((liftN (netOf t) i' s' : Nat) : Int) ((netOf t).n : Nat) (i' : Nat) = true := by
        unfold dropOk
        simp only [Bool.and_eq_true, decide_eq_true_eq, Int.toNat_natCast]
        omega
      rw [dropI, this, if_pos rfl]
      simp only [Int.toNat_natCast]
      rw [drop_lift]
    rw [hdr] at cdr
    obtain ⟨x, hx⟩ : ∃ x, stepN (netOf t) (liftN (netOf t) i' s') ^^^ liftN (netOf t) i' s' = x := ⟨_, rfl⟩
    rw [hx] at c4 hbit hxl
    have hbm : ((x : Int) / 2 ^ i') % 2 = 0 := by rw [div_pow_mod, hbit]; rfl
    have hband : bits .and .i64 ((x : Int) / 2 ^ i') 1 = 0 := (Go.Sw.and_one _).trans hbm
    obtain ⟨k, hk⟩ : ∃ k, liftN (netOf t) i' s' = k := ⟨_, rfl⟩
    rw [hk] at c1 c2 c4 cdr hlt
    obtain ⟨m, hm⟩ : ∃ m, (netOf t).n = m := ⟨_, rfl⟩
    rw [hm] at c3 cdr hn h2 hi' hpw hlt hxl
    have C1 := Lib.hid c1
    have Cdr := Lib.hid cdr
    clear c1 cdr hdr hrest hz hr hok hnok hf hs' hx hk hm hbit
    go_wp2_with fail
    refine C1.out.mono ?_
    rintro e w2 ⟨hW2, rfl⟩
    have k2 := hW2.size
    go_wp2_with fail
    refine (c2.out _).mono ?_
    rintro e w3 ⟨hW3, rfl⟩
    have k3 := hW3.size
    go_wp2_with fail
    refine (c3.out _).mono ?_
    rintro e w4 ⟨hW4, rfl⟩
    have k4 := hW4.size
    have hB4 : Below w.heap.size w w4 := ((hW1.trans (hW2.mono hW1s)).trans (hW3.mono (by omega))).trans (hW4.mono (by omega))
    have cE := Lib.hid (drawDrop_any a' n' c' hc' w4 (((H1'.out.below hW2).below hW3).below hW4))
    go_wp2_with fail
    refine cE.out.mono ?_
    rintro e w5 ⟨hW5, q, u, j, hq, hu, hj, rfl⟩
    have hB5 := hB4.trans (hW5.mono hB4.size)
    have Cq := Lib.hid (drop_both q u j)
    go_wp2_with fail
    refine (Cdr.out _).1.mono ?_
    rintro e w' ⟨rfl, rfl⟩
    go_wp2_with fail
    refine (c4.out _).mono ?_
    rintro e w6 ⟨hW6, rfl⟩
    have hB6 := hB5.trans (hW6.mono hB5.size)
    go_wp2_with fail
    refine (Cq.out _).1.mono ?_
    rintro e w' ⟨rfl, rfl⟩
    go_wp2_with fail
    refine (Cq.out _).2.mono ?_
    rintro e w' ⟨rfl, rfl⟩
    go_wp2_with fail
    go_ret
    exact ⟨hB6, rfl⟩
end Go.Proofs.YtcddnacbjdahbaaDoor
