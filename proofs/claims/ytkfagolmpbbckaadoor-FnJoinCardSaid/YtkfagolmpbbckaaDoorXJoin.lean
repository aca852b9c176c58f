/- Walk of the law on joins and meets of fixed points. -/
import Derived.Test.YtkfagolmpbbckaaDoorDk
import Derived.Test.YtkfagolmpbbckaaDoorLa
import Derived.Test.YtkfagolmpbbckaaDoorImpl8
import Derived.Test.YtkfagolmpbbckaaDoorSpec8
import Derived.Test.YtkfagolmpbbckaaDoorImplB
namespace Go.Proofs.YtkfagolmpbbckaaDoor
open Go Go.RowKit Go.Sw
set_option maxRecDepth 100000
set_option linter.unusedVariables false

theorem restI_fix {t : ByteArray} (h : netOk t = true) {s : Nat} (hs : s < pw (netOf t).n) (hf : stepN (netOf t) s = s) : restI t (s : Int) = 0 := by
  unfold restI
  rw [stB_nat h hs, if_pos rfl, Int.toNat_natCast, hf, Nat.xor_self]; rfl
set_option maxHeartbeats 2000000 in
theorem law_Join (w : World) (a : Option Addr) (n c : Nat) (hc : c ≤ maxLen) (h : CodeAt w a n c) :
    Calls Tryd.prog 3 #[.slice a n c] w fun e w' => Below w.heap.size w w' ∧ e = .returned (.bool true) := by
  have hle := h.1
  have m0 : n ≤ 9223372036854775807 := by unfold maxLen at hc; omega
  have cD := Lib.hid (drawJoin_any a n c hc w h)
  clear h
  by_cases s0 : n ≤ 1048576
  case' neg =>
    go_enter Tryd.func3, Tryd.ntmps3
    go_wp2_with fail
    go_ret
    exact ⟨Below.refl _ _, rfl⟩
  go_enter Tryd.func3, Tryd.ntmps3
  go_wp2_with fail
  refine cD.out.mono ?_
  rintro e w1 ⟨hW1, t, x, y, ht, hx, hy, rfl⟩
  have hW1s := hW1.size
  have c1 := Lib.hid (fun wx => joinPoints_impl t x y wx (by omega))
  have c2 := Lib.hid (fun wx => meetPoints_impl t x y wx (by omega))
  have c3 := Lib.hid (fun wx => joinPoints_spec t x y wx (by omega))
  have c4 := Lib.hid (fun wx => meetPoints_spec t x y wx (by omega))
  rcases join_cases t x y with ⟨hj, hm⟩ | ⟨hok, hmo, s, u, rfl, rfl, hs, hu, fs, fu⟩
  · rw [hj] at c1 c3
    rw [hm] at c2 c4
    clear hj hm
    go_wp2_with fail
    refine (c1.out _).mono ?_
    rintro e w2 ⟨hW2, rfl⟩
    go_wp2_with fail
    refine (c2.out _).mono ?_
    rintro e w3 ⟨hW3, rfl⟩
    go_wp2_with fail
    refine (c3.out _).mono ?_
    rintro e w4 ⟨hW4, rfl⟩
    go_wp2_with fail
    refine (c4.out _).mono ?_
    rintro e w5 ⟨hW5, rfl⟩
    go_wp2_with fail
    refine (c3.out _).mono ?_
    rintro e w6 ⟨hW6, rfl⟩
    go_wp2_with fail
    refine (c4.out _).mono ?_
    rintro e w7 ⟨hW7, rfl⟩
    go_wp2_with fail
    go_ret
    have k2 := hW2.size
    have k3 := hW3.size
    have k4 := hW4.size
    have k5 := hW5.size
    have k6 := hW6.size
    exact ⟨(((((hW1.trans (hW2.mono (by omega))).trans (hW3.mono (by omega))).trans (hW4.mono (by omega))).trans (hW5.mono (by omega))).trans (hW6.mono (by omega))).trans (hW7.mono (by omega)), rfl⟩
  · have hn := netOf_ok hok
    rw [joinI_nat hok hmo hs hu fs fu] at c1 c3
    rw [meetI_nat hok hmo hs hu fs fu] at c2 c4
    have hF := join_meet hmo hn.2 hs hu fs fu
    have cp := Lib.hid (fun wx => (show pointsL t = fixL (netOf t) by rw [pointsL, hok]; rfl) ▸ fixedPoints_impl t wx (by omega))
    obtain ⟨j, hj⟩ : ∃ j, limN (netOf t) (s ||| u) = j := ⟨_, rfl⟩
    obtain ⟨m, hm⟩ : ∃ m, limN (netOf t) (s &&& u) = m := ⟨_, rfl⟩
    rw [hj] at c1 c3 hF
    rw [hm] at c2 c4 hF
    have cr1 := Lib.hid (fun wx => (restI_fix hok hF.jlt hF.jf) ▸ restless_impl t (j : Int) wx (by omega))
    have cr2 := Lib.hid (fun wx => (restI_fix hok hF.mlt hF.mf) ▸ restless_impl t (m : Int) wx (by omega))
    have d1 := fun wx => joinPoints_impl t (s : Int) (m : Int) wx (by omega)
    rw [joinI_nat hok hmo hs hF.mlt fs hF.mf, hF.sm] at d1
    have d2 := fun wx => meetPoints_impl t (s : Int) (j : Int) wx (by omega)
    rw [meetI_nat hok hmo hs hF.jlt fs hF.jf, hF.sj] at d2
    have d3 := fun wx => joinPoints_impl t (u : Int) (s : Int) wx (by omega)
    rw [joinI_nat hok hmo hu hs fu fs, hF.ts] at d3
    have D1 := Lib.hid d1
    have D2 := Lib.hid d2
    have D3 := Lib.hid d3
    have hmem := Lib.hid (fun p (h : p ∈ fixL (netOf t)) => fixL_mem.1 h)
    have hpl : (fixL (netOf t)).length ≤ 32 := Nat.le_trans (pickL_length _ _) (pw_le hn.2).2
    have hpw := pw_le hn.2
    obtain ⟨N, hN⟩ : ∃ N, netOf t = N := ⟨_, rfl⟩
    rw [hN] at hn hs hu hF cp hmem hpl hpw
    obtain ⟨L, hL⟩ : ∃ L, fixL N = L := ⟨_, rfl⟩
    rw [hL] at cp hmem hpl
    have hup := hF.up
    have hdown := hF.down
    have hleast := hF.least
    have hgreat := hF.great
    have hjl := hF.jlt
    have hml := hF.mlt
    clear d1 d2 d3 hN hL hok hmo hF fs fu hj hm
    have o1 := i64_or s u (by omega) (by omega)
    have o2 := i64_and s u (by omega) (by omega)
    have hor : s ||| u < pw N.n := Nat.or_lt_two_pow hs hu
    have hand : s &&& u ≤ s := Nat.and_le_left
    have q1 : (j != j) = false := by simp
    have z1 : ((j : Int) != (j : Int)) = false := by simp
    have z2 : ((m : Int) != (m : Int)) = false := by simp
    have z3 : ((s : Int) == (s : Int)) = true := by simp
    have z4 : ((j : Int) == (j : Int)) = true := by simp
    have z5 : ¬ ((j : Int) < 0) := by omega
    obtain ⟨su, hsu⟩ : ∃ k, s ||| u = k := ⟨_, rfl⟩
    obtain ⟨sa, hsa⟩ : ∃ k, s &&& u = k := ⟨_, rfl⟩
    rw [hsu] at o1 hor hup hleast
    rw [hsa] at o2 hand hdown hgreat
    have Hup := Lib.hid hup
    have Hdown := Lib.hid hdown
    have Hleast := Lib.hid hleast
    have Hgreat := Lib.hid hgreat
    clear hup hdown hleast hgreat hsu hsa
    go_wp2_with fail
    refine (c1.out _).mono ?_
    rintro e w2 ⟨hW2, rfl⟩
    go_wp2_with fail
    refine (c2.out _).mono ?_
    rintro e w3 ⟨hW3, rfl⟩
    go_wp2_with fail
    refine (c3.out _).mono ?_
    rintro e w4 ⟨hW4, rfl⟩
    go_wp2_with fail
    refine (c4.out _).mono ?_
    rintro e w5 ⟨hW5, rfl⟩
    have k2 := hW2.size
    have k3 := hW3.size
    have k4 := hW4.size
    have k5 := hW5.size
    have hB5 : Below w.heap.size w w5 := (((hW1.trans (hW2.mono (by omega))).trans (hW3.mono (by omega))).trans (hW4.mono (by omega))).trans (hW5.mono (by omega))
    go_wp2_with fail
    refine (cp.out _).mono ?_
    rintro e w6 ⟨hW6, ap, cap, rfl, hI⟩
    have HI := Lib.hid hI
    have hB6 := hB5.trans (hW6.mono hB5.size)
    clear hI
    go_wp2_with fail
    go_loopw [9, 10] (fun i _ wr => ∃ k : Nat, k ≤ L.length ∧ i = .int .i64 k ∧ wr = w6) (fun i _ _ => L.length - (intOf i).toNat)
    case atStart => exact ⟨0, Nat.zero_le _, rfl, rfl⟩
    case round =>
      obtain ⟨k, hk, rfl, rfl⟩ := hrel
      by_cases hlt : k < L.length
      · obtain ⟨g, cur, tt, rfl, hBg, hcur, hcs, hcells⟩ := HI.out.at' (by rw [nats_length]; omega)
        have hcell : wr.cell? ⟨g, k, none⟩ = some (.int .i64 ((L[k] : Nat) : Int)) := by
          rw [cell_of_row wr _ _ _ _ _ hcur, hcells k (by rw [nats_length]; exact hlt)]; simp [nats]
        obtain ⟨p1, p2⟩ := hmem.out _ (List.getElem_mem hlt)
        have f1 := Lib.hid (Hleast.out _ p1 p2)
        have f2 := Lib.hid (Hgreat.out _ p1 p2)
        obtain ⟨p, hp0⟩ : ∃ p, L[k] = p := ⟨_, rfl⟩
        rw [hp0] at hcell p1 f1 f2
        clear hcells hcur hp0 p2
        have a1 := i64_andNot su p (by omega) (by omega)
        have a2 := i64_andNot j p (by omega) (by omega)
        have a3 := i64_andNot p sa (by omega) (by omega)
        have a4 := i64_andNot p m (by omega) (by omega)
        have b1 := andNot_zero su p
        have b2 := andNot_zero j p
        have b3 := andNot_zero p sa
        have b4 := andNot_zero p m
        have n2 : (((j ^^^ (j &&& p) : Nat) : Int) != 0) = !leB j p := by rw [bne, b2]
        have n4 : (((p ^^^ (p &&& m) : Nat) : Int) != 0) = !leB p m := by rw [bne, b4]
        obtain ⟨l1, hl1⟩ : ∃ b, leB su p = b := ⟨_, rfl⟩
        obtain ⟨l2, hl2⟩ : ∃ b, leB j p = b := ⟨_, rfl⟩
        obtain ⟨l3, hl3⟩ : ∃ b, leB p sa = b := ⟨_, rfl⟩
        obtain ⟨l4, hl4⟩ : ∃ b, leB p m = b := ⟨_, rfl⟩
        rw [hl1] at b1 f1
        rw [hl2] at n2 f1
        rw [hl3] at b3 f2
        rw [hl4] at n4 f2
        clear b2 b4 hl1 hl2 hl3 hl4
        obtain ⟨x1, hx1⟩ : ∃ x, su ^^^ (su &&& p) = x := ⟨_, rfl⟩
        obtain ⟨x2, hx2⟩ : ∃ x, j ^^^ (j &&& p) = x := ⟨_, rfl⟩
        obtain ⟨x3, hx3⟩ : ∃ x, p ^^^ (p &&& sa) = x := ⟨_, rfl⟩
        obtain ⟨x4, hx4⟩ : ∃ x, p ^^^ (p &&& m) = x := ⟨_, rfl⟩
        rw [hx1] at a1 b1
        rw [hx2] at a2 n2
        rw [hx3] at a3 b3
        rw [hx4] at a4 n4
        clear hx1 hx2 hx3 hx4
        have F1 : l1 = false ∨ (l1 = true ∧ l2 = true) := by
          cases l1
          · exact .inl rfl
          · exact .inr ⟨rfl, f1.out rfl⟩
        have F2 : l3 = false ∨ (l3 = true ∧ l4 = true) := by
          cases l3
          · exact .inl rfl
          · exact .inr ⟨rfl, f2.out rfl⟩
        clear f1 f2
        rcases F1 with rfl | ⟨rfl, rfl⟩ <;> rcases F2 with rfl | ⟨rfl, rfl⟩
        all_goals
          go_wp2_with fail
          go_roundw
          case rel => exact ⟨k + 1, by omega, by go_num, by first | rfl | trivial⟩
          case measure => simp [intOf] <;> omega
      · have a1 := i64_andNot su j (by omega) (by omega)
        have a2 := i64_andNot m sa (by omega) (by omega)
        have b1 := andNot_zero su j
        have b2 := andNot_zero m sa
        rw [Hup.out] at b1
        rw [Hdown.out] at b2
        obtain ⟨x1, hx1⟩ : ∃ x, su ^^^ (su &&& j) = x := ⟨_, rfl⟩
        obtain ⟨x2, hx2⟩ : ∃ x, m ^^^ (m &&& sa) = x := ⟨_, rfl⟩
        rw [hx1] at a1 b1
        rw [hx2] at a2 b2
        clear hx1 hx2
        go_wp2_with fail
        refine (cr1.out _).mono ?_
        rintro e v1 ⟨hV1, rfl⟩
        go_wp2_with fail
        refine (cr2.out _).mono ?_
        rintro e v2 ⟨hV2, rfl⟩
        go_wp2_with fail
        refine (D1.out _).mono ?_
        rintro e v3 ⟨hV3, rfl⟩
        go_wp2_with fail
        refine (D2.out _).mono ?_
        rintro e v4 ⟨hV4, rfl⟩
        go_wp2_with fail
        refine (D3.out _).mono ?_
        rintro e v5 ⟨hV5, rfl⟩
        have g1 := hV1.size
        have g2 := hV2.size
        have g3 := hV3.size
        have g4 := hV4.size
        have g5 := hB6.size
        go_wp2_with fail
        go_ret
        exact ⟨((((hB6.trans (hV1.mono (by omega))).trans (hV2.mono (by omega))).trans (hV3.mono (by omega))).trans (hV4.mono (by omega))).trans (hV5.mono (by omega)), rfl⟩
end Go.Proofs.YtkfagolmpbbckaaDoor
