/- Walk of the law on networks that become monotone when switches are turned. -/
import Derived.Test.YtkfagolmpbbckaaGreatDoorDl
import Derived.Test.YtkfagolmpbbckaaGreatDoorLn
import Derived.Test.YtkfagolmpbbckaaGreatDoorTn
import Derived.Test.YtkfagolmpbbckaaGreatDoorImpl8
import Derived.Test.YtkfagolmpbbckaaGreatDoorSpecU
import Derived.Test.YtkfagolmpbbckaaGreatDoorImplK
import Derived.Test.YtkfagolmpbbckaaGreatDoorImplB
namespace Go.Proofs.YtkfagolmpbbckaaGreatDoor
open Go Go.RowKit Go.Sw
set_option maxRecDepth 100000
set_option linter.unusedVariables false

theorem shbT (x k : Nat) : bits .and .i64 ((x : Int) / 2 ^ k) 1 = (((x.testBit k).toNat : Nat) : Int) := (Go.Sw.and_one _).trans (div_pow_mod x k)
theorem shmT (x k : Nat) : ((x : Int) / 2 ^ k) % 2 = (((x.testBit k).toNat : Nat) : Int) := div_pow_mod x k
theorem turns_cases (t : ByteArray) : (netOk t = false ∧ turnsI t = -1) ∨ (netOk t = true ∧ turnsI t = -1 ∧ monoB t = false) ∨
    (netOk t = true ∧ ∃ set : Nat, set < pw (netOf t).n ∧ turnsI t = (set : Int) ∧ monoN (turnN (netOf t) set) = true ∧ (decide (set = 0) = monoB t)) := by
  cases hok : netOk t
  · exact .inl ⟨rfl, by rw [turnsI, hok]; rfl⟩
  · right
    have hr : turnsI t = firstI (fun set => monoN (turnN (netOf t) set)) (pw (netOf t).n) := by rw [turnsI, hok]; rfl
    have h0 : monoN (turnN (netOf t) 0) = monoN (netOf t) := (turn_zero (netOf t)).mono
    have hmb : monoB t = monoN (netOf t) := by unfold monoB; rw [hok]; rfl
    have hz : 0 < pw (netOf t).n := Nat.two_pow_pos _
    rcases firstI_cases (fun set => monoN (turnN (netOf t) set)) (pw (netOf t).n) with ⟨h1, h2⟩ | ⟨k, h1, h2, h3, h4⟩
    · left
      exact ⟨rfl, by rw [hr, h1], by rw [hmb, ← h0]; exact h2 0 hz⟩
    · right
      refine ⟨rfl, k, h1, by rw [hr, h2], h3, ?_⟩
      rw [hmb, ← h0]
      by_cases e : k = 0
      · subst e; rw [decide_eq_true rfl]; exact h3.symm
      · rw [decide_eq_false e]; exact (h4 0 (by omega)).symm
set_option maxHeartbeats 4000000 in
theorem law_Turns (w : World) (a : Option Addr) (n c : Nat) (hc : c ≤ maxLen) (h : CodeAt w a n c) :
    Calls Tryz.prog 4 #[.slice a n c] w fun e w' => Below w.heap.size w w' ∧ e = .returned (.bool true) := by
  have hle := h.1
  have m0 : n ≤ 9223372036854775807 := by unfold maxLen at hc; omega
  have cD := Lib.hid (drawTurns_any a n c hc w h)
  clear h
  by_cases s0 : n ≤ 1048576
  case' neg =>
    go_enter Tryz.func4, Tryz.ntmps4
    go_wp2_with fail
    go_ret
    exact ⟨Below.refl _ _, rfl⟩
  go_enter Tryz.func4, Tryz.ntmps4
  go_wp2_with fail
  refine cD.out.mono ?_
  rintro e w1 ⟨hW1, t, ht, rfl⟩
  have hW1s := hW1.size
  have c1 := Lib.hid (fun wx => turnsToMonotone_impl t wx ht)
  have c2 := Lib.hid (fun wx => turnsToMonotone_spec t wx ht)
  have c3 := Lib.hid (fun wx => networkValid_impl t wx ht)
  have c4 := Lib.hid (fun wx => isMonotone_impl t wx ht)
  rcases turns_cases t with ⟨hok, hr⟩ | ⟨hok, hr, hm⟩ | ⟨hok, set, hset, hr, hmo, hz0⟩
  · rw [hr] at c1 c2
    rw [hok] at c3
    clear hok hr
    go_wp2_with fail
    refine (c1.out _).mono ?_
    rintro e w2 ⟨hW2, rfl⟩
    go_wp2_with fail
    refine (c2.out _).mono ?_
    rintro e w3 ⟨hW3, rfl⟩
    go_wp2_with fail
    refine (c3.out _).mono ?_
    rintro e w4 ⟨hW4, rfl⟩
    go_wp2_with fail
    refine (c2.out _).mono ?_
    rintro e w5 ⟨hW5, rfl⟩
    have k2 := hW2.size
    have k3 := hW3.size
    have k4 := hW4.size
    go_wp2_with fail
    go_ret
    exact ⟨(((hW1.trans (hW2.mono (by omega))).trans (hW3.mono (by omega))).trans (hW4.mono (by omega))).trans (hW5.mono (by omega)), rfl⟩
  · rw [hr] at c1 c2
    rw [hok] at c3
    rw [hm] at c4
    clear hok hr hm
    go_wp2_with fail
    refine (c1.out _).mono ?_
    rintro e w2 ⟨hW2, rfl⟩
    go_wp2_with fail
    refine (c2.out _).mono ?_
    rintro e w3 ⟨hW3, rfl⟩
    go_wp2_with fail
    refine (c3.out _).mono ?_
    rintro e w4 ⟨hW4, rfl⟩
    go_wp2_with fail
    refine (c4.out _).mono ?_
    rintro e w5 ⟨hW5, rfl⟩
    have k2 := hW2.size
    have k3 := hW3.size
    have k4 := hW4.size
    go_wp2_with fail
    go_ret
    exact ⟨(((hW1.trans (hW2.mono (by omega))).trans (hW3.mono (by omega))).trans (hW4.mono (by omega))).trans (hW5.mono (by omega)), rfl⟩
  · have hn := netOf_ok hok
    rw [hr] at c1 c2
    have cz := Lib.hid (fun wx => (sizI_yes hok) ▸ sizeOf_impl t wx ht)
    have h0 : likeT t (turnN (netOf t) (set % 2 ^ 0)) := ⟨ht, hok, by rw [Nat.pow_zero, Nat.mod_one]; exact (turn_zero _).symm⟩
    have hend : set % 2 ^ (netOf t).n = set := Nat.mod_eq_of_lt hset
    have hpt : pointsL t = fixL (netOf t) := by rw [pointsL, hok]; rfl
    have cp := Lib.hid (fun wx => (show Calls Tryz.prog 11 #[.string t] wx fun e w' => Below wx.heap.size wx w' ∧ ∃ a c, e = .returned (.slice a (fixL (netOf t)).length c) from by
      have := fixedPoints_impl t wx ht
      rw [hpt] at this
      refine this.mono ?_
      rintro e w' ⟨h1, a, c, h2, _⟩
      exact ⟨h1, a, c, h2⟩))
    have hlast := Lib.hid (fun (u : ByteArray) (hu : likeT u (turnN (netOf t) set)) => turn_facts hn.2 hset hu.2.2 hmo)
    have chm := Lib.hid (fun (h : ¬ ∃ c ∈ circL (netOf t), adm (circC (netOf t) c) false) wx => (show hasB t ⟨#[45]⟩ = false by
      cases e : hasB t ⟨#[45]⟩
      · rfl
      · exact absurd ((has_minus hok).1 e) h) ▸ hasCircuit_impl t ⟨#[45]⟩ wx ht (by decide))
    have crs := Lib.hid (fun (x : Nat) (hx : x < pw (netOf t).n) (h : stepN (netOf t) x = x) wx => (show restI t (x : Int) = 0 by
      unfold restI
      rw [stB_nat hok hx, if_pos rfl, Int.toNat_natCast, h, Nat.xor_self]; rfl) ▸ restless_impl t (x : Int) wx ht)
    have hzb : (((set : Nat) : Int) == 0) = monoB t := by
      rw [← hz0, Bool.eq_iff_iff, beq_iff_eq, decide_eq_true_eq]; omega
    obtain ⟨mb, hmb⟩ : ∃ b, monoB t = b := ⟨_, rfl⟩
    rw [hmb] at c4 hzb
    rw [hok] at c3
    obtain ⟨N, hN⟩ : ∃ N, netOf t = N := ⟨_, rfl⟩
    rw [hN] at hn hset cz h0 hend cp hlast chm crs
    obtain ⟨np, hnp⟩ : ∃ k, (fixL N).length = k := ⟨_, rfl⟩
    rw [hnp] at cp
    have Hnp := Lib.hid hnp
    have hpw := pw_le hn.2
    have H0 := Lib.hid h0
    have Hend := Lib.hid hend
    have z1 : ((set : Int) != (set : Int)) = false := by simp
    have z2 : ¬ ((set : Int) < 0) := by omega
    have z3 : (mb == mb) = true := by simp
    have z4 : ((np : Int) == (np : Int)) = true := by simp
    clear hok hr hmo hz0 h0 hend hpt hmb hN hnp
    go_wp2_with fail
    refine (c1.out _).mono ?_
    rintro e w2 ⟨hW2, rfl⟩
    go_wp2_with fail
    refine (c2.out _).mono ?_
    rintro e w3 ⟨hW3, rfl⟩
    go_wp2_with fail
    refine (c3.out _).mono ?_
    rintro e w4 ⟨hW4, rfl⟩
    have k2 := hW2.size
    have k3 := hW3.size
    have k4 := hW4.size
    have hB4 : Below w.heap.size w w4 := ((hW1.trans (hW2.mono (by omega))).trans (hW3.mono (by omega))).trans (hW4.mono (by omega))
    go_wp2_with fail
    go_loopw [5, 6] (fun x j wr => ∃ (k : Nat) (u : ByteArray), k ≤ N.n ∧ j = .int .i64 k ∧ x = .string u ∧ likeT u (turnN N (set % 2 ^ k)) ∧ Below w.heap.size w wr) (fun _ j _ => N.n - (intOf j).toNat)
    case atStart => exact ⟨0, t, Nat.zero_le _, rfl, rfl, H0.out, hB4⟩
    case round =>
      obtain ⟨k, u, hk, rfl, rfl, hu, hW⟩ := hrel
      have Hu := Lib.hid hu
      have hWs := hW.size
      clear hu
      by_cases hlt : k < N.n
      · have hnx := mod_next (set := set) (k := k)
        have b1 := shbT set k
        have b2 := shmT set k
        have cT := Lib.hid (fun wx => turnNetwork_impl u k wx Hu.out.1 Hu.out.2.1 (by rw [Hu.out.2.2.1]; exact hlt))
        have hlk := Lib.hid (fun hb : set.testBit k = true => (show likeT (netText (turnN (netOf u) (2 ^ k))) (turnN N (set % 2 ^ (k + 1))) from by
          have h1 : (turnN (netOf u) (2 ^ k)).n = N.n := Hu.out.2.2.1
          have h2 := likeT_text (N := turnN (netOf u) (2 ^ k)) (by omega) (by omega)
          rw [hnx, if_pos hb]
          exact ⟨h2.1, h2.2.1, h2.2.2.trans (turn_turn Hu.out.2.2 hlt)⟩))
        have hln := Lib.hid (fun hb : set.testBit k = false => (show likeT u (turnN N (set % 2 ^ (k + 1))) from by
          rw [hnx, if_neg (by rw [hb]; decide)]; exact Hu.out))
        obtain ⟨tx, htx⟩ : ∃ tx, netText (turnN (netOf u) (2 ^ k)) = tx := ⟨_, rfl⟩
        rw [htx] at cT hlk
        obtain ⟨sb, hsb⟩ : ∃ b, set.testBit k = b := ⟨_, rfl⟩
        rw [hsb] at b1 b2 hlk hln
        clear hnx htx hsb
        cases sb
        · have Hl := Lib.hid (hln.out rfl)
          simp only [Bool.toNat_false, Int.natCast_zero] at b1 b2
          clear hlk hln
          go_wp2_with fail
          refine (cz.out _).mono ?_
          rintro e v1 ⟨hV1, rfl⟩
          go_wp2_with fail
          go_roundw
          case rel => exact ⟨k + 1, u, by omega, by go_num, rfl, Hl.out, hW.trans (hV1.mono hWs)⟩
          case measure => simp [intOf] <;> omega
        · have Hl := Lib.hid (hlk.out rfl)
          simp only [Bool.toNat_true, Int.natCast_one] at b1 b2
          clear hlk hln
          go_wp2_with fail
          refine (cz.out _).mono ?_
          rintro e v1 ⟨hV1, rfl⟩
          go_wp2_with fail
          refine (cT.out _).mono ?_
          rintro e v2 ⟨hV2, rfl⟩
          have g1 := hV1.size
          go_wp2_with fail
          go_roundw
          case rel => exact ⟨k + 1, _, by omega, by go_num, rfl, Hl.out, (hW.trans (hV1.mono hWs)).trans (hV2.mono (by omega))⟩
          case measure => simp [intOf] <;> omega
      · obtain rfl : k = N.n := by omega
        have hu := Hu.out
        rw [Hend.out] at hu
        have hF := hlast.out u hu
        have hmn : (netOf u).n = N.n := hu.2.2.1
        have hus := hu.1
        have d1 := fun wx => leastPoint_impl u wx hus
        have hri : riseI u 0 = ((limN (netOf u) 0 : Nat) : Int) := riseI_nat hu.2.1 hF.mono low_rise
        rw [hri] at d1
        have d2 := fun wx => isMonotone_impl u wx hus
        have hmu : monoB u = true := by unfold monoB; rw [hu.2.1, hF.mono]; rfl
        rw [hmu] at d2
        have hpu : pointsL u = fixL (netOf u) := by rw [pointsL, hu.2.1]; rfl
        have d3 := fun wx => (show Calls Tryz.prog 11 #[.string u] wx fun e w' => Below wx.heap.size wx w' ∧ ∃ a c, e = .returned (.slice a np c) from by
          have := fixedPoints_impl u wx hus
          rw [hpu, hF.cnt, Hnp.out] at this
          refine this.mono ?_
          rintro e w' ⟨h1, a, c, h2, _⟩
          exact ⟨h1, a, c, h2⟩)
        have ch := Lib.hid (chm.out hF.circ)
        have hll := hF.lt
        have hlo := hF.low
        obtain ⟨lo, hlo0⟩ : ∃ k, limN (netOf u) 0 = k := ⟨_, rfl⟩
        rw [hlo0] at d1 hll hlo
        have cr := crs.out (lo ^^^ set) (xor_lt hll hset) hlo
        have hx := i64_xor lo set (by omega) (by omega)
        have hxl : lo ^^^ set < pw N.n := xor_lt hll hset
        obtain ⟨xs, hxs⟩ : ∃ k, lo ^^^ set = k := ⟨_, rfl⟩
        rw [hxs] at cr hx hxl
        have D1 := Lib.hid d1
        have D2 := Lib.hid d2
        have D3 := Lib.hid d3
        have CR := Lib.hid cr
        clear d1 d2 d3 cr hu hF hri hmu hpu hlo hlo0 hxs hmn
        go_wp2_with fail
        refine (cz.out _).mono ?_
        rintro e v1 ⟨hV1, rfl⟩
        go_wp2_with fail
        refine (D1.out _).mono ?_
        rintro e v2 ⟨hV2, rfl⟩
        go_wp2_with fail
        refine (D2.out _).mono ?_
        rintro e v3 ⟨hV3, rfl⟩
        go_wp2_with fail
        refine (ch.out _).mono ?_
        rintro e v4 ⟨hV4, rfl⟩
        go_wp2_with fail
        refine (CR.out _).mono ?_
        rintro e v5 ⟨hV5, rfl⟩
        go_wp2_with fail
        refine (c4.out _).mono ?_
        rintro e v6 ⟨hV6, rfl⟩
        go_wp2_with fail
        refine (D3.out _).mono ?_
        rintro e v7 ⟨hV7, a7, q7, rfl⟩
        go_wp2_with fail
        refine (cp.out _).mono ?_
        rintro e v8 ⟨hV8, a8, q8, rfl⟩
        have g1 := hV1.size
        have g2 := hV2.size
        have g3 := hV3.size
        have g4 := hV4.size
        have g5 := hV5.size
        have g6 := hV6.size
        have g7 := hV7.size
        go_wp2_with fail
        go_ret
        exact ⟨(((((((hW.trans (hV1.mono (by omega))).trans (hV2.mono (by omega))).trans (hV3.mono (by omega))).trans (hV4.mono (by omega))).trans (hV5.mono (by omega))).trans (hV6.mono (by omega))).trans (hV7.mono (by omega))).trans (hV8.mono (by omega)), rfl⟩
end Go.Proofs.YtkfagolmpbbckaaGreatDoor
