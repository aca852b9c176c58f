/- Walk of the law on reducing a network. -/
import Derived.Test.YtcddnacbjdahbaaDoorLawQ
import Derived.Test.YtcddnacbjdahbaaDoorPg
import Derived.Test.YtcddnacbjdahbaaDoorImplJ
import Derived.Test.YtcddnacbjdahbaaDoorImplS
import Derived.Test.YtcddnacbjdahbaaDoorSpecS
namespace Go.Proofs.YtcddnacbjdahbaaDoor
open Go Go.RowKit Go.Sw
set_option maxRecDepth 100000
set_option linter.unusedVariables false

set_option maxHeartbeats 2000000 in
theorem law_Reduce (w : World) (a : Option Addr) (n c : Nat) (hc : c ≤ maxLen) (h : CodeAt w a n c) :
    Calls Tryd.prog 13 #[.slice a n c] w fun e w' => Below w.heap.size w w' ∧ e = .returned (.bool true) := by
  have hle := h.1
  have m0 : n ≤ 9223372036854775807 := by unfold maxLen at hc; omega
  have cD := Lib.hid (drawReduce_any a n c hc w h)
  clear h
  by_cases s0 : n ≤ 1048576
  case' neg =>
    go_enter Tryd.func13, Tryd.ntmps13
    go_wp2_with fail
    go_ret
    exact ⟨Below.refl _ _, rfl⟩
  go_enter Tryd.func13, Tryd.ntmps13
  go_wp2_with fail
  refine cD.out.mono ?_
  rintro e w1 ⟨hW1, t, ht, rfl⟩
  have hW1s := hW1.size
  have c1 := Lib.hid (fun wx => reduceNetwork_impl t wx (by omega))
  have c2 := Lib.hid (fun wx => reduceNetwork_spec t wx (by omega))
  have cV := Lib.hid (fun wx => networkValid_impl t wx (by omega))
  have hl5 := redL_length t
  have e2 : (netOk t != netOk t) = false := by simp
  have e3 : (netOk t == netOk t) = true := by simp
  have hL := Lib.hid (fun h : netOk t = true => show redL t = redG (netOf t).n (netOf t) by rw [redL, h]; rfl)
  have hT := Lib.hid (fun h : netOk t = true => show redT t = netText (redN (netOf t).n (netOf t)) by rw [redT, h]; rfl)
  obtain ⟨L, hL0⟩ : ∃ x, redL t = x := ⟨_, rfl⟩
  obtain ⟨rt, hrt0⟩ : ∃ x, redT t = x := ⟨_, rfl⟩
  obtain ⟨ok, hok⟩ : ∃ x, netOk t = x := ⟨_, rfl⟩
  have Hok := Lib.hid hok
  rw [hL0, hrt0, hok] at c1 c2
  rw [hok] at cV e2 e3
  rw [hL0] at hl5 hL
  rw [hrt0] at hT
  clear hL0 hrt0 hok
  go_wp2_with fail
  refine (c1.out _).mono ?_
  rintro e w2 ⟨hW2, a2, p2, rfl, hI2⟩
  go_wp2_with fail
  refine (c2.out _).mono ?_
  rintro e w3 ⟨hW3, a3, p3, rfl, hI3⟩
  have k2 := hW2.size
  have k3 := hW3.size
  have hB3 : Below w.heap.size w w3 := (hW1.trans (hW2.mono hW1s)).trans (hW3.mono (by omega))
  have HI2 := Lib.hid (hI2.below hW3)
  have HI3 := Lib.hid hI3
  have cS := Lib.hid (fun wx (hb : Below w3.heap.size w3 wx) => bnSame_any _ _ a2 a3 p2 p3 L wx (HI2.out.below hb) (HI3.out.below hb) (by omega))
  clear hI2 hI3
  go_wp2_with fail
  refine (cS.out _ (Below.refl _ _)).mono ?_
  rintro e w4 ⟨hW4, rfl⟩
  have k4 := hW4.size
  have hB4 : Below w.heap.size w w4 := hB3.trans (hW4.mono hB3.size)
  cases ok
  · go_wp2_with fail
    refine (cS.out _ hW4).mono ?_
    rintro e w5 ⟨hW5, rfl⟩
    have hB5 : Below w.heap.size w w5 := hB4.trans (hW5.mono hB4.size)
    go_wp2_with fail
    refine (cV.out _).mono ?_
    rintro e w6 ⟨hW6, rfl⟩
    go_wp2_with fail
    go_ret
    exact ⟨hB5.trans (hW6.mono hB5.size), rfl⟩
  · have hnok := Hok.out
    have hn := netOf_ok hnok
    have hLL := hL.out hnok
    have hTT := hT.out hnok
    obtain ⟨N, hN⟩ : ∃ N, netOf t = N := ⟨_, rfl⟩
    have hst := RdSt.start hnok hN
    have hfl : flowB t = (circL N).isEmpty := by rw [flowB, hnok, Bool.true_and, hN]
    rw [hN] at hn hLL hTT
    rw [← hLL] at hst
    have Hst := Lib.hid hst
    have cF := Lib.hid (fun wx => hfl ▸ isFlowing_impl t wx (by omega))
    have cz := Lib.hid (fun wx => (show sizI t = (N.n : Nat) by rw [sizI_yes hnok, hN]) ▸ sizeOf_impl t wx (by omega))
    have hcount := red_count N.n N
    rw [← hLL] at hcount
    have hflow := Lib.hid (fun h : circL N = [] => flow_one N.n N hn.1 (Nat.le_refl _) h)
    obtain ⟨R, hR⟩ : ∃ R, redN N.n N = R := ⟨_, rfl⟩
    have hR1 := redN_pos N.n N hn.1
    rw [hR] at hTT hcount hflow hR1
    have hrz := netText_size (N := R) (by omega)
    rw [← hTT] at hrz
    have hrok : netOk rt = true := by rw [hTT]; exact netOk_text hR1.1 (by omega)
    have hrn : (netOf rt).n = R.n := by rw [hTT]; exact (netOf_text hR1.1).1
    have hrl := remL_text hR1.1 (M := R) (by omega)
    rw [← hTT] at hrl
    have hdone := redN_done N.n N (Nat.le_refl _)
    rw [hR] at hdone
    have hfl0 : freeL R R.n = [] := by
      rcases ffI_cases R with ⟨_, hno⟩ | ⟨i, _, hfi, _, _⟩
      · exact freeL_none hno
      · rw [hdone] at hfi; omega
    rw [hfl0] at hrl
    have cz2 := Lib.hid (fun wx => (show sizI rt = (R.n : Nat) by rw [sizI_yes hrok, hrn]) ▸ sizeOf_impl rt wx (by omega))
    have crl := Lib.hid (fun wx => hrl ▸ removable_impl rt wx (by omega))
    have HR := Lib.hid hR
    have HTT := Lib.hid hTT
    clear hnok hN hst hfl hLL hTT hR hrok hrn hrl hdone hfl0 hR1
    go_wp2_with fail
    go_loopw [10, 11, 12] (fun x j _ wr => ∃ (k : Nat) (tx : ByteArray) (M : Net) (f : Nat), k ≤ L.length ∧ j = .int .i64 k ∧ x = .string tx ∧ RdSt N L tx M f k ∧ tx.size ≤ 1100 ∧ Below w4.heap.size w4 wr) (fun _ j _ _ => L.length - (intOf j).toNat)
    case atStart => exact ⟨0, t, N, N.n, Nat.zero_le _, rfl, rfl, Hst.out, ht, Below.refl _ _⟩
    case round =>
      obtain ⟨k, tx, M, f, hk, rfl, rfl, hS, htx, hV⟩ := hrel
      have hVs := hV.size
      by_cases hlt : k < L.length
      · obtain ⟨i, hgi, ⟨r, hr⟩, hrb, f', hS'⟩ := hS.next hlt
        obtain ⟨g, cur, tt, rfl, hBg, hcur, hcs, hcells⟩ := ((HI2.out.below hW4).below hV).at' (by omega)
        have hcell := cell_row wr g k hcur (hcells k hlt)
        rw [hgi] at hcell
        have hgl := block_lt hcur
        have cR := Lib.hid (fun wx => hr ▸ removable_impl tx wx (by omega))
        have cT := Lib.hid (fun wx => hrb ▸ removeSwitch_impl tx i wx (by omega))
        have hsz : (remT tx i).size ≤ 1100 := by
          rw [hS'.text]
          have := netText_size hS'.n5
          omega
        have HS' := Lib.hid hS'
        obtain ⟨tx', htx'⟩ : ∃ x, remT tx i = x := ⟨_, rfl⟩
        rw [htx'] at cT HS' hsz
        have hrl5 : r.length ≤ 5 := by have := remL_length tx; rw [hr] at this; simp at this; omega
        clear hS hS' hcells hcur hr hrb hgi htx'
        go_wp2_with fail
        refine (cR.out _).mono ?_
        rintro e v1 ⟨hV1, a5, p5, rfl, hI5⟩
        obtain ⟨g5, cur5, tt5, rfl, hBg5, hcur5, hcs5, hcells5⟩ := hI5.at' (by simp)
        have hcell5 := cell_row v1 g5 0 hcur5 (hcells5 0 (by simp))
        simp only [List.getElem_cons_zero] at hcell5
        have hcell2 : v1.cell? ⟨g, k, none⟩ = some (.int .i64 (i : Int)) := (hV1.cell hgl).trans hcell
        have hz0 : (((i : Int) :: r).length == 0) = false := by simp
        have hll : (((i : Int) :: r).length : Int) = (r.length : Int) + 1 := by simp
        have hpos : ((((i : Int) :: r).length : Int) == 0) = false := by rw [beq_eq_false_iff_ne, hll]; omega
        have hpos2 : (0 : Int) < (((i : Int) :: r).length : Int) := by rw [hll]; omega
        have hV1' := Lib.hid hV1
        have g1 := hV1.size
        have hpos3 : 0 < ((i : Int) :: r).length := by simp
        obtain ⟨m, hm⟩ : ∃ m, ((i : Int) :: r).length = m := ⟨_, rfl⟩
        rw [hm] at hpos hpos2 hpos3 hz0 ⊢
        have hne : ((i : Int) != (i : Int)) = false := by simp
        have hneq : (((i : Nat) : Int) == ((i : Nat) : Int)) = true := by simp
        clear hI5 hcells5 hcur5 hV1 hm hll
        go_wp2_with fail
        (refine wp_region_quiet_lit (by kernel_rfl) (by kernel_rfl) ?_; (repeat ((with_reducible refine wpQuiet_step ?_); intro K hK; go_simp; first | ((with_reducible refine hK _ ?_); clear hK K) | (rw [if_neg (by decide)]; (with_reducible refine hK _ ?_); clear hK K) | (apply Exists.intro; refine ⟨fun _ => ?_, hK _ ?_⟩; (fail); clear hK K))); (with_reducible refine wpQuiet_nil ?_); intro _ hw'; obtain ⟨nq, hw''⟩ := hw'; subst hw'')
        go_wp2_with fail
        refine (cT.out _).mono ?_
        rintro e v2 ⟨hV2, rfl⟩
        have hV3 : Below w4.heap.size w4 v2 := (hV.trans (hV1'.out.mono hVs)).trans ((below_drewN (Below.refl _ _) nq).trans (hV2.mono (by show w4.heap.size ≤ v1.heap.size; omega)))
        go_wp2_with fail
        go_roundw
        case rel => exact ⟨k + 1, tx', remN M i, f', by omega, by go_num, rfl, HS'.out, hsz, hV3⟩
        case measure => simp [intOf] <;> omega
      · have hRM := (hS.done (by omega)).1
        rw [HR.out] at hRM
        have htt : tx = rt := by rw [hS.text, HTT.out, hRM]
        subst htt
        clear hS hRM
        have hB5 := hB4.trans (hV.mono hB4.size)
        have hsum : ((R.n : Nat) : Int) + (L.length : Int) = ((N.n : Nat) : Int) := by omega
        go_wp2_with fail
        refine (crl.out _).mono ?_
        rintro e v1 ⟨hV1, a5, p5, rfl, hI5⟩
        have hB6 := hB5.trans (hV1.mono hB5.size)
        clear hI5
        go_wp2_with fail
        refine (cz2.out _).mono ?_
        rintro e v2 ⟨hV2, rfl⟩
        have hB7 := hB6.trans (hV2.mono hB6.size)
        go_wp2_with fail
        refine (cz.out _).mono ?_
        rintro e v3 ⟨hV3, rfl⟩
        have hB8 := hB7.trans (hV3.mono hB7.size)
        go_wp2_with fail
        refine (cF.out _).mono ?_
        rintro e v4 ⟨hV4, rfl⟩
        have hB9 := hB8.trans (hV4.mono hB8.size)
        cases hcc : circL N with
        | nil =>
          have h1 := hflow.out hcc
          have h1b : (((R.n : Nat) : Int) == 1) = true := by rw [h1]; rfl
          clear hcc h1
          go_wp2_with fail
          refine (cz2.out _).mono ?_
          rintro e v5 ⟨hV5, rfl⟩
          go_wp2_with fail
          go_ret
          exact ⟨hB9.trans (hV5.mono hB9.size), by first | rfl | simp [h1b]⟩
        | cons x y =>
          clear hcc
          go_wp2_with fail
          go_ret
          exact ⟨hB9, rfl⟩
end Go.Proofs.YtcddnacbjdahbaaDoor
