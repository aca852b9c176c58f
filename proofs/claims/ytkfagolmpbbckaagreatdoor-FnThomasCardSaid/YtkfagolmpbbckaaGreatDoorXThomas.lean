/- Walk of the law of Thomas on circuits, fixed points and attractors. -/
import Derived.Test.YtkfagolmpbbckaaGreatDoorDl
import Derived.Test.YtkfagolmpbbckaaGreatDoorTh
import Derived.Test.YtkfagolmpbbckaaGreatDoorAo
import Derived.Test.YtkfagolmpbbckaaGreatDoorCc
import Derived.Test.YtkfagolmpbbckaaGreatDoorSpecI
import Derived.Deep.QuietTactic
namespace Go.Proofs.YtkfagolmpbbckaaGreatDoor
open Go Go.RowKit Go.Sw
set_option maxRecDepth 100000
set_option linter.unusedVariables false

/-- does the text of a circuit end with the sign, or with both? -/
def endB (k : Nat) (sign : ByteArray) : Bool := sign == bs [signT k] || (decide (k = 3) && plusB sign)
def hitS (N : Net) (sign : ByteArray) (cs : List (List Nat)) : Nat → Bool
  | 0 => false
  | m + 1 => hitS N sign cs m || endB (circC N (cs.getD m [])) sign
theorem hitS_iff (N : Net) (sign : ByteArray) (cs : List (List Nat)) (m : Nat) : hitS N sign cs m = true ↔ ∃ j, j < m ∧ endB (circC N (cs.getD j [])) sign = true := by
  induction m with
  | zero => exact ⟨fun h => absurd h (by simp [hitS]), fun ⟨j, h, _⟩ => absurd h (Nat.not_lt_zero _)⟩
  | succ m ih =>
    rw [hitS, Bool.or_eq_true, ih]
    constructor
    · rintro (⟨j, h1, h2⟩ | h)
      · exact ⟨j, by omega, h2⟩
      · exact ⟨m, by omega, h⟩
    · rintro ⟨j, h1, h2⟩
      by_cases e : j = m
      · subst e; exact .inr h2
      · exact .inl ⟨j, by omega, h2⟩
theorem end_is {k : Nat} {sign : ByteArray} (h : plusB sign = true) : endB k sign = isC k sign := by
  unfold endB isC
  rw [h, Bool.and_true, Bool.or_comm]
theorem hitS_all {t sign : ByteArray} (h : netOk t = true) : (hitS (netOf t) sign (circL (netOf t)) (circL (netOf t)).length && plusB sign) = hasB t sign := by
  unfold hasB
  rw [h, Bool.true_and]
  cases hp : plusB sign
  · rw [Bool.and_false]; rfl
  · rw [Bool.and_true, Bool.true_and, Bool.eq_iff_iff, hitS_iff, List.any_eq_true]
    constructor
    · rintro ⟨j, hj, he⟩
      rw [end_is hp] at he
      rw [List.getD_eq_getElem?_getD, List.getElem?_eq_getElem hj, Option.getD_some] at he
      exact ⟨_, List.getElem_mem hj, he⟩
    · rintro ⟨c, hc, he⟩
      obtain ⟨j, hj, rfl⟩ := List.getElem_of_mem hc
      refine ⟨j, hj, ?_⟩
      rw [end_is hp, List.getD_eq_getElem?_getD, List.getElem?_eq_getElem hj, Option.getD_some]; exact he
theorem star_text {k : Nat} (h : 1 ≤ k ∧ k ≤ 3) : ((bs [signT k]).toList == [42]) = decide (k = 3) := by
  have : k = 1 ∨ k = 2 ∨ k = 3 := by omega
  rw [ByteArray.toList_eq, bs_data]
  rcases this with rfl | rfl | rfl <;> decide
set_option maxHeartbeats 20000000 in
theorem law_Thomas (w : World) (a : Option Addr) (n c : Nat) (hc : c ≤ maxLen) (h : CodeAt w a n c) :
    Calls Tryz.prog 3 #[.slice a n c] w fun e w' => Below w.heap.size w w' ∧ e = .returned (.bool true) := by
  have hle := h.1
  have m0 : n ≤ 9223372036854775807 := by unfold maxLen at hc; omega
  have cD := Lib.hid (drawHas_any a n c hc w h)
  clear h
  by_cases s0 : n ≤ 1048576
  case' neg =>
    go_enter Tryz.func3, Tryz.ntmps3
    go_wp2_with fail
    go_ret
    exact ⟨Below.refl _ _, rfl⟩
  go_enter Tryz.func3, Tryz.ntmps3
  go_wp2_with fail
  refine cD.out.mono ?_
  rintro e w1 ⟨hW1, t, sign, ht, hsg, rfl⟩
  have hW1s := hW1.size
  have c1 := Lib.hid (fun wx => hasCircuit_impl t sign wx (by omega) (by omega))
  have c2 := Lib.hid (fun wx => hasCircuit_spec t sign wx (by omega) (by omega))
  have c3 := Lib.hid (fun wx => networkValid_impl t wx (by omega))
  have c4 := Lib.hid (fun wx => hasCircuit_impl t ⟨#[43]⟩ wx (by omega) (by decide))
  have c5 := Lib.hid (fun wx => hasCircuit_impl t ⟨#[45]⟩ wx (by omega) (by decide))
  have hno := Lib.hid (fun h : netOk t = false => hasB_no (sign := sign) h)
  have hall := Lib.hid (fun h : netOk t = true => hitS_all (sign := sign) h)
  obtain ⟨is', his⟩ : ∃ b, hasB t sign = b := ⟨_, rfl⟩
  rw [his] at c1 c2 hno hall
  have e1 : (is' != is') = false := by simp
  have e2 : (is' == is') = true := by simp
  clear his
  go_wp2_with fail
  refine (c1.out _).mono ?_
  rintro e w2 ⟨hW2, rfl⟩
  go_wp2_with fail
  refine (c2.out _).mono ?_
  rintro e w3 ⟨hW3, rfl⟩
  go_wp2_with fail
  refine (c3.out _).mono ?_
  rintro e w4 ⟨hW4, rfl⟩
  have k2 := hW2.size
  have k3 := hW3.size
  have k4 := hW4.size
  have hB4 : Below w.heap.size w w4 := ((hW1.trans (hW2.mono (by omega))).trans (hW3.mono (by omega))).trans (hW4.mono (by omega))
  cases hok : netOk t
  · have hi := hno.out hok
    subst hi
    clear hok
    go_wp2_with fail
    refine (c2.out _).mono ?_
    rintro e w5 ⟨hW5, rfl⟩
    go_wp2_with fail
    go_ret
    exact ⟨hB4.trans (hW5.mono hB4.size), rfl⟩
  · have hn := netOf_ok hok
    have hpt : pointsL t = fixL (netOf t) := by rw [pointsL, hok]; rfl
    have cp := Lib.hid (fun wx => hpt ▸ fixedPoints_impl t wx (by omega))
    have cA := Lib.hid (fun wx => attractorsOf_impl t wx (by omega) hok)
    have cC := Lib.hid (fun wx => circsL_yes hok ▸ circuitsOf_impl t wx (by omega))
    have hfin := Lib.hid (hall.out hok)
    have hplus := Lib.hid (fun h : hasB t ⟨#[43]⟩ = false => one_point_plus (N := netOf t) fun c hc ha => by
      rw [(has_plus hok).2 ⟨c, hc, ha⟩] at h; cases h)
    have hminus := Lib.hid (fun h : hasB t ⟨#[45]⟩ = false => att_points (N := netOf t) fun c hc ha => by
      rw [(has_minus hok).2 ⟨c, hc, ha⟩] at h; cases h)
    have hpl : (fixL (netOf t)).length ≤ 32 := Nat.le_trans (pickL_length _ _) (pw_le hn.2).2
    have hcl := circL_length hn.2
    have hcs := Lib.hid (fun c (h : c ∈ circL (netOf t)) => (circ_sound h).1.length)
    obtain ⟨hp, hhp⟩ : ∃ b, hasB t ⟨#[43]⟩ = b := ⟨_, rfl⟩
    obtain ⟨hm, hhm⟩ : ∃ b, hasB t ⟨#[45]⟩ = b := ⟨_, rfl⟩
    rw [hhp] at c4 hplus
    rw [hhm] at c5 hminus
    obtain ⟨N, hN⟩ : ∃ N, netOf t = N := ⟨_, rfl⟩
    rw [hN] at cp cA cC hfin hplus hminus hpl hn hcl hcs
    obtain ⟨np, hnp⟩ : ∃ k, (fixL N).length = k := ⟨_, rfl⟩
    obtain ⟨na, hna⟩ : ∃ k, (attL N).length = k := ⟨_, rfl⟩
    have cp2 := Lib.hid (fun wx => (show Calls Tryz.prog 11 #[.string t] wx fun e w' => Below wx.heap.size wx w' ∧ ∃ a c, e = .returned (.slice a np c) from by
      refine (cp.out wx).mono ?_
      rintro e w' ⟨h1, a, c, h2, _⟩
      rw [hnp] at h2
      exact ⟨h1, a, c, h2⟩))
    rw [hna] at cA
    rw [hnp] at hplus hminus hpl
    rw [hna] at hminus
    obtain ⟨cs, hcs0⟩ : ∃ cs, circL N = cs := ⟨_, rfl⟩
    rw [hcs0] at cC hfin hcl hcs
    obtain ⟨X, hX⟩ : ∃ X, cs.map (circT N) = X := ⟨_, rfl⟩
    have hXl : X.length = cs.length := by rw [← hX, List.length_map]
    have hXg := Lib.hid (fun j (h : j < cs.length) => (by rw [← hX]; simp [List.getD_eq_getElem?_getD, h] : X[j]? = some (circT N (cs.getD j []))))
    have hcm := Lib.hid (fun j (h : j < cs.length) => hcs.out (cs.getD j []) (by rw [List.getD_eq_getElem?_getD, List.getElem?_eq_getElem h]; exact List.getElem_mem h))
    rw [hX] at cC
    have F1 : hp = true ∨ (hp = false ∧ ¬ ((np : Int) > 1)) := by
      cases hp
      · right; have := hplus.out rfl; exact ⟨rfl, by omega⟩
      · exact .inl rfl
    have F2 : hm = true ∨ (hm = false ∧ ((np : Int) == 0) = false ∧ na = np) := by
      cases hm
      · right
        have := hminus.out rfl
        exact ⟨rfl, by rw [beq_eq_false_iff_ne]; omega, this.1⟩
      · exact .inl rfl
    have hpe := plusB_eq sign
    have HXl := Lib.hid hXl
    have hXm : X.length ≤ 40000 := by omega
    clear hok hpt hhp hhm hN hnp hna hcs0 hX hno hall hplus hminus hcl hXl cp hcs
    have Hpe := Lib.hid hpe
    have P : ((sign.toList == [43]) = true) ∨ ((sign.toList == [43]) = false ∧ (sign.toList == [45]) = true) ∨ ((sign.toList == [43]) = false ∧ (sign.toList == [45]) = false) := by
      cases h1 : (sign.toList == [43]) <;> cases h2 : (sign.toList == [45])
      · exact .inr (.inr ⟨rfl, rfl⟩)
      · exact .inr (.inl ⟨rfl, rfl⟩)
      · exact .inl rfl
      · exact .inl rfl
    clear hpe
    have z1 : ((np : Int) != (np : Int)) = false := by simp
    go_wp2_with fail
    refine (cp2.out _).mono ?_
    rintro e w5 ⟨hW5, a5, q5, rfl⟩
    go_wp2_with fail
    refine (c4.out _).mono ?_
    rintro e w6 ⟨hW6, rfl⟩
    have k5 := hW5.size
    have k6 := hW6.size
    have hB6 := (hB4.trans (hW5.mono hB4.size)).trans (hW6.mono (by have := hB4.size; omega))
    have main : ∀ (w7 : World), Below w.heap.size w w7 → Calls Tryz.prog 13 #[.string t] w7 fun e w' => (Below w.heap.size w w' ∧ ∃ a c, e = .returned (.slice a X.length c) ∧ TextsAt w' w7.heap.size a X) := fun w7 h7 => by
      refine (cC.out w7).mono ?_
      rintro e w' ⟨h1, a, c, rfl, h2⟩
      exact ⟨h7.trans (h1.mono h7.size), a, c, rfl, h2⟩
    have Main := Lib.hid main
    clear main
    have hpl2 : plusB sign = (sign.toList == [43] || sign.toList == [45]) := Hpe.out
    rcases P with P | ⟨P, P2⟩ | ⟨P, P2⟩
    all_goals
      have HP := Lib.hid (show plusB sign = _ from by rw [Hpe.out, P])
      clear hpl2
      rcases F1 with rfl | ⟨rfl, f1⟩ <;> rcases F2 with rfl | ⟨rfl, f2, rfl⟩
    all_goals
      go_wp2_with fail
      refine (c5.out _).mono ?_
      rintro e w7 ⟨hW7, rfl⟩
      have hB7 := hB6.trans (hW7.mono hB6.size)
    all_goals
      go_wp2_with (first | (go_at_call 12; refine (cA.out _).mono ?_; rintro e w7b ⟨hW7b, a7, q7, rfl⟩; have hB7b := hB7.trans (hW7b.mono hB7.size)))
      first
        | refine (Main.out _ hB7b).mono ?_
        | refine (Main.out _ hB7).mono ?_
      rintro e w8 ⟨hB8, a8, q8, rfl, hT8⟩
      have HT8 := Lib.hid hT8
      clear hT8
      go_wp2_with fail
      go_loopw [9, 10, 11] (fun sm i _ wr => ∃ k : Nat, k ≤ X.length ∧ i = .int .i64 k ∧ sm = .bool (hitS N sign cs k) ∧ ∃ nq, wr = w8.drewN nq) (fun _ i _ _ => X.length - (intOf i).toNat)
      case atStart => exact ⟨0, Nat.zero_le _, rfl, rfl, 0, rfl⟩
      case round =>
        obtain ⟨k, hk, rfl, rfl, nq, rfl⟩ := hrel
        by_cases hlt : k < X.length
        · obtain ⟨g, cur, tt, rfl, hBg, hcur, hcs, hcells⟩ := HT8.out.at' (by omega)
          have hkc : k < cs.length := by rw [← HXl.out]; exact hlt
          have hx := hXg.out k hkc
          have hcl5 := hcm.out k hkc
          have hst : hitS N sign cs (k + 1) = (hitS N sign cs k || endB (circC N (cs.getD k [])) sign) := rfl
          have hC := circC_le N (cs.getD k [])
          have hcell : w8.cell? ⟨g, k, none⟩ = some (.string (circT N (cs.getD k []))) := by
            rw [cell_of_row w8 _ _ _ _ _ hcur, hcells k hlt]
            rw [List.getElem?_eq_getElem hlt] at hx
            rw [Option.some.inj hx]
          have h1 := circT_size N (cs.getD k [])
          have h2 := circT_end N (cs.getD k [])
          have hstar := star_text hC
          obtain ⟨q, hq⟩ : ∃ q, circC N (cs.getD k []) = q := ⟨_, rfl⟩
          rw [hq] at h2 hst hC hstar
          obtain ⟨ct, hct⟩ : ∃ q, circT N (cs.getD k []) = q := ⟨_, rfl⟩
          rw [hct] at h1 h2 hcell
          obtain ⟨sz, hsz⟩ : ∃ z, ct.size = z := ⟨_, rfl⟩
          rw [hsz] at h1 h2
          have hb1 : ((bs [signT q]).toList == sign.toList) = (sign == bs [signT q]) := beq_texts _ _
          obtain ⟨lt, hlt0⟩ : ∃ q2, bs [signT q] = q2 := ⟨_, rfl⟩
          rw [hlt0] at h2 hstar hb1
          have hend : endB q sign = (sign == lt || (decide (q = 3) && plusB sign)) := by unfold endB; rw [hlt0]
          rw [hend, HP.out] at hst
          obtain ⟨b1, hb10⟩ : ∃ b, (sign == lt) = b := ⟨_, rfl⟩
          obtain ⟨b2, hb20⟩ : ∃ b, decide (q = 3) = b := ⟨_, rfl⟩
          rw [hb10] at hb1 hst
          rw [hb20] at hstar hst
          obtain ⟨sm, hsm⟩ : ∃ b, hitS N sign cs k = b := ⟨_, rfl⟩
          rw [hsm] at hst ⊢
          obtain ⟨s1, hs0⟩ : ∃ q, sz - 1 = q := ⟨_, rfl⟩
          rw [hs0] at h2
          have hs1 : (sz : Int) - 1 = (s1 : Int) := by omega
          have hs2 : (s1 : Int) ≤ (sz : Int) := by omega
          have hs3 : IntKind.i64.wrap (s1 : Int) = (s1 : Int) := wraps_i64 _ (by omega) (by omega)
          have hs5 : (0 : Int) ≤ (s1 : Int) := by omega
          have hs4 : s1 ≤ sz := by omega
          clear hs0
          have hi1 : (k : Int) < (X.length : Int) := by omega
          have hki : (0 : Int) ≤ (k : Int) := by omega
          have Hst := Lib.hid hst
          clear hx hcells hcur hq hct hlt0 hend hb10 hb20 hsm hst hcl5 hC h1
          cases sm
          · cases b1
            · cases b2
              all_goals
                go_wp2_with fail
                (refine wp_region_quiet_lit (by kernel_rfl) (by kernel_rfl) ?_; (repeat ((with_reducible refine wpQuiet_step ?_); intro K hK; go_simp; first | ((with_reducible refine hK _ ?_); clear hK K) | (rw [if_neg (by decide)]; (with_reducible refine hK _ ?_); clear hK K) | (apply Exists.intro; refine ⟨fun _ => ?_, hK _ ?_⟩; (fail); clear hK K))); (with_reducible refine wpQuiet_nil ?_); intro _ hw'; obtain ⟨nq, hw''⟩ := hw'; subst hw'')
                go_wp2_with fail
                go_roundw
                case rel => exact ⟨k + 1, by omega, by go_num, by rw [Hst.out]; first | rfl | (simp [P]; done) | (simp [P, P2]; done) | (simp [P]; exact eq_of_beq P2) | (simp [P]; exact P2), _, rfl⟩
                case measure => simp [intOf] <;> omega
            · go_wp2_with fail
              (refine wp_region_quiet_lit (by kernel_rfl) (by kernel_rfl) ?_; (repeat ((with_reducible refine wpQuiet_step ?_); intro K hK; go_simp; first | ((with_reducible refine hK _ ?_); clear hK K) | (rw [if_neg (by decide)]; (with_reducible refine hK _ ?_); clear hK K) | (apply Exists.intro; refine ⟨fun _ => ?_, hK _ ?_⟩; (fail); clear hK K))); (with_reducible refine wpQuiet_nil ?_); intro _ hw'; obtain ⟨nq, hw''⟩ := hw'; subst hw'')
              go_wp2_with fail
              go_roundw
              case rel => exact ⟨k + 1, by omega, by go_num, by rw [Hst.out]; first | rfl | simp, _, rfl⟩
              case measure => simp [intOf] <;> omega
          · go_wp2_with fail
            (refine wp_region_quiet_lit (by kernel_rfl) (by kernel_rfl) ?_; (repeat ((with_reducible refine wpQuiet_step ?_); intro K hK; go_simp; first | ((with_reducible refine hK _ ?_); clear hK K) | (rw [if_neg (by decide)]; (with_reducible refine hK _ ?_); clear hK K) | (apply Exists.intro; refine ⟨fun _ => ?_, hK _ ?_⟩; (fail); clear hK K))); (with_reducible refine wpQuiet_nil ?_); intro _ hw'; obtain ⟨nq, hw''⟩ := hw'; subst hw'')
            go_wp2_with fail
            go_roundw
            case rel => exact ⟨k + 1, by omega, by go_num, by rw [Hst.out]; first | rfl | simp, _, rfl⟩
            case measure => simp [intOf] <;> omega
        · obtain rfl : k = X.length := by omega
          have hf := hfin.out
          rw [HP.out, ← HXl.out] at hf
          obtain ⟨sm, hsm⟩ : ∃ b, hitS N sign cs X.length = b := ⟨_, rfl⟩
          rw [hsm] at hf ⊢
          have Hf := Lib.hid hf
          clear hf hsm
          cases sm
          all_goals
            go_wp2_with fail
            go_ret
            exact ⟨below_drewN hB8 _, by rw [← Hf.out]; first | rfl | (simp [P]; done) | (simp [P, P2]; done) | (simp [P]; exact eq_of_beq P2) | (simp [P]; exact P2)⟩
end Go.Proofs.YtkfagolmpbbckaaGreatDoor
