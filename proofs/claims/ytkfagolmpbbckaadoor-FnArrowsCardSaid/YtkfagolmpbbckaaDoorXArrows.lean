/- Walk of the law on arrows. -/
import Derived.Test.YtkfagolmpbbckaaDoorDm
import Derived.Test.YtkfagolmpbbckaaDoorRf
import Derived.Test.YtkfagolmpbbckaaDoorBn
import Derived.Test.YtkfagolmpbbckaaDoorImplM
import Derived.Test.YtkfagolmpbbckaaDoorSpecK
import Derived.Deep.QuietTactic
namespace Go.Proofs.YtkfagolmpbbckaaDoor
open Go Go.RowKit Go.Sw
set_option maxRecDepth 100000
set_option linter.unusedVariables false

theorem rowA_pre (N : Net) (i : Nat) {k m : Nat} (h : k ≤ m) : ∃ r, rowA N i m = rowA N i k ++ r := by
  induction m with
  | zero => obtain rfl : k = 0 := by omega
            exact ⟨[], by simp⟩
  | succ m ih =>
    by_cases e : k = m + 1
    · subst e; exact ⟨[], by simp⟩
    · obtain ⟨r, hr⟩ := ih (by omega)
      rw [rowA, hr]
      split
      · exact ⟨r ++ [arrT N i m], by rw [List.append_assoc]⟩
      · exact ⟨r, rfl⟩
theorem arrL_pre (N : Net) {i j : Nat} (h : i ≤ j) : ∃ r, arrL N j = arrL N i ++ r := by
  induction j with
  | zero => obtain rfl : i = 0 := by omega
            exact ⟨[], by simp⟩
  | succ j ih =>
    by_cases e : i = j + 1
    · subst e; exact ⟨[], by simp⟩
    · obtain ⟨r, hr⟩ := ih (by omega)
      rw [arrL, hr]
      exact ⟨r ++ rowA N j N.n, by rw [List.append_assoc]⟩
theorem part_pre {N : Net} {i k : Nat} (hi : i < N.n) (hk : k ≤ N.n) : ∃ r, arrL N N.n = partA N i k ++ r := by
  obtain ⟨r1, h1⟩ := arrL_pre N (show i + 1 ≤ N.n from hi)
  obtain ⟨r2, h2⟩ := rowA_pre N i hk
  refine ⟨r2 ++ r1, ?_⟩
  rw [h1, arrL, h2]
  unfold partA
  simp only [List.append_assoc]
/-- the next arrow stands where it should -/
theorem part_at {N : Net} {i k : Nat} (hi : i < N.n) (hk : k < N.n) (h : 0 < edgeC N i k) : ∃ hlt : (partA N i k).length < (arrL N N.n).length, (arrL N N.n)[(partA N i k).length] = arrT N i k := by
  obtain ⟨r, hr⟩ := part_pre hi (show k + 1 ≤ N.n from hk)
  rw [partA_yes h] at hr
  have hlt : (partA N i k).length < (arrL N N.n).length := by rw [hr]; simp
  refine ⟨hlt, ?_⟩
  have : (arrL N N.n)[(partA N i k).length]? = some (arrT N i k) := by
    rw [hr, List.append_assoc, List.getElem?_append_right (Nat.le_refl _)]; simp
  rw [List.getElem?_eq_getElem hlt] at this
  exact Option.some.inj this
theorem dig_cut (i : Nat) (h : i < 5) : (⟨#[48, 49, 50, 51, 52]⟩ : ByteArray).extract i (i + 1) = bs [UInt8.ofNat (48 + i)] := by
  have : i = 0 ∨ i = 1 ∨ i = 2 ∨ i = 3 ∨ i = 4 := by omega
  rcases this with rfl | rfl | rfl | rfl | rfl <;> (apply ba_ext; decide +kernel)
theorem arr_join (N : Net) (i k : Nat) : ((bs [UInt8.ofNat (48 + i)] ++ (⟨#[62]⟩ : ByteArray)) ++ bs [UInt8.ofNat (48 + k)]) ++ (⟨#[signT (edgeC N i k)]⟩ : ByteArray) = arrT N i k := by
  apply ba_ext
  simp [arrT, ByteArray.data_append, bs_data]
theorem infT_nat {t : ByteArray} (h : netOk t = true) {i k : Nat} (hi : i < (netOf t).n) (hk : k < (netOf t).n) : infT t i k = ⟨#[signT (edgeC (netOf t) i k)]⟩ := by
  unfold infT
  rw [swB_nat h hi, swB_nat h hk, Int.toNat_natCast, Int.toNat_natCast, sgT_code]; rfl
theorem infT_no {t : ByteArray} (h : netOk t = false) (x y : Int) : infT t x y = ByteArray.empty := by
  unfold infT swB
  rw [h]; rfl
set_option maxHeartbeats 2000000 in
theorem law_Arrows (w : World) (a : Option Addr) (n c : Nat) (hc : c ≤ maxLen) (h : CodeAt w a n c) :
    Calls Tryd.prog 7 #[.slice a n c] w fun e w' => Below w.heap.size w w' ∧ e = .returned (.bool true) := by
  have hle := h.1
  have m0 : n ≤ 9223372036854775807 := by unfold maxLen at hc; omega
  have cD := Lib.hid (drawInf_any a n c hc w h)
  clear h
  by_cases s0 : n ≤ 1048576
  case' neg =>
    go_enter Tryd.func7, Tryd.ntmps7
    go_wp2_with fail
    go_ret
    exact ⟨Below.refl _ _, rfl⟩
  go_enter Tryd.func7, Tryd.ntmps7
  go_wp2_with fail
  refine cD.out.mono ?_
  rintro e w1 ⟨hW1, t, x, y, ht, hx, hy, rfl⟩
  have hW1s := hW1.size
  have c1 := Lib.hid (fun wx => influence_impl t x y wx (by omega))
  have c2 := Lib.hid (fun wx => arrowsOf_impl t wx (by omega))
  have c3 := Lib.hid (fun wx => influence_spec t x y wx (by omega))
  have c4 := Lib.hid (fun wx => arrowsOf_spec t wx (by omega))
  have c5 := Lib.hid (fun wx => networkValid_impl t wx (by omega))
  have hl := arrowsL_length t
  obtain ⟨sT, hsT⟩ : ∃ s, infT t x y = s := ⟨_, rfl⟩
  obtain ⟨L, hL⟩ : ∃ L, arrowsL t = L := ⟨_, rfl⟩
  rw [hsT] at c1 c3
  rw [hL] at c2 c4 hl
  have e1 : (sT.toList == sT.toList) = true := by simp
  have e2 : (sT.toList != sT.toList) = false := by simp
  have hno := Lib.hid (fun h : netOk t = false => (⟨by rw [← hsT]; exact infT_no h x y, by rw [← hL, arrowsL, h]; rfl⟩ : sT = ByteArray.empty ∧ L = []))
  go_wp2_with fail
  refine (c1.out _).mono ?_
  rintro e w2 ⟨hW2, rfl⟩
  go_wp2_with fail
  refine (c2.out _).mono ?_
  rintro e w3 ⟨hW3, a3, p3, rfl, hT3⟩
  have HT3 := Lib.hid hT3
  clear hT3
  go_wp2_with fail
  refine (c3.out _).mono ?_
  rintro e w4 ⟨hW4, rfl⟩
  go_wp2_with fail
  refine (c4.out _).mono ?_
  rintro e w5 ⟨hW5, a5, p5, rfl, hT5⟩
  have cS := Lib.hid (bnTexts_any _ _ a3 a5 p3 p5 L w5 ((HT3.out.below hW4).below hW5) hT5 (by omega))
  clear hT5
  go_wp2_with fail
  refine cS.out.mono ?_
  rintro e w6 ⟨hW6, rfl⟩
  go_wp2_with fail
  refine (c5.out _).mono ?_
  rintro e w7 ⟨hW7, rfl⟩
  have k2 := hW2.size
  have k3 := hW3.size
  have k4 := hW4.size
  have k5 := hW5.size
  have k6 := hW6.size
  have k7 := hW7.size
  have hB7 : Below w.heap.size w w7 := (((((hW1.trans (hW2.mono (by omega))).trans (hW3.mono (by omega))).trans (hW4.mono (by omega))).trans (hW5.mono (by omega))).trans (hW6.mono (by omega))).trans (hW7.mono (by omega))
  cases hok : netOk t
  · obtain ⟨hs, hl0⟩ := hno.out hok
    subst hs hl0
    clear hok
    have z1 : ((ByteArray.empty).toList == (ByteArray.empty).toList) = true := by simp
    go_wp2_with fail
    refine (c3.out _).mono ?_
    rintro e w8 ⟨hW8, rfl⟩
    go_wp2_with fail
    refine (c4.out _).mono ?_
    rintro e w9 ⟨hW9, a9, p9, rfl, hT9⟩
    have cS2 := Lib.hid (fun wx => bnTexts_any 0 0 a3 a9 p3 p9 [] wx (textsAt_nil _ _ _) (textsAt_nil _ _ _) (by simp))
    clear hT9
    go_wp2_with fail
    refine (cS2.out _).mono ?_
    rintro e w10 ⟨hW10, rfl⟩
    have k8 := hW8.size
    have k9 := hW9.size
    have hB10 := ((hB7.trans (hW8.mono hB7.size)).trans (hW9.mono (by have := hB7.size; omega))).trans (hW10.mono (by have := hB7.size; omega))
    go_wp2_with fail
    go_ret
    exact ⟨hB10, by first | rfl | simp⟩
  · have hn := netOf_ok hok
    have cz := Lib.hid (fun wx => (sizI_yes hok) ▸ sizeOf_impl t wx (by omega))
    have ci := Lib.hid (fun (i k : Nat) (hi : i < (netOf t).n) (hk : k < (netOf t).n) (wx : World) => (infT_nat hok hi hk) ▸ influence_impl t (i : Int) (k : Int) wx (by omega))
    have cr := Lib.hid (fun (k : Nat) (hk : k < (netOf t).n) (wx : World) => ruleOf_impl t k wx (by omega) hok hk)
    have cs := Lib.hid (fun (i k : Nat) (hi : i < (netOf t).n) (wx : World) => (sgT_code (netOf t) i k) ▸ signOf_impl (netOf t).n ((netOf t).f k) i hn.1 hn.2 hi wx)
    have hLN : L = arrL (netOf t) (netOf t).n := by rw [← hL, arrowsL, hok]; rfl
    obtain ⟨N, hN⟩ : ∃ N, netOf t = N := ⟨_, rfl⟩
    rw [hN] at hn cz ci cr cs hLN
    have HLN := Lib.hid hLN
    clear hok hN hLN hno hsT hL c1 c2 c3 c4 c5
    go_wp2_with fail
    refine (cz.out _).mono ?_
    rintro e w8 ⟨hW8, rfl⟩
    have hB8 := hB7.trans (hW8.mono hB7.size)
    have HT8 := Lib.hid (((((HT3.out.below hW4).below hW5).below hW6).below hW7).below hW8)
    go_wp2_with fail
    go_loopw [9, 10, 11, 12] (fun at' i _ _ wr => ∃ k : Nat, k ≤ N.n ∧ i = .int .i64 k ∧ at' = .int .i64 ((arrL N k).length : Nat) ∧ Below w8.heap.size w8 wr) (fun _ i _ _ _ => N.n - (intOf i).toNat)
    case atStart => exact ⟨0, Nat.zero_le _, rfl, rfl, Below.refl _ _⟩
    case round =>
      obtain ⟨i, hi, rfl, rfl, hV⟩ := hrel
      have hVs := hV.size
      have ha1 := arrL_length hn.2 i
      by_cases hlt : i < N.n
      · have hp0 : ((arrL N i).length : Nat) = (partA N i 0).length := by rw [partA_zero]
        have hpe : (partA N i N.n).length = (arrL N (i + 1)).length := by rw [partA_end]
        rw [hp0]
        clear hp0 ha1
        go_wp2_with fail
        go_loopw [9, 11, 12] (fun at' j _ wr => ∃ k : Nat, k ≤ N.n ∧ j = .int .i64 k ∧ at' = .int .i64 ((partA N i k).length : Nat) ∧ Below w8.heap.size w8 wr) (fun _ j _ _ => N.n - (intOf j).toNat)
        case atStart => exact ⟨0, Nat.zero_le _, rfl, rfl, hV⟩
        case round =>
          obtain ⟨k, hk, rfl, rfl, hU⟩ := hrel
          have hUs := hU.size
          have ha2 := partA_length hn.2 i k
          by_cases hlk : k < N.n
          · have D1 := Lib.hid (ci.out i k hlt hlk)
            have D2 := Lib.hid (cr.out k hlk)
            have D3 := Lib.hid (cs.out i k hlt)
            have hz := sign_zero (edgeC N i k) (edgeC_le N i k)
            have hyes := Lib.hid (fun h : 0 < edgeC N i k => part_at hlt hlk h)
            have hyl := Lib.hid (fun h : 0 < edgeC N i k => (show (partA N i (k + 1)).length = (partA N i k).length + 1 by rw [partA_yes h]; simp))
            have hnl := Lib.hid (fun h : edgeC N i k = 0 => (show (partA N i (k + 1)).length = (partA N i k).length by rw [partA_no h]))
            have hj := arr_join N i k
            obtain ⟨tt, htt⟩ : ∃ z, tabText N.n (N.f k) = z := ⟨_, rfl⟩
            rw [htt] at D2 D3
            obtain ⟨z, hz0⟩ : ∃ z, edgeC N i k = z := ⟨_, rfl⟩
            rw [hz0] at D1 D3 hz hyes hyl hnl hj
            obtain ⟨sg, hsg⟩ : ∃ s, (⟨#[signT z]⟩ : ByteArray) = s := ⟨_, rfl⟩
            have hsgz : sg.size = 1 := by rw [← hsg]; rfl
            rw [hsg] at D1 D3 hz hj
            obtain ⟨A, hA⟩ : ∃ s, arrT N i k = s := ⟨_, rfl⟩
            rw [hA] at hyes hj
            obtain ⟨m, hm⟩ : ∃ m, (partA N i k).length = m := ⟨_, rfl⟩
            rw [hm] at hyl hnl ha2 ⊢
            have q1 : (sg.toList != sg.toList) = false := by simp
            have Hj := Lib.hid hj
            clear htt hz0 hsg hA hj
            by_cases h0 : 0 < z
            · rw [decide_eq_true h0, Bool.not_true] at hz
              obtain ⟨hml, hmA⟩ := hyes.out h0
              have hy2 := Lib.hid (hyl.out h0)
              obtain ⟨g, cur, tt2, hg, hBg, hcur, hcs, hcells⟩ := (HT8.out.below hU).at' (by rw [HLN.out]; omega)
              subst hg
              have hmL : m < L.length := by rw [HLN.out]; omega
              have hcell : wr.cell? ⟨g, m, none⟩ = some (.string A) := by
                rw [cell_of_row wr _ _ _ _ _ hcur, hcells m hmL]
                congr 2
                subst hm
                rw [← hmA]
                congr 1 <;> exact HLN.out
              have hmLi : ¬ ((m : Int) ≥ (L.length : Int)) := by omega
              have hgl := block_lt hcur
              have i1 := dig_cut i (by omega)
              have i2 := dig_cut k (by omega)
              have z1 : (bs [UInt8.ofNat (48 + i)]).size = 1 := rfl
              have z2 : (bs [UInt8.ofNat (48 + k)]).size = 1 := rfl
              have hj := Hj.out
              obtain ⟨di, hdi⟩ : ∃ d, bs [UInt8.ofNat (48 + i)] = d := ⟨_, rfl⟩
              obtain ⟨dk, hdk⟩ : ∃ d, bs [UInt8.ofNat (48 + k)] = d := ⟨_, rfl⟩
              rw [hdi] at i1 z1 hj
              rw [hdk] at i2 z2 hj
              have qA : (A.toList != A.toList) = false := by simp
              have HJ := Lib.hid hj
              have I1 := Lib.hid i1
              have I2 := Lib.hid i2
              clear hyes hyl hnl hcells hcur hmA h0 hm Hj hj i1 i2 hdi hdk
              go_wp2_with fail
              refine (D1.out _).mono ?_
              rintro e v1 ⟨hV1, rfl⟩
              go_wp2_with fail
              refine (D2.out _).mono ?_
              rintro e v2 ⟨hV2, rfl⟩
              go_wp2_with fail
              refine (D3.out _).mono ?_
              rintro e v3 ⟨hV3, rfl⟩
              have g1 := hV1.size
              have g2 := hV2.size
              have g3 := hV3.size
              have hB3 : Below wr.heap.size wr v3 := (hV1.trans (hV2.mono (by omega))).trans (hV3.mono (by omega))
              have hcell3 : v3.cell? ⟨g, m, none⟩ = some (.string A) := (hB3.cell (show g < wr.heap.size from hgl)).trans hcell
              have hU3 := hU.trans (hB3.mono hUs)
              have i1 := I1.out
              have i2 := I2.out
              have hj := HJ.out
              have f1 : (0 : Int) ≤ (i : Int) := by omega
              have f2 : (i : Int) ≤ (i : Int) + 1 := by omega
              have f3 : (i : Int) + 1 ≤ 5 := by omega
              have f4 : IntKind.i64.wrap ((i : Int) + 1) = (i : Int) + 1 := wraps_i64 _ (by omega) (by omega)
              have f5 : ((i : Int) + 1).toNat = i + 1 := by omega
              have f6 : (0 : Int) ≤ (k : Int) := by omega
              have f7 : (k : Int) ≤ (k : Int) + 1 := by omega
              have f8 : (k : Int) + 1 ≤ 5 := by omega
              have f9 : IntKind.i64.wrap ((k : Int) + 1) = (k : Int) + 1 := wraps_i64 _ (by omega) (by omega)
              have f10 : ((k : Int) + 1).toNat = k + 1 := by omega
              have f11 : ¬ 9223372036854775807 < di.size + 1 := by omega
              have f12 : ¬ 9223372036854775807 < di.size + 1 + dk.size := by omega
              have f13 : ¬ 9223372036854775807 < di.size + 1 + dk.size + sg.size := by omega
              go_wp2_with fail
              (refine wp_region_quiet_lit (by kernel_rfl) (by kernel_rfl) ?_; (repeat ((with_reducible refine wpQuiet_step ?_); intro K hK; go_simp; first | ((with_reducible refine hK _ ?_); clear hK K) | (rw [if_neg (by decide)]; (with_reducible refine hK _ ?_); clear hK K) | (apply Exists.intro; refine ⟨fun _ => ?_, hK _ ?_⟩; (fail); clear hK K))); (with_reducible refine wpQuiet_nil ?_); intro _ hw'; obtain ⟨nq, hw''⟩ := hw'; subst hw'')
              go_wp2_with fail
              go_roundw
              case rel => exact ⟨k + 1, by omega, by go_num, by rw [hy2.out]; first | rfl | go_num, hU3.trans (below_drewN (Below.refl _ _) _)⟩
              case measure => simp [intOf] <;> omega
            · rw [decide_eq_false h0, Bool.not_false] at hz
              have hn2 := Lib.hid (hnl.out (by omega))
              clear hyes hyl hnl h0 hm
              go_wp2_with fail
              refine (D1.out _).mono ?_
              rintro e v1 ⟨hV1, rfl⟩
              go_wp2_with fail
              refine (D2.out _).mono ?_
              rintro e v2 ⟨hV2, rfl⟩
              go_wp2_with fail
              refine (D3.out _).mono ?_
              rintro e v3 ⟨hV3, rfl⟩
              have g1 := hV1.size
              have g2 := hV2.size
              have g3 := hV3.size
              have hU3 := hU.trans (((hV1.trans (hV2.mono (by omega))).trans (hV3.mono (by omega))).mono hUs)
              go_wp2_with fail
              go_roundw
              case rel => exact ⟨k + 1, by omega, by go_num, by rw [hn2.out], hU3⟩
              case measure => simp [intOf] <;> omega
          · obtain rfl : k = N.n := by omega
            go_wp2_with fail
            go_roundw
            case rel => exact ⟨i + 1, by omega, by go_num, by rw [hpe], hU⟩
            case measure => simp [intOf] <;> omega
      · obtain rfl : i = N.n := by omega
        have hLl : L.length = (arrL N N.n).length := by rw [HLN.out]
        have hfin : (((arrL N N.n).length : Nat) : Int) = (L.length : Int) := by omega
        rw [hfin]
        have q2 : ((L.length : Int) == (L.length : Int)) = true := by simp
        clear hfin hLl
        go_wp2_with fail
        go_ret
        exact ⟨hB8.trans (hV.mono hB8.size), rfl⟩
end Go.Proofs.YtkfagolmpbbckaaDoor
