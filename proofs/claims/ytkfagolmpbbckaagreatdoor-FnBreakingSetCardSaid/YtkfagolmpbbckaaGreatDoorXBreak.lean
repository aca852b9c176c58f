/- Walk of the law on sets that break circuits. -/
import Derived.Test.YtkfagolmpbbckaaGreatDoorDn
import Derived.Test.YtkfagolmpbbckaaGreatDoorLn
import Derived.Test.YtkfagolmpbbckaaGreatDoorCc
import Derived.Test.YtkfagolmpbbckaaGreatDoorImplL
import Derived.Test.YtkfagolmpbbckaaGreatDoorSpecJ
import Derived.Deep.QuietTactic
namespace Go.Proofs.YtkfagolmpbbckaaGreatDoor
open Go Go.RowKit Go.Sw
set_option maxRecDepth 100000
set_option linter.unusedVariables false

theorem shbB (x k : Nat) : bits .and .i64 ((x : Int) / 2 ^ k) 1 = (((x.testBit k).toNat : Nat) : Int) := (Go.Sw.and_one _).trans (div_pow_mod x k)
theorem shmB (x k : Nat) : ((x : Int) / 2 ^ k) % 2 = (((x.testBit k).toNat : Nat) : Int) := div_pow_mod x k
/-- how many of the first k switches are in a set -/
def cntS (set : Nat) : Nat → Nat
  | 0 => 0
  | k + 1 => cntS set k + (set.testBit k).toNat
theorem cntS_le (set k : Nat) : cntS set k ≤ k := by
  induction k with
  | zero => exact Nat.le_refl _
  | succ k ih => rw [cntS]; cases set.testBit k <;> simp <;> omega
theorem cntS_all {set n : Nat} (hn : n ≤ 5) (hs : set < pw n) : cntS set n = onesN set := by
  have h0 : ∀ k, n ≤ k → set.testBit k = false := fun k hk => testBit_high hs hk
  unfold onesN
  have : n = 0 ∨ n = 1 ∨ n = 2 ∨ n = 3 ∨ n = 4 ∨ n = 5 := by omega
  rcases this with rfl | rfl | rfl | rfl | rfl | rfl
  · rw [h0 0 (by omega), h0 1 (by omega), h0 2 (by omega), h0 3 (by omega), h0 4 (by omega)]; rfl
  · rw [h0 1 (by omega), h0 2 (by omega), h0 3 (by omega), h0 4 (by omega)]; simp [cntS]
  · rw [h0 2 (by omega), h0 3 (by omega), h0 4 (by omega)]; simp [cntS]
  · rw [h0 3 (by omega), h0 4 (by omega)]; simp [cntS]
  · rw [h0 4 (by omega)]; simp [cntS]
  · simp [cntS]
theorem hitTo_allB {c : List Nat} {set : Nat} (h : (c.any fun k => set.testBit k) = true) : hitTo set false c c.length = true := by
  unfold hitTo
  rw [List.take_length, h]; rfl
/-- what is said of a breaking set -/
structure BrkF (N : Net) (sign : ByteArray) (set : Nat) : Prop where
  lt : set < pw N.n
  hit : ∀ c ∈ circL N, isC (circC N c) sign = true → (c.any fun k => set.testBit k) = true
  zero : (set = 0) ↔ ¬ ∃ c ∈ circL N, isC (circC N c) sign = true
  cnt : sign = ⟨#[43]⟩ → (fixL N).length ≤ 2 ^ onesN set
theorem brk_facts {N : Net} (h5 : N.n ≤ 5) (sign : ByteArray) : BrkF N sign (bestTo N sign (pw N.n)) := by
  have hlt := bestTo_lt N sign (pw N.n) (Nat.le_refl _)
  have hb := bestTo_br N sign (pw N.n)
  have hno : ∀ c ∈ circL N, missB N sign (bestTo N sign (pw N.n)) c = false := fun c hc => by
    unfold brB at hb
    rw [Bool.not_eq_true', List.any_eq_false] at hb
    simpa using hb c hc
  have hhit : ∀ c ∈ circL N, isC (circC N c) sign = true → (c.any fun k => (bestTo N sign (pw N.n)).testBit k) = true := fun c hc hi => by
    have hm := hno c hc
    unfold missB at hm
    rw [hi, Bool.true_and, meet_zero, Bool.not_eq_false'] at hm
    exact hm
  refine ⟨hlt, hhit, ⟨fun e => ?_, fun h => ?_⟩, fun e => by subst e; exact break_count h5 hlt hb⟩
  · rintro ⟨c, hc, hi⟩
    have := hhit c hc hi
    rw [e, List.any_eq_true] at this
    obtain ⟨x, _, hx⟩ := this
    rw [Nat.zero_testBit] at hx
    exact absurd hx (by decide)
  · have h0 : brB N sign 0 = true := by
      unfold brB
      rw [Bool.not_eq_true', List.any_eq_false]
      intro c hc hm
      unfold missB at hm
      rw [Bool.and_eq_true] at hm
      exact h ⟨c, hc, hm.1⟩
    have := (bestTo_best N h5 sign (pw N.n)).2 0 (Nat.two_pow_pos _) (Nat.zero_le _) h0
    unfold noWorse at this
    have z : onesN 0 = 0 := by decide
    rw [z] at this
    rcases this with h1 | ⟨_, h2⟩
    · omega
    · omega
theorem break_cases (t sign : ByteArray) : breakI t sign = -1 ∨ (netOk t = true ∧ plusB sign = true ∧ breakI t sign = ((bestTo (netOf t) sign (pw (netOf t).n) : Nat) : Int)) := by
  unfold breakI
  cases h1 : netOk t <;> cases h2 : plusB sign
  · exact .inl rfl
  · exact .inl rfl
  · exact .inl rfl
  · exact .inr ⟨rfl, rfl, rfl⟩
theorem has_zero {t sign : ByteArray} (h : netOk t = true) (hp : plusB sign = true) : hasB t sign = true ↔ ∃ c ∈ circL (netOf t), isC (circC (netOf t) c) sign = true := by
  unfold hasB
  rw [h, hp, Bool.true_and, Bool.true_and, List.any_eq_true]
theorem sign_plusB {s : ByteArray} (h : (s.toList == [43]) = true) : s = ⟨#[43]⟩ := by
  rw [beq_iff_eq, ByteArray.toList_eq] at h
  apply ba_ext
  exact h
theorem star_textB {k : Nat} (h : 1 ≤ k ∧ k ≤ 3) : ((bs [signT k]).toList == [42]) = decide (k = 3) := by
  have : k = 1 ∨ k = 2 ∨ k = 3 := by omega
  rw [ByteArray.toList_eq, bs_data]
  rcases this with rfl | rfl | rfl <;> decide
set_option maxHeartbeats 8000000 in
theorem law_BreakingSet (w : World) (a : Option Addr) (n c : Nat) (hc : c ≤ maxLen) (h : CodeAt w a n c) :
    Calls Tryz.prog 6 #[.slice a n c] w fun e w' => Below w.heap.size w w' ∧ e = .returned (.bool true) := by
  have hle := h.1
  have m0 : n ≤ 9223372036854775807 := by unfold maxLen at hc; omega
  have cD := Lib.hid (drawBreak_any a n c hc w h)
  clear h
  by_cases s0 : n ≤ 1048576
  case' neg =>
    go_enter Tryz.func6, Tryz.ntmps6
    go_wp2_with fail
    go_ret
    exact ⟨Below.refl _ _, rfl⟩
  go_enter Tryz.func6, Tryz.ntmps6
  go_wp2_with fail
  refine cD.out.mono ?_
  rintro e w1 ⟨hW1, t, sign, ht, hsg, rfl⟩
  have hW1s := hW1.size
  have c1 := Lib.hid (fun wx => breakingSet_impl t sign wx (by omega) (by omega))
  have c2 := Lib.hid (fun wx => breakingSet_spec t sign wx (by omega) (by omega))
  rcases break_cases t sign with hr | ⟨hok, hp, hr⟩
  · rw [hr] at c1 c2
    clear hr
    go_wp2_with fail
    refine (c1.out _).mono ?_
    rintro e w2 ⟨hW2, rfl⟩
    go_wp2_with fail
    refine (c2.out _).mono ?_
    rintro e w3 ⟨hW3, rfl⟩
    go_wp2_with fail
    refine (c2.out _).mono ?_
    rintro e w4 ⟨hW4, rfl⟩
    have k2 := hW2.size
    have k3 := hW3.size
    go_wp2_with fail
    go_ret
    exact ⟨((hW1.trans (hW2.mono (by omega))).trans (hW3.mono (by omega))).trans (hW4.mono (by omega)), rfl⟩
  · have hn := netOf_ok hok
    rw [hr] at c1 c2
    have hF := brk_facts hn.2 sign
    have hpt : pointsL t = fixL (netOf t) := by rw [pointsL, hok]; rfl
    have cz := Lib.hid (fun wx => (sizI_yes hok) ▸ sizeOf_impl t wx (by omega))
    have cC := Lib.hid (fun wx => circsL_yes hok ▸ circuitsOf_impl t wx (by omega))
    have ch := Lib.hid (fun wx => hasCircuit_impl t sign wx (by omega) (by omega))
    have cp := Lib.hid (fun wx => (show Calls Tryz.prog 11 #[.string t] wx fun e w' => Below wx.heap.size wx w' ∧ ∃ a c, e = .returned (.slice a (fixL (netOf t)).length c) from by
      have := fixedPoints_impl t wx (by omega)
      rw [hpt] at this
      refine this.mono ?_
      rintro e w' ⟨h1, a, c, h2, _⟩
      exact ⟨h1, a, c, h2⟩))
    obtain ⟨set, hset0⟩ : ∃ k, bestTo (netOf t) sign (pw (netOf t).n) = k := ⟨_, rfl⟩
    rw [hset0] at c1 c2 hF
    obtain ⟨hb, hhb⟩ : ∃ b, hasB t sign = b := ⟨_, rfl⟩
    have hzero : ((set : Int) == 0) = !hb := by
      rw [← hhb, Bool.eq_iff_iff, beq_iff_eq, Bool.not_eq_true']
      constructor
      · intro e
        have := hF.zero.1 (by omega)
        cases h : hasB t sign
        · rfl
        · exact absurd ((has_zero hok hp).1 h) this
      · intro e
        have := hF.zero.2 fun hc => by
          rw [(has_zero hok hp).2 hc] at e; cases e
        omega
    rw [hhb] at ch
    have hpl : (fixL (netOf t)).length ≤ 32 := Nat.le_trans (pickL_length _ _) (pw_le hn.2).2
    have hcl := circL_length hn.2
    have hcs := Lib.hid (fun c (h : c ∈ circL (netOf t)) => (circ_sound h).1)
    have hones := cntS_all hn.2 hF.lt
    have hcnt := Lib.hid hF.cnt
    have hhit := Lib.hid hF.hit
    have hsl := hF.lt
    obtain ⟨N, hN⟩ : ∃ N, netOf t = N := ⟨_, rfl⟩
    rw [hN] at hn cz cC cp hpl hcl hcs hones hcnt hhit hsl
    obtain ⟨np, hnp⟩ : ∃ k, (fixL N).length = k := ⟨_, rfl⟩
    rw [hnp] at cp hpl hcnt
    obtain ⟨cs, hcs0⟩ : ∃ cs, circL N = cs := ⟨_, rfl⟩
    rw [hcs0] at cC hcl hcs hhit
    obtain ⟨X, hX⟩ : ∃ X, cs.map (circT N) = X := ⟨_, rfl⟩
    have hXl : X.length = cs.length := by rw [← hX, List.length_map]
    have hXg := Lib.hid (fun j (h : j < cs.length) => (by rw [← hX]; simp [h] : X[j]? = some (circT N (cs[j]'h))))
    rw [hX] at cC
    have HXl := Lib.hid hXl
    have hXm : X.length ≤ 40000 := by omega
    have hpw := pw_le hn.2
    have hpe := plusB_eq sign
    rw [hp] at hpe
    have hlast := Lib.hid (fun (e : (sign.toList == [43]) = true) => hcnt.out (sign_plusB e))
    have z1 : ((set : Int) != (set : Int)) = false := by simp
    have z2 : ¬ ((set : Int) < 0) := by omega
    clear hok hp hr hpt hset0 hhb hN hnp hcs0 hX hcl hXl hcnt hF
    have Hpe := Lib.hid hpe
    have Hones := Lib.hid hones
    clear hpe hones
    go_wp2_with fail
    refine (c1.out _).mono ?_
    rintro e w2 ⟨hW2, rfl⟩
    go_wp2_with fail
    refine (c2.out _).mono ?_
    rintro e w3 ⟨hW3, rfl⟩
    have k2 := hW2.size
    have k3 := hW3.size
    have hB3 : Below w.heap.size w w3 := (hW1.trans (hW2.mono (by omega))).trans (hW3.mono (by omega))
    go_wp2_with fail
    refine (cC.out _).mono ?_
    rintro e w4 ⟨hW4, a4, q4, rfl, hT4⟩
    have HT4 := Lib.hid hT4
    have hB4 := hB3.trans (hW4.mono hB3.size)
    have hB4s := hB4.size
    clear hT4
    go_wp2_with fail
    go_loopw [7, 8] (fun m j wr => ∃ k : Nat, k ≤ N.n ∧ j = .int .i64 k ∧ m = .int .i64 ((cntS set k : Nat) : Int) ∧ Below w4.heap.size w4 wr) (fun _ j _ => N.n - (intOf j).toNat)
    case atStart => exact ⟨0, Nat.zero_le _, rfl, rfl, Below.refl _ _⟩
    case round =>
      obtain ⟨k, hk, rfl, rfl, hV⟩ := hrel
      have hVs := hV.size
      have hol := cntS_le set k
      by_cases hlt : k < N.n
      · have b1 := shbB set k
        have b2 := shmB set k
        have hos : cntS set (k + 1) = cntS set k + (set.testBit k).toNat := rfl
        obtain ⟨o, ho⟩ : ∃ o, cntS set k = o := ⟨_, rfl⟩
        rw [ho] at hos hol ⊢
        have Hos := Lib.hid hos
        obtain ⟨sb, hsb⟩ : ∃ b, (set.testBit k).toNat = b := ⟨_, rfl⟩
        rw [hsb] at b1 b2 Hos
        have hsb1 : sb ≤ 1 := by rw [← hsb]; cases set.testBit k <;> simp
        clear hos ho hsb
        go_wp2_with fail
        refine (cz.out _).mono ?_
        rintro e v1 ⟨hV1, rfl⟩
        go_wp2_with fail
        go_roundw
        case rel => exact ⟨k + 1, by omega, by go_num, by rw [Hos.out]; first | rfl | go_num, hV.trans (hV1.mono hVs)⟩
        case measure => simp [intOf] <;> omega
      · obtain rfl : k = N.n := by omega
        rw [Hones.out] at hol ⊢
        obtain ⟨nn, hnn⟩ : ∃ k, onesN set = k := ⟨_, rfl⟩
        rw [hnn] at hol hlast ⊢
        clear hnn
        go_wp2_with fail
        refine (cz.out _).mono ?_
        rintro e v1 ⟨hV1, rfl⟩
        have hVV := hV.trans (hV1.mono hVs)
        have HT := Lib.hid (HT4.out.below hVV)
        have hBv := hB4.trans (hVV.mono hB4s)
        clear hV hV1 hVV
        go_wp2_with fail
        go_loopw [9, 10, 11, 12] (fun i _ _ _ wr => ∃ k : Nat, k ≤ X.length ∧ i = .int .i64 k ∧ ∃ nq, wr = v1.drewN nq) (fun i _ _ _ _ => X.length - (intOf i).toNat)
        case atStart => exact ⟨0, Nat.zero_le _, rfl, 0, rfl⟩
        case round =>
          obtain ⟨k, hk, rfl, nq, rfl⟩ := hrel
          by_cases hlt : k < X.length
          · obtain ⟨g, cur, tt, rfl, hBg, hcur, hcs1, hcells⟩ := HT.out.at' (by omega)
            have hkc : k < cs.length := by rw [← HXl.out]; exact hlt
            have hx := hXg.out k hkc
            have hwok := hcs.out _ (List.getElem_mem hkc)
            have hhk := Lib.hid (hhit.out _ (List.getElem_mem hkc))
            obtain ⟨cc, hcc⟩ : ∃ q, cs[k] = q := ⟨_, rfl⟩
            rw [hcc] at hx hwok hhk
            have hC := circC_le N cc
            have hcell : v1.cell? ⟨g, k, none⟩ = some (.string (circT N cc)) := by
              rw [cell_of_row v1 _ _ _ _ _ hcur, hcells k hlt]
              rw [List.getElem?_eq_getElem hlt] at hx
              rw [Option.some.inj hx]
            have h1 := circT_size N cc
            have h2 := circT_end N cc
            have hat := Lib.hid (circT_at N cc fun x hx => by have := (hwok.2.2 x hx).1; omega)
            have hstar := star_textB hC
            have hlen5 := hwok.length
            have hcx := Lib.hid (fun x (h : x ∈ cc) => (hwok.2.2 x h).1)
            obtain ⟨q, hq⟩ : ∃ q, circC N cc = q := ⟨_, rfl⟩
            rw [hq] at h2 hC hstar hhk
            obtain ⟨ct, hct⟩ : ∃ q, circT N cc = q := ⟨_, rfl⟩
            rw [hct] at h1 h2 hcell hat
            obtain ⟨sz, hsz⟩ : ∃ z, ct.size = z := ⟨_, rfl⟩
            rw [hsz] at h1 h2
            have hb1 : ((bs [signT q]).toList == sign.toList) = (sign == bs [signT q]) := beq_texts _ _
            have hisc : isC q sign = (decide (q = 3) || sign == bs [signT q]) := rfl
            obtain ⟨lt, hlt0⟩ : ∃ q2, bs [signT q] = q2 := ⟨_, rfl⟩
            rw [hlt0] at h2 hstar hb1 hisc
            obtain ⟨b1, hb10⟩ : ∃ b, (sign == lt) = b := ⟨_, rfl⟩
            obtain ⟨b2, hb20⟩ : ∃ b, decide (q = 3) = b := ⟨_, rfl⟩
            rw [hb10] at hb1 hisc
            rw [hb20] at hstar hisc
            rw [hisc] at hhk
            obtain ⟨s1, hs0⟩ : ∃ q, sz - 1 = q := ⟨_, rfl⟩
            rw [hs0] at h2
            have hs1 : (sz : Int) - 1 = (s1 : Int) := by omega
            have hs2 : (s1 : Int) ≤ (sz : Int) := by omega
            have hs3 : IntKind.i64.wrap (s1 : Int) = (s1 : Int) := wraps_i64 _ (by omega) (by omega)
            have hs5 : (0 : Int) ≤ (s1 : Int) := by omega
            have Hh1 := Lib.hid h1
            clear h1
            have hi1 : (k : Int) < (X.length : Int) := by omega
            have hki : (0 : Int) ≤ (k : Int) := by omega
            have hn1 : (lt.toList != sign.toList) = !b1 := by rw [bne, hb1]
            have hn2 : (lt.toList != [42]) = !b2 := by rw [bne, hstar]
            clear hx hcells hcur hq hct hlt0 hisc hb10 hb20 hC hs0 hcc hwok
            cases hbb : (b2 || b1)
            · rw [Bool.or_eq_false_iff] at hbb
              obtain ⟨rfl, rfl⟩ := hbb
              go_wp2_with fail
              (refine wp_region_quiet_lit (by kernel_rfl) (by kernel_rfl) ?_; (repeat ((with_reducible refine wpQuiet_step ?_); intro K hK; go_simp; first | ((with_reducible refine hK _ ?_); clear hK K) | (rw [if_neg (by decide)]; (with_reducible refine hK _ ?_); clear hK K) | (apply Exists.intro; refine ⟨fun _ => ?_, hK _ ?_⟩; (fail); clear hK K))); (with_reducible refine wpQuiet_nil ?_); intro _ hw'; obtain ⟨nq, hw''⟩ := hw'; subst hw'')
              go_wp2_with fail
              go_roundw
              case rel => exact ⟨k + 1, by omega, by go_num, _, rfl⟩
              case measure => simp [intOf] <;> omega
            · have Hhk := Lib.hid (hitTo_allB (hhk.out hbb))
              have C : b1 = true ∨ (b1 = false ∧ b2 = true) := by
                revert hbb
                cases b1 <;> cases b2 <;> simp
              clear hhk hbb
              rcases C with rfl | ⟨rfl, rfl⟩
              all_goals
                go_wp2_with fail
                (refine wp_region_quiet_lit (by kernel_rfl) (by kernel_rfl) ?_; (repeat ((with_reducible refine wpQuiet_step ?_); intro K hK; go_simp; first | ((with_reducible refine hK _ ?_); clear hK K) | (rw [if_neg (by decide)]; (with_reducible refine hK _ ?_); clear hK K) | (apply Exists.intro; refine ⟨fun _ => ?_, hK _ ?_⟩; (fail); clear hK K))); (with_reducible refine wpQuiet_nil ?_); intro _ hw'; obtain ⟨nq, hw''⟩ := hw'; subst hw'')
                go_wp2_with fail
                go_loopw [11, 12] (fun hb j wy => ∃ m : Nat, m ≤ cc.length ∧ j = .int .i64 m ∧ hb = .bool (hitTo set false cc m) ∧ ∃ nr, wy = v1.drewN nr) (fun _ j _ => cc.length - (intOf j).toNat)
                case atStart => exact ⟨0, Nat.zero_le _, rfl, rfl, _, rfl⟩
                case round =>
                  obtain ⟨m, hm, rfl, rfl, nr, rfl⟩ := hrel
                  by_cases hltm : m < cc.length
                  · obtain ⟨hks, hkb⟩ := hat.out m hltm
                    have hs2 := hitTo_succ set false cc m hltm
                    have hck := hcx.out _ (List.getElem_mem hltm)
                    obtain ⟨x, hx⟩ : ∃ x, cc[m] = x := ⟨_, rfl⟩
                    rw [hx] at hkb hs2 hck
                    have b1' := shbB set x
                    have b2' := shmB set x
                    obtain ⟨h, hh⟩ : ∃ h, hitTo set false cc m = h := ⟨_, rfl⟩
                    rw [hh] at hs2 ⊢
                    have hm1 : (m : Int) + 1 < (sz : Int) := by have := Hh1.out; omega
                    obtain ⟨by', hby⟩ : ∃ z, ct[m] = z := ⟨_, rfl⟩
                    rw [hby] at hkb
                    clear hx hh
                    cases h
                    · rw [Bool.false_or] at hs2
                      obtain ⟨sb, hsb⟩ : ∃ b, set.testBit x = b := ⟨_, rfl⟩
                      rw [hsb] at b1' b2' hs2
                      have Hs2 := Lib.hid hs2
                      clear hs2 hsb
                      cases sb
                      all_goals
                        simp only [Bool.toNat_true, Bool.toNat_false, Int.natCast_zero, Int.natCast_one] at b1' b2'
                        go_wp2_with fail
                        go_roundw
                        case rel => exact ⟨m + 1, by omega, by go_num, by rw [Hs2.out], _, rfl⟩
                        case measure => simp [intOf] <;> omega
                    · rw [Bool.true_or] at hs2
                      have Hs2 := Lib.hid hs2
                      clear hs2
                      go_wp2_with fail
                      go_roundw
                      case rel => exact ⟨m + 1, by omega, by go_num, by rw [Hs2.out], _, rfl⟩
                      case measure => simp [intOf] <;> omega
                  · obtain rfl : m = cc.length := by omega
                    have hm1 : ¬ ((cc.length : Int) + 1 < (sz : Int)) := by have := Hh1.out; omega
                    rw [Hhk.out]
                    go_wp2_with fail
                    go_roundw
                    case rel => exact ⟨k + 1, by omega, by go_num, _, rfl⟩
                    case measure => simp [intOf] <;> omega
          · have p1 := pow2_le nn (by omega)
            have p2 := pw_cast nn
            have p4 := pw_le (show nn ≤ 5 by omega)
            have HL := Lib.hid (fun e => by
              have h : np ≤ pw nn := hlast.out e
              exact (show (np : Int) ≤ ((pw nn : Nat) : Int) by omega))
            have hbx := below_drewN hBv nq
            have H43 : (sign.toList == [43]) = true ∨ (sign.toList == [43]) = false := by cases (sign.toList == [43]) <;> simp
            rcases H43 with h43 | h43
            · have n43 : (sign.toList != [43]) = false := by rw [bne, h43]; rfl
              have hnp := HL.out h43
              cases hb
              all_goals
                go_wp2_with fail
                refine (ch.out _).mono ?_
                rintro e v2 ⟨hV2, rfl⟩
                have hB2 := hbx.trans (hV2.mono hbx.size)
                go_wp2_with fail
                refine (cp.out _).mono ?_
                rintro e v3 ⟨hV3, a3, q3, rfl⟩
                go_wp2_with fail
                go_ret
                exact ⟨hB2.trans (hV3.mono hB2.size), by first | rfl | (simp [hnp]; done)⟩
            · have n43 : (sign.toList != [43]) = true := by rw [bne, h43]; rfl
              cases hb
              all_goals
                go_wp2_with fail
                refine (ch.out _).mono ?_
                rintro e v2 ⟨hV2, rfl⟩
                have hB2 := hbx.trans (hV2.mono hbx.size)
                go_wp2_with fail
                go_ret
                exact ⟨hB2, rfl⟩
end Go.Proofs.YtkfagolmpbbckaaGreatDoor
