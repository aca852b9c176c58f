/- Walk of the law on the groups of switches. -/
import Derived.Test.YtcddnacbjdahbaaDoorLawQ
import Derived.Test.YtcddnacbjdahbaaDoorPj
import Derived.Test.YtcddnacbjdahbaaDoorImpl7
import Derived.Test.YtcddnacbjdahbaaDoorSpec7
namespace Go.Proofs.YtcddnacbjdahbaaDoor
open Go Go.RowKit Go.Sw
set_option maxRecDepth 100000
set_option linter.unusedVariables false

theorem shb (x k : Nat) : bits .and .i64 ((x : Int) / 2 ^ k) 1 = (((x.testBit k).toNat : Nat) : Int) := (Go.Sw.and_one _).trans (div_pow_mod x k)
theorem shm (x k : Nat) : ((x : Int) / 2 ^ k) % 2 = (((x.testBit k).toNat : Nat) : Int) := div_pow_mod x k
theorem ints_nats (L : List Nat) : L.map Int.ofNat = nats L := rfl
set_option maxHeartbeats 4000000 in
theorem law_Groups (w : World) (a : Option Addr) (n c : Nat) (hc : c ≤ maxLen) (h : CodeAt w a n c) :
    Calls Tryd.prog 6 #[.slice a n c] w fun e w' => Below w.heap.size w w' ∧ e = .returned (.bool true) := by
  have hle := h.1
  have m0 : n ≤ 9223372036854775807 := by unfold maxLen at hc; omega
  have cD := Lib.hid (drawActsOn_any a n c hc w h)
  clear h
  by_cases s0 : n ≤ 1048576
  case' neg =>
    go_enter Tryd.func6, Tryd.ntmps6
    go_wp2_with fail
    go_ret
    exact ⟨Below.refl _ _, rfl⟩
  go_enter Tryd.func6, Tryd.ntmps6
  go_wp2_with fail
  refine cD.out.mono ?_
  rintro e w1 ⟨hW1, t, i, ht, hi, rfl⟩
  have hW1s := hW1.size
  have c1 := Lib.hid (fun wx => actsOn_impl t i wx (by omega))
  have c2 := Lib.hid (fun wx => groupsOf_impl t wx (by omega))
  have c3 := Lib.hid (fun wx => actsOn_spec t i wx (by omega))
  have c4 := Lib.hid (fun wx => groupsOf_spec t wx (by omega))
  have cV := Lib.hid (fun wx => networkValid_impl t wx (by omega))
  cases hok : netOk t
  · have hst : actsI t i = -1 := by unfold actsI swB; rw [hok]; rfl
    have hg : groupsL t = [] := by unfold groupsL; rw [hok]; rfl
    rw [hst] at c1 c3
    rw [hg] at c2 c4
    rw [hok] at cV
    have cS := Lib.hid (fun a4 a5 p4 p5 wx => bnSame_any 0 0 a4 a5 p4 p5 [] wx (intsAt_nil _ _ _) (intsAt_nil _ _ _) (by simp))
    clear hst hg hok
    go_wp2_with fail
    refine (c1.out _).mono ?_
    rintro e w2 ⟨hW2, rfl⟩
    go_wp2_with fail
    refine (c2.out _).mono ?_
    rintro e w3 ⟨hW3, a3, p3, rfl, _⟩
    have k2 := hW2.size
    have k3 := hW3.size
    have hB3 : Below w.heap.size w w3 := (hW1.trans (hW2.mono hW1s)).trans (hW3.mono (by omega))
    go_wp2_with fail
    refine (c3.out _).mono ?_
    rintro e w4 ⟨hW4, rfl⟩
    have hB4 := hB3.trans (hW4.mono hB3.size)
    go_wp2_with fail
    refine (c4.out _).mono ?_
    rintro e w5 ⟨hW5, a5, p5, rfl, _⟩
    have hB5 := hB4.trans (hW5.mono hB4.size)
    go_wp2_with fail
    refine (cS.out _ _ _ _ _).mono ?_
    rintro e w6 ⟨hW6, rfl⟩
    have hB6 := hB5.trans (hW6.mono hB5.size)
    go_wp2_with fail
    refine (cV.out _).mono ?_
    rintro e w7 ⟨hW7, rfl⟩
    have hB7 := hB6.trans (hW7.mono hB6.size)
    go_wp2_with fail
    refine (c3.out _).mono ?_
    rintro e w8 ⟨hW8, rfl⟩
    have hB8 := hB7.trans (hW8.mono hB7.size)
    go_wp2_with fail
    refine (c4.out _).mono ?_
    rintro e w9 ⟨hW9, a9, p9, rfl, _⟩
    have hB9 := hB8.trans (hW9.mono hB8.size)
    go_wp2_with fail
    refine (cS.out _ _ _ _ _).mono ?_
    rintro e w10 ⟨hW10, rfl⟩
    go_wp2_with fail
    go_ret
    exact ⟨hB9.trans (hW10.mono hB9.size), rfl⟩
  · have hn := netOf_ok hok
    have hg : groupsL t = nats (grpG (netOf t) (netOf t).n) := by
      unfold groupsL
      rw [hok, if_pos rfl, grpL_G]; rfl
    have cz := Lib.hid (fun wx => (sizI_yes hok) ▸ sizeOf_impl t wx (by omega))
    have hst : ∀ k : Nat, k < (netOf t).n → actsI t k = ((reachN (netOf t) k : Nat) : Int) := fun k hk => by
      have : swB t k = true := by
        unfold swB
        rw [hok, Bool.true_and, Bool.and_eq_true, decide_eq_true_eq, decide_eq_true_eq]
        omega
      unfold actsI
      rw [this, if_pos rfl, Int.toNat_natCast]
    have hno : ¬ (0 ≤ i ∧ i < ((netOf t).n : Nat)) → actsI t i = -1 := fun h => by
      have : swB t i = false := by
        unfold swB
        rw [hok, Bool.true_and]
        cases e : (decide (0 ≤ i) && decide (i < ((netOf t).n : Nat))) with
        | false => rfl
        | true => rw [Bool.and_eq_true, decide_eq_true_eq, decide_eq_true_eq] at e; exact absurd e h
      unfold actsI
      rw [this]; rfl
    have cK := Lib.hid (fun (k : Nat) (hk : k < (netOf t).n) wx => (hst k hk) ▸ actsOn_impl t k wx (by omega))
    have Hst := Lib.hid hst
    have Hno := Lib.hid hno
    have hgn := groupsL_length t
    rw [hg] at c2 c4 hgn
    rw [nats_length] at c2 c4 hgn
    rw [hok] at cV
    obtain ⟨N, hN⟩ : ∃ N, netOf t = N := ⟨_, rfl⟩
    rw [hN] at cz cK hn c2 c4 hgn Hst Hno
    have hpair := Lib.hid (grpG_pair N N.n)
    have hall := Lib.hid (grp_all N)
    have hne := Lib.hid (fun x (h : x ∈ grpG N N.n) => grpG_ne h (Nat.le_refl _))
    have htog := Lib.hid (fun i k (h1 : i < N.n) (h2 : k < N.n) => tog_all (N := N) h1 h2)
    obtain ⟨G, hG⟩ : ∃ G, grpG N N.n = G := ⟨_, rfl⟩
    rw [hG] at c2 c4 hgn hpair hall hne htog
    have hpw := pw_le hn.2
    have hpc := pw_cast N.n
    have hp2 := pow2_le N.n hn.2
    have hor := Lib.hid (fun k => orTo_lt (G := G) (n := N.n) (fun x hx => (hne.out x hx).2) k)
    clear hok hg hst hno hN hG
    go_wp2_with fail
    refine (c1.out _).mono ?_
    rintro e w2 ⟨hW2, rfl⟩
    go_wp2_with fail
    refine (c2.out _).mono ?_
    rintro e w3 ⟨hW3, a3, p3, rfl, hI3⟩
    have k2 := hW2.size
    have k3 := hW3.size
    have hB3 : Below w.heap.size w w3 := (hW1.trans (hW2.mono hW1s)).trans (hW3.mono (by omega))
    have HI3 := Lib.hid hI3
    clear hI3
    have hss : (actsI t i != actsI t i) = false := by simp
    go_wp2_with fail
    refine (c3.out _).mono ?_
    rintro e w4 ⟨hW4, rfl⟩
    have hB4 := hB3.trans (hW4.mono hB3.size)
    go_wp2_with fail
    refine (c4.out _).mono ?_
    rintro e w5 ⟨hW5, a5, p5, rfl, hI5⟩
    have hB5 := hB4.trans (hW5.mono hB4.size)
    have cS := Lib.hid (bnSame_any _ _ a3 a5 p3 p5 (nats G) w5 ((HI3.out.below hW4).below hW5) hI5 (by rw [nats_length]; omega))
    rw [nats_length] at cS
    clear hI5
    go_wp2_with fail
    refine cS.out.mono ?_
    rintro e w6 ⟨hW6, rfl⟩
    have hB6 := hB5.trans (hW6.mono hB5.size)
    go_wp2_with fail
    refine (cV.out _).mono ?_
    rintro e w7 ⟨hW7, rfl⟩
    have hB7 := hB6.trans (hW7.mono hB6.size)
    have HI7 := Lib.hid ((((HI3.out.below hW4).below hW5).below hW6).below hW7)
    have hcellG : ∀ (wx : World), Below w7.heap.size w7 wx → ∀ j (hj : j < G.length), ∃ g, a3 = some ⟨g, 0, none⟩ ∧ g < wx.heap.size ∧ wx.cell? ⟨g, j, none⟩ = some (.int .i64 ((G[j] : Nat) : Int)) := fun wx hb j hj => by
      obtain ⟨g, cur, tt, e1, hBg, hcur, hcs, hcells⟩ := (HI7.out.below hb).at' (by rw [nats_length]; omega)
      refine ⟨g, e1, block_lt hcur, ?_⟩
      rw [cell_of_row wx _ _ _ _ _ hcur, hcells j (by rw [nats_length]; exact hj)]; simp [nats]
    have HcG := Lib.hid hcellG
    clear hcellG
    go_wp2_with fail
    go_loopw [7, 8] (fun al j wr => ∃ k : Nat, k ≤ G.length ∧ j = .int .i64 k ∧ al = .int .i64 ((orTo G k : Nat) : Int) ∧ Below w7.heap.size w7 wr) (fun _ j _ => G.length - (intOf j).toNat)
    case atStart => exact ⟨0, Nat.zero_le _, rfl, rfl, Below.refl _ _⟩
    case round =>
      obtain ⟨k, hk, rfl, rfl, hV⟩ := hrel
      by_cases hlt : k < G.length
      · obtain ⟨g, rfl, hgl, hcell⟩ := HcG.out wr hV k hlt
        have hd := orTo_disj hpair.out hlt
        have hs : orTo G (k + 1) = orTo G k ||| G[k] := by rw [orTo, getD_of hlt]
        obtain ⟨x0, xl⟩ := hne.out _ (List.getElem_mem hlt)
        have ol := hor.out k
        obtain ⟨x, hx⟩ : ∃ x, G[k] = x := ⟨_, rfl⟩
        obtain ⟨o, ho⟩ : ∃ x, orTo G k = x := ⟨_, rfl⟩
        rw [hx] at hcell hd hs x0 xl
        rw [ho] at hd hs ol
        rw [ho]
        have f1 : bits .and .i64 (o : Int) (x : Int) = 0 := by rw [i64_and _ _ (by omega) (by omega), hd]; rfl
        have f2 : ((x : Int) == 0) = false := by rw [beq_eq_false_iff_ne]; omega
        have f3 : bits .or .i64 (o : Int) (x : Int) = ((o ||| x : Nat) : Int) := i64_or _ _ (by omega) (by omega)
        have Hs := Lib.hid hs
        clear hd hs hx ho x0
        go_wp2_with fail
        go_roundw
        case rel => exact ⟨k + 1, by omega, by go_num, by rw [Hs.out], hV⟩
        case measure => simp [intOf] <;> omega
      · obtain rfl : k = G.length := by omega
        rw [hall.out]
        have hcl : (((pw N.n - 1 : Nat) : Int)) = ((pw N.n : Nat) : Int) - 1 := by omega
        rw [hcl]
        clear hcl
        have hB8 := hB7.trans (hV.mono hB7.size)
        go_wp2_with fail
        refine (cz.out _).mono ?_
        rintro e w8 ⟨hW8, rfl⟩
        have hV8 : Below w7.heap.size w7 w8 := hV.trans (hW8.mono hV.size)
        have hnn : (((pw N.n : Nat) : Int) - 1 != ((pw N.n : Nat) : Int) - 1) = false := by simp
        by_cases hsw : 0 ≤ i ∧ i < (N.n : Nat)
        · obtain ⟨i', rfl⟩ : ∃ k : Nat, i = (k : Int) := ⟨i.toNat, by omega⟩
          have hi' : i' < N.n := by omega
          have hset := Hst.out i' hi'
          have hsl := reachN_lt N i'
          rw [hset]
          have hge : (0 : Int) ≤ ((reachN N i' : Nat) : Int) := by omega
          clear hset hss hi
          go_wp2_with fail
          go_loopw [9, 10, 11, 12, 13] (fun j _ _ _ _ wr => ∃ k : Nat, k ≤ N.n ∧ j = .int .i64 k ∧ Below w7.heap.size w7 wr) (fun j _ _ _ _ _ => N.n - (intOf j).toNat)
          case atStart => exact ⟨0, Nat.zero_le _, rfl, hV8⟩
          case round =>
            obtain ⟨k, hk, rfl, hX⟩ := hrel
            by_cases hlt : k < N.n
            · have D1 := cK.out k hlt
              have hkl := reachN_lt N k
              have ht0 := htog.out i' k hi' hlt
              have hsub := Lib.hid (fun h : (reachN N i').testBit k = true => reach_sub h)
              have b1 := shb (reachN N i') k
              have b1m := shm (reachN N i') k
              have b2 := shb (reachN N k) i'
              have b2m := shm (reachN N k) i'
              have b3 := i64_andNot (reachN N k) (reachN N i') (by omega) (by omega)
              have b4 := andNot_zero (reachN N k) (reachN N i')
              obtain ⟨st, hst⟩ : ∃ x, reachN N i' = x := ⟨_, rfl⟩
              obtain ⟨ot, hot⟩ : ∃ x, reachN N k = x := ⟨_, rfl⟩
              rw [hst] at ht0 hsub b1 b1m b3 b4 hsl hge ⊢
              rw [hot] at ht0 hsub b2 b2m b3 b4 hkl D1
              obtain ⟨sb, hsb⟩ : ∃ x, st.testBit k = x := ⟨_, rfl⟩
              obtain ⟨ob, hob⟩ : ∃ x, ot.testBit i' = x := ⟨_, rfl⟩
              rw [hsb] at ht0 hsub b1 b1m
              rw [hob] at ht0 b2 b2m
              obtain ⟨df, hdf⟩ : ∃ x, ot ^^^ (ot &&& st) = x := ⟨_, rfl⟩
              rw [hdf] at b3 b4
              have DD := Lib.hid D1
              clear D1 hst hot hsb hob hdf
              go_wp2_with fail
              refine (cz.out _).mono ?_
              rintro e v1 ⟨hV1, rfl⟩
              have hX1 := hX.trans (hV1.mono hX.size)
              go_wp2_with fail
              refine (DD.out _).mono ?_
              rintro e v2 ⟨hV2, rfl⟩
              have hX2 := hX1.trans (hV2.mono hX1.size)
              by_cases hki : k = i'
              · have e1 : ((k : Int) == (i' : Int)) = true := by rw [hki]; simp
                rw [decide_eq_true hki] at ht0
                clear hki
                cases sb <;> cases ob
                all_goals
                  simp only [Bool.toNat_true, Bool.toNat_false, Int.natCast_zero, Int.natCast_one, Bool.true_or, Bool.or_true, Bool.or_false, Bool.false_or, Bool.true_and, Bool.and_true, Bool.and_false, Bool.false_and] at b1 b1m b2 b2m ht0
                  have HT := Lib.hid ht0
                  have hl : st.testBit 0 = st.testBit 0 := rfl
                  try rw [hsub.out rfl] at b4
                  clear ht0 hl
                  go_wp2_with fail
                  go_loopw [12, 13] (fun tg j wr => ∃ m : Nat, m ≤ G.length ∧ j = .int .i64 m ∧ tg = .bool (togTo G i' k m) ∧ Below w7.heap.size w7 wr) (fun _ j _ => G.length - (intOf j).toNat)
                  case atStart => exact ⟨0, Nat.zero_le _, rfl, rfl, hX2⟩
                  case round =>
                    obtain ⟨m, hm, rfl, rfl, hY⟩ := hrel
                    by_cases hlt2 : m < G.length
                    · obtain ⟨g, rfl, hgl, hcell⟩ := HcG.out wr hY m hlt2
                      have hs : togTo G i' k (m + 1) = (togTo G i' k m || (G[m].testBit i' && G[m].testBit k)) := by rw [togTo, getD_of hlt2]
                      have xl := (hne.out _ (List.getElem_mem hlt2)).2
                      obtain ⟨x, hx⟩ : ∃ x, G[m] = x := ⟨_, rfl⟩
                      rw [hx] at hcell hs xl
                      have d1 := shb x i'
                      have d1m := shm x i'
                      have d2 := shb x k
                      have d2m := shm x k
                      obtain ⟨u, hu⟩ : ∃ b, x.testBit i' = b := ⟨_, rfl⟩
                      obtain ⟨v, hv⟩ : ∃ b, x.testBit k = b := ⟨_, rfl⟩
                      obtain ⟨tv, htv⟩ : ∃ b, togTo G i' k m = b := ⟨_, rfl⟩
                      rw [hu] at hs d1 d1m
                      rw [hv] at hs d2 d2m
                      rw [htv] at hs ⊢
                      have Hs := Lib.hid hs
                      clear hs hx hu hv htv
                      cases u <;> cases v <;> cases tv
                      all_goals
                        simp only [Bool.toNat_true, Bool.toNat_false, Int.natCast_zero, Int.natCast_one] at d1 d1m d2 d2m
                        go_wp2_with fail
                        go_roundw
                        case rel => exact ⟨m + 1, by omega, by go_num, by rw [Hs.out]; rfl, hY⟩
                        case measure => simp [intOf] <;> omega
                    · obtain rfl : m = G.length := by omega
                      rw [HT.out]
                      go_wp2_with fail
                      go_roundw
                      case rel => exact ⟨k + 1, by omega, by go_num, hY⟩
                      case measure => simp [intOf] <;> omega
              · have e1 : ((k : Int) == (i' : Int)) = false := by rw [beq_eq_false_iff_ne]; omega
                rw [decide_eq_false hki] at ht0
                clear hki
                cases sb <;> cases ob
                all_goals
                  simp only [Bool.toNat_true, Bool.toNat_false, Int.natCast_zero, Int.natCast_one, Bool.true_or, Bool.or_true, Bool.or_false, Bool.false_or, Bool.true_and, Bool.and_true, Bool.and_false, Bool.false_and] at b1 b1m b2 b2m ht0
                  have HT := Lib.hid ht0
                  have hl : st.testBit 0 = st.testBit 0 := rfl
                  try rw [hsub.out rfl] at b4
                  clear ht0 hl
                  go_wp2_with fail
                  go_loopw [12, 13] (fun tg j wr => ∃ m : Nat, m ≤ G.length ∧ j = .int .i64 m ∧ tg = .bool (togTo G i' k m) ∧ Below w7.heap.size w7 wr) (fun _ j _ => G.length - (intOf j).toNat)
                  case atStart => exact ⟨0, Nat.zero_le _, rfl, rfl, hX2⟩
                  case round =>
                    obtain ⟨m, hm, rfl, rfl, hY⟩ := hrel
                    by_cases hlt2 : m < G.length
                    · obtain ⟨g, rfl, hgl, hcell⟩ := HcG.out wr hY m hlt2
                      have hs : togTo G i' k (m + 1) = (togTo G i' k m || (G[m].testBit i' && G[m].testBit k)) := by rw [togTo, getD_of hlt2]
                      have xl := (hne.out _ (List.getElem_mem hlt2)).2
                      obtain ⟨x, hx⟩ : ∃ x, G[m] = x := ⟨_, rfl⟩
                      rw [hx] at hcell hs xl
                      have d1 := shb x i'
                      have d1m := shm x i'
                      have d2 := shb x k
                      have d2m := shm x k
                      obtain ⟨u, hu⟩ : ∃ b, x.testBit i' = b := ⟨_, rfl⟩
                      obtain ⟨v, hv⟩ : ∃ b, x.testBit k = b := ⟨_, rfl⟩
                      obtain ⟨tv, htv⟩ : ∃ b, togTo G i' k m = b := ⟨_, rfl⟩
                      rw [hu] at hs d1 d1m
                      rw [hv] at hs d2 d2m
                      rw [htv] at hs ⊢
                      have Hs := Lib.hid hs
                      clear hs hx hu hv htv
                      cases u <;> cases v <;> cases tv
                      all_goals
                        simp only [Bool.toNat_true, Bool.toNat_false, Int.natCast_zero, Int.natCast_one] at d1 d1m d2 d2m
                        go_wp2_with fail
                        go_roundw
                        case rel => exact ⟨m + 1, by omega, by go_num, by rw [Hs.out]; rfl, hY⟩
                        case measure => simp [intOf] <;> omega
                    · obtain rfl : m = G.length := by omega
                      rw [HT.out]
                      go_wp2_with fail
                      go_roundw
                      case rel => exact ⟨k + 1, by omega, by go_num, hY⟩
                      case measure => simp [intOf] <;> omega
            · obtain rfl : k = N.n := by omega
              go_wp2_with fail
              refine (cz.out _).mono ?_
              rintro e v1 ⟨hV1, rfl⟩
              have hX1 := hX.trans (hV1.mono hX.size)
              go_wp2_with fail
              go_ret
              exact ⟨hB7.trans (hX1.mono hB7.size), rfl⟩
        · rw [Hno.out hsw]
          clear hsw hss
          go_wp2_with fail
          go_loopw [9] (fun j wr => j = .int .i64 0 ∧ Below w7.heap.size w7 wr) (fun j _ => 0)
          case atStart => exact ⟨rfl, hV8⟩
          case round =>
            obtain ⟨rfl, hX⟩ := hrel
            have h0n : (0 : Int) < (N.n : Int) := by omega
            go_wp2_with fail
            refine (cz.out _).mono ?_
            rintro e v1 ⟨hV1, rfl⟩
            have hX1 := hX.trans (hV1.mono hX.size)
            go_wp2_with fail
            go_ret
            exact ⟨hB7.trans (hX1.mono hB7.size), rfl⟩
end Go.Proofs.YtcddnacbjdahbaaDoor
