/- Walk of the law on the least and the greatest fixed point. -/
import Derived.Test.YtkfagolmpbbckaaDoorDk
import Derived.Test.YtkfagolmpbbckaaDoorLa
import Derived.Test.YtkfagolmpbbckaaDoorImpl8
import Derived.Test.YtkfagolmpbbckaaDoorSpec8
import Derived.Test.YtkfagolmpbbckaaDoorOg
namespace Go.Proofs.YtkfagolmpbbckaaDoor
open Go Go.RowKit Go.Sw
set_option maxRecDepth 100000
set_option linter.unusedVariables false

theorem pickL_none0 {p : Nat → Bool} {k : Nat} (h : ∀ i, i < k → p i = false) : pickL p k = [] := by
  induction k with
  | zero => rfl
  | succ k ih => rw [pickL, h k (Nat.lt_succ_self k), if_neg (by decide)]; exact ih fun i hi => h i (by omega)
theorem pickL_first {p : Nat → Bool} {k m : Nat} (hm : m < k) (hp : p m = true) (h : ∀ i, i < m → p i = false) : (pickL p k)[0]? = some m := by
  induction k with
  | zero => omega
  | succ k ih =>
    rw [pickL]
    by_cases e : m = k
    · subst e
      rw [if_pos hp, pickL_none0 h]; rfl
    · have ih := ih (by omega)
      split
      · rw [List.getElem?_append_left (by
          have := (List.getElem?_eq_some_iff.1 ih).1
          exact this)]
        exact ih
      · exact ih
theorem pickL_last {p : Nat → Bool} {k m : Nat} (hm : m < k) (hp : p m = true) (h : ∀ i, m < i → i < k → p i = false) : (pickL p k)[(pickL p k).length - 1]? = some m := by
  induction k with
  | zero => omega
  | succ k ih =>
    rw [pickL]
    by_cases e : m = k
    · subst e
      rw [if_pos hp]; simp
    · rw [h k (by omega) (Nat.lt_succ_self k), if_neg (by decide)]
      exact ih (by omega) fun i h1 h2 => h i h1 (by omega)
theorem fixL_nodup0 (N : Net) : (fixL N).Nodup := by
  unfold fixL
  have key : ∀ (p : Nat → Bool) (k : Nat), (pickL p k).Nodup := by
    intro p k
    induction k with
    | zero => simp [pickL]
    | succ k ih =>
      rw [pickL]; split
      · rw [List.nodup_append]
        exact ⟨ih, by simp, fun a ha b hb => by
          have := (pickL_mem.1 ha).1
          obtain rfl : b = k := by simpa using hb
          omega⟩
      · exact ih
  exact key _ _
/-- what is said of both -/
structure LG (N : Net) (lo hi : Nat) : Prop where
  llt : lo < pw N.n
  hlt : hi < pw N.n
  first : (fixL N)[0]? = some lo
  last : (fixL N)[(fixL N).length - 1]? = some hi
  one : (lo = hi) ↔ (fixL N).length = 1
  pts : ∀ p ∈ fixL N, leB lo p = true ∧ leB p hi = true
  cyc : ∀ x, x < pw N.n → ∀ q, 1 ≤ q → iterN N q x = x → leB lo x = true ∧ leB x hi = true
theorem least_great {N : Net} (h : monoN N = true) (h5 : N.n ≤ 5) : LG N (limN N 0) (limN N (pw N.n - 1)) := by
  have hL := rise_rest h h5 (low_rise (N := N))
  have hG := fall_rest h h5 (top_fall (N := N))
  have hl : limN N 0 < pw N.n := lim_lt hL.1
  have hg : limN N (pw N.n - 1) < pw N.n := lim_lt hG.1
  have fl : stepN N (limN N 0) = limN N 0 := hL.2
  have fg : stepN N (limN N (pw N.n - 1)) = limN N (pw N.n - 1) := hG.2
  have hb : ∀ x, x < pw N.n → stepN N x = x → leB (limN N 0) x = true ∧ leB x (limN N (pw N.n - 1)) = true := fun x hx hf =>
    cyc_between h h5 hx (Nat.le_refl 1) hf
  have h1 : (fixL N)[0]? = some (limN N 0) := pickL_first hl (fixB_iff.2 fl) fun i hi => by
    cases hf : fixB N i
    · rfl
    · have := leB_le (hb i (by omega) (fixB_iff.1 hf)).1
      omega
  have h2 : (fixL N)[(fixL N).length - 1]? = some (limN N (pw N.n - 1)) := pickL_last hg (fixB_iff.2 fg) fun i hi hik => by
    cases hf : fixB N i
    · rfl
    · have := leB_le (hb i hik (fixB_iff.1 hf)).2
      omega
  have hp : 0 < (fixL N).length := (List.getElem?_eq_some_iff.1 h1).1
  refine ⟨hl, hg, h1, h2, ⟨fun e => ?_, fun e => ?_⟩, fun p hp => ?_, fun x hx q hq hi => cyc_between h h5 hx hq hi⟩
  · have hall : ∀ x ∈ fixL N, x = limN N 0 := fun x hx => by
      obtain ⟨a, b⟩ := fixL_mem.1 hx
      have := hb x a b
      rw [← e] at this
      exact leB_antisymm this.2 this.1
    match hF : fixL N, fixL_nodup0 N, hall, hp with
    | [x], _, _, _ => rfl
    | x :: y :: r, hn, hall, _ =>
      exfalso
      have e1 := hall x (by simp)
      have e2 := hall y (by simp)
      rw [List.nodup_cons] at hn
      exact hn.1 (by rw [e1, e2]; simp)
  · rw [e] at h2
    rw [h1] at h2
    exact Option.some.inj h2
  · obtain ⟨a, b⟩ := fixL_mem.1 hp
    exact hb p a b
theorem least_cases (t : ByteArray) : (riseI t 0 = -1 ∧ greatI t = -1 ∧ monoB t = false) ∨ (netOk t = true ∧ monoN (netOf t) = true ∧ riseI t 0 = ((limN (netOf t) 0 : Nat) : Int) ∧ greatI t = ((limN (netOf t) (pw (netOf t).n - 1) : Nat) : Int)) := by
  cases hm : monoB t
  · left
    refine ⟨by unfold riseI; rw [hm]; rfl, ?_, rfl⟩
    unfold greatI fallI
    rw [hm]
    split <;> rfl
  · right
    unfold monoB at hm
    rw [Bool.and_eq_true] at hm
    refine ⟨hm.1, hm.2, riseI_nat hm.1 hm.2 low_rise, ?_⟩
    unfold greatI
    rw [hm.1, if_pos rfl]
    exact fallI_nat hm.1 hm.2 top_fall
set_option maxHeartbeats 4000000 in
theorem law_Least (w : World) (a : Option Addr) (n c : Nat) (hc : c ≤ maxLen) (h : CodeAt w a n c) :
    Calls Tryd.prog 5 #[.slice a n c] w fun e w' => Below w.heap.size w w' ∧ e = .returned (.bool true) := by
  have hle := h.1
  have m0 : n ≤ 9223372036854775807 := by unfold maxLen at hc; omega
  have cD := Lib.hid (drawLeastP_any a n c hc w h)
  clear h
  by_cases s0 : n ≤ 1048576
  case' neg =>
    go_enter Tryd.func5, Tryd.ntmps5
    go_wp2_with fail
    go_ret
    exact ⟨Below.refl _ _, rfl⟩
  go_enter Tryd.func5, Tryd.ntmps5
  go_wp2_with fail
  refine cD.out.mono ?_
  rintro e w1 ⟨hW1, t, ht, rfl⟩
  have hW1s := hW1.size
  have c1 := Lib.hid (fun wx => leastPoint_impl t wx (by omega))
  have c2 := Lib.hid (fun wx => greatestPoint_impl t wx (by omega))
  have c3 := Lib.hid (fun wx => leastPoint_spec t wx (by omega))
  have c4 := Lib.hid (fun wx => greatestPoint_spec t wx (by omega))
  have c5 := Lib.hid (fun wx => isMonotone_impl t wx (by omega))
  rcases least_cases t with ⟨h1, h2, h3⟩ | ⟨hok, hmo, h1, h2⟩
  · rw [h1] at c1 c3
    rw [h2] at c2 c4
    rw [h3] at c5
    clear h1 h2 h3
    go_wp2_with fail
    refine (c1.out _).mono ?_
    rintro e w2 ⟨hW2, rfl⟩
    go_wp2_with fail
    refine (c2.out _).mono ?_
    rintro e w3 ⟨hW3, rfl⟩
    go_wp2_with fail
    refine (c3.out _).mono ?_
    rintro e w4 ⟨hW4, rfl⟩
    go_wp2_with fail
    refine (c4.out _).mono ?_
    rintro e w5 ⟨hW5, rfl⟩
    go_wp2_with fail
    refine (c3.out _).mono ?_
    rintro e w6 ⟨hW6, rfl⟩
    go_wp2_with fail
    refine (c4.out _).mono ?_
    rintro e w7 ⟨hW7, rfl⟩
    go_wp2_with fail
    refine (c5.out _).mono ?_
    rintro e w8 ⟨hW8, rfl⟩
    have k2 := hW2.size
    have k3 := hW3.size
    have k4 := hW4.size
    have k5 := hW5.size
    have k6 := hW6.size
    have k7 := hW7.size
    go_wp2_with fail
    go_ret
    exact ⟨((((((hW1.trans (hW2.mono (by omega))).trans (hW3.mono (by omega))).trans (hW4.mono (by omega))).trans (hW5.mono (by omega))).trans (hW6.mono (by omega))).trans (hW7.mono (by omega))).trans (hW8.mono (by omega)), rfl⟩
  · have hn := netOf_ok hok
    have hF := least_great hmo hn.2
    rw [h1] at c1 c3
    rw [h2] at c2 c4
    have cp := Lib.hid (fun wx => (show pointsL t = fixL (netOf t) by rw [pointsL, hok]; rfl) ▸ fixedPoints_impl t wx (by omega))
    have cY := Lib.hid (fun wx => cyclesOf_impl t wx (by omega) hok)
    obtain ⟨lo, hlo⟩ : ∃ j, limN (netOf t) 0 = j := ⟨_, rfl⟩
    obtain ⟨hi, hhi⟩ : ∃ j, limN (netOf t) (pw (netOf t).n - 1) = j := ⟨_, rfl⟩
    rw [hlo] at c1 c3 hF
    rw [hhi] at c2 c4 hF
    have hpw := pw_le hn.2
    have hpl : (fixL (netOf t)).length ≤ 32 := Nat.le_trans (pickL_length _ _) hpw.2
    obtain ⟨N, hN⟩ : ∃ N, netOf t = N := ⟨_, rfl⟩
    rw [hN] at hn hF cp cY hpl hpw
    have hmem := Lib.hid (fun p (h : p ∈ fixL N) => (fixL_mem.1 h).1)
    have hpts := Lib.hid hF.pts
    have hcyc := Lib.hid hF.cyc
    have hfst := hF.first
    have hlst := hF.last
    have hone := hF.one
    have hll := hF.llt
    have hhl := hF.hlt
    obtain ⟨L, hL⟩ : ∃ L, fixL N = L := ⟨_, rfl⟩
    rw [hL] at cp hmem hpts hfst hlst hone hpl
    have hLp : 0 < L.length := (List.getElem?_eq_some_iff.1 hfst).1
    have hb0 : ((lo : Int) == (hi : Int)) = ((L.length : Int) == 1) := by
      rw [Bool.eq_iff_iff, beq_iff_eq, beq_iff_eq]
      constructor
      · intro e; have := hone.1 (by omega); omega
      · intro e; have := hone.2 (by omega); omega
    have Hfst := Lib.hid hfst
    have Hlst := Lib.hid hlst
    have Hb0 := Lib.hid hb0
    clear hN hL hok hmo hF h1 h2 hlo hhi hfst hlst hone hb0
    have z1 : ((lo : Int) != (lo : Int)) = false := by simp
    have z2 : ((hi : Int) != (hi : Int)) = false := by simp
    have z5 : ¬ ((lo : Int) < 0) := by omega
    go_wp2_with fail
    refine (c1.out _).mono ?_
    rintro e w2 ⟨hW2, rfl⟩
    go_wp2_with fail
    refine (c2.out _).mono ?_
    rintro e w3 ⟨hW3, rfl⟩
    go_wp2_with fail
    refine (c3.out _).mono ?_
    rintro e w4 ⟨hW4, rfl⟩
    go_wp2_with fail
    refine (c4.out _).mono ?_
    rintro e w5 ⟨hW5, rfl⟩
    have k2 := hW2.size
    have k3 := hW3.size
    have k4 := hW4.size
    have k5 := hW5.size
    have hB5 : Below w.heap.size w w5 := (((hW1.trans (hW2.mono (by omega))).trans (hW3.mono (by omega))).trans (hW4.mono (by omega))).trans (hW5.mono (by omega))
    go_wp2_with fail
    refine (cp.out _).mono ?_
    rintro e w6 ⟨hW6, ap, cap, rfl, hI⟩
    have HI := Lib.hid hI
    have hB6 := hB5.trans (hW6.mono hB5.size)
    obtain ⟨g, cur, tt, rfl, hBg, hcur, hcs, hcells⟩ := hI.at' (by rw [nats_length]; omega)
    have hgl := block_lt hcur
    have hcell0 := Lib.hid (fun (wx : World) (hx : Below w6.heap.size w6 wx) k (h : k < L.length) => (by
      rw [hx.cell (show g < w6.heap.size from hgl), cell_of_row w6 _ _ _ _ _ hcur, hcells k (by rw [nats_length]; exact h)]; simp [nats] : wx.cell? ⟨g, k, none⟩ = some (.int .i64 ((L[k] : Nat) : Int))))
    clear hI hcells hcur hcs HI
    go_wp2_with fail
    go_loopw [7] (fun i wr => ∃ k : Nat, k ≤ L.length ∧ i = .int .i64 k ∧ wr = w6) (fun i _ => L.length - (intOf i).toNat)
    case atStart => exact ⟨0, Nat.zero_le _, rfl, rfl⟩
    case round =>
      obtain ⟨k, hk, rfl, rfl⟩ := hrel
      by_cases hlt : k < L.length
      · have hcell := hcell0.out _ (Below.refl _ _) k hlt
        have p1 := hmem.out _ (List.getElem_mem hlt)
        obtain ⟨f1, f2⟩ := hpts.out _ (List.getElem_mem hlt)
        obtain ⟨p, hp0⟩ : ∃ p, L[k] = p := ⟨_, rfl⟩
        rw [hp0] at hcell p1 f1 f2
        have a1 := i64_andNot lo p (by omega) (by omega)
        have a2 := i64_andNot p hi (by omega) (by omega)
        have b1 := andNot_zero lo p
        have b2 := andNot_zero p hi
        rw [f1] at b1
        rw [f2] at b2
        have n1 : (((lo ^^^ (lo &&& p) : Nat) : Int) != 0) = false := by rw [bne, b1]; rfl
        have n2 : (((p ^^^ (p &&& hi) : Nat) : Int) != 0) = false := by rw [bne, b2]; rfl
        obtain ⟨x1, hx1⟩ : ∃ x, lo ^^^ (lo &&& p) = x := ⟨_, rfl⟩
        obtain ⟨x2, hx2⟩ : ∃ x, p ^^^ (p &&& hi) = x := ⟨_, rfl⟩
        rw [hx1] at a1 n1
        rw [hx2] at a2 n2
        clear hp0 b1 b2 hx1 hx2 f1 f2
        go_wp2_with fail
        go_roundw
        case rel => exact ⟨k + 1, by omega, by go_num, by first | rfl | trivial⟩
        case measure => simp [intOf] <;> omega
      · go_wp2_with fail
        refine (cY.out _).mono ?_
        rintro e w8 ⟨hW8, Ls, out, vs, hst, rfl, hR⟩
        obtain ⟨a8, c8, rfl, hrow⟩ := hR.get
        have Hst := Lib.hid hst
        have Hrow := Lib.hid hrow
        have hLs : Ls.length ≤ 32 := by have := hst.len; omega
        have hB8 := hB6.trans (hW8.mono hB6.size)
        clear hR hst hrow
        go_wp2_with fail
        go_loopw [9, 10] (fun i _ wr => ∃ k : Nat, k ≤ Ls.length ∧ i = .int .i64 k ∧ wr = w8) (fun i _ _ => Ls.length - (intOf i).toNat)
        case atStart => exact ⟨0, Nat.zero_le _, rfl, rfl⟩
        case round =>
          obtain ⟨k, hk, rfl, rfl⟩ := hrel
          by_cases hlt : k < Ls.length
          · obtain ⟨gr, rfl, hgr, hrow⟩ := Hrow.out (by omega)
            obtain ⟨x, d, hc1, hI1⟩ := hrow k hlt
            obtain ⟨s, hs1, hs2, _⟩ := Hst.out.each _ (List.getElem_mem hlt)
            have hM1 := hs2.1
            have hM2 := hs2.2.1
            have hMx := Lib.hid (fun x (h : x ∈ Ls[k]) => (hs2.lt hs1 h : x < pw N.n))
            have hMb := Lib.hid (fun x (h : x ∈ Ls[k]) => (by
              obtain ⟨a, q, _, h1, h2⟩ := hs2.2.2.2 x h
              exact hcyc.out x (hs2.lt hs1 h) q h1 h2 : leB lo x = true ∧ leB x hi = true))
            obtain ⟨M, hM⟩ : ∃ M, Ls[k] = M := ⟨_, rfl⟩
            rw [hM] at hc1 hI1 hM1 hM2 hMx hMb
            obtain ⟨gm, cum, tm, rfl, hBm, hcum, hcsm, hcem⟩ := hI1.at' (by rw [nats_length]; exact hM1)
            have hcm := Lib.hid (fun k (h : k < M.length) => (by
              rw [cell_of_row wr _ _ _ _ _ hcum, hcem k (by rw [nats_length]; exact h)]; simp [nats] : wr.cell? ⟨gm, k, none⟩ = some (.int .i64 ((M[k] : Nat) : Int))))
            clear hM hrow hI1 hcem hcum hcsm hs2 hs1
            go_wp2_with fail
            go_loopw [10] (fun j wy => ∃ m : Nat, m ≤ M.length ∧ j = .int .i64 m ∧ wy = wr) (fun j _ => M.length - (intOf j).toNat)
            case atStart => exact ⟨0, Nat.zero_le _, rfl, rfl⟩
            case round =>
              obtain ⟨m, hm, rfl, rfl⟩ := hrel
              by_cases hltm : m < M.length
              · have hcell := hcm.out m hltm
                have p1 := hMx.out _ (List.getElem_mem hltm)
                obtain ⟨f1, f2⟩ := hMb.out _ (List.getElem_mem hltm)
                obtain ⟨p, hp0⟩ : ∃ p, M[m] = p := ⟨_, rfl⟩
                rw [hp0] at hcell p1 f1 f2
                have a1 := i64_andNot lo p (by omega) (by omega)
                have a2 := i64_andNot p hi (by omega) (by omega)
                have b1 := andNot_zero lo p
                have b2 := andNot_zero p hi
                rw [f1] at b1
                rw [f2] at b2
                have n1 : (((lo ^^^ (lo &&& p) : Nat) : Int) != 0) = false := by rw [bne, b1]; rfl
                have n2 : (((p ^^^ (p &&& hi) : Nat) : Int) != 0) = false := by rw [bne, b2]; rfl
                obtain ⟨x1, hx1⟩ : ∃ x, lo ^^^ (lo &&& p) = x := ⟨_, rfl⟩
                obtain ⟨x2, hx2⟩ : ∃ x, p ^^^ (p &&& hi) = x := ⟨_, rfl⟩
                rw [hx1] at a1 n1
                rw [hx2] at a2 n2
                clear hp0 b1 b2 hx1 hx2 f1 f2
                go_wp2_with fail
                go_roundw
                case rel => exact ⟨m + 1, by omega, by go_num, by first | rfl | trivial⟩
                case measure => simp [intOf] <;> omega
              · go_wp2_with fail
                go_roundw
                case rel => exact ⟨k + 1, by omega, by go_num, by first | rfl | trivial⟩
                case measure => simp [intOf] <;> omega
          · have h0 := hcell0.out wr hW8 0 hLp
            have h1 := hcell0.out wr hW8 (L.length - 1) (by omega)
            have e0 : L[0] = lo := by have := Hfst.out; rw [List.getElem?_eq_getElem hLp] at this; exact Option.some.inj this
            have e1 : L[L.length - 1] = hi := by have := Hlst.out; rw [List.getElem?_eq_getElem (show L.length - 1 < L.length by omega)] at this; exact Option.some.inj this
            rw [e0] at h0
            rw [e1] at h1
            clear e0 e1
            obtain ⟨l1, hl1⟩ : ∃ k, L.length - 1 = k := ⟨_, rfl⟩
            rw [hl1] at h1
            have q1 : (L.length : Int) - 1 = (l1 : Int) := by omega
            have q2 : (l1 : Int) < (L.length : Int) := by omega
            have q3 : (0 : Int) < (L.length : Int) := by omega
            have hb := Hb0.out
            obtain ⟨bb, hbb⟩ : ∃ b, ((L.length : Int) == 1) = b := ⟨_, rfl⟩
            rw [hbb] at hb
            have q4 : (bb == bb) = true := by simp
            clear hl1
            go_wp2_with fail
            go_ret
            exact ⟨hB8, rfl⟩
end Go.Proofs.YtkfagolmpbbckaaDoor
