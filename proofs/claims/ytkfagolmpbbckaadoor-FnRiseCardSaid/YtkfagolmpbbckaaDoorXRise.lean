/- Walk of the law on states that rise. -/
import Derived.Test.YtkfagolmpbbckaaDoorDk
import Derived.Test.YtkfagolmpbbckaaDoorLa
import Derived.Test.YtkfagolmpbbckaaDoorImpl8
import Derived.Test.YtkfagolmpbbckaaDoorSpec8
import Derived.Test.YtkfagolmpbbckaaDoorOe
namespace Go.Proofs.YtkfagolmpbbckaaDoor
open Go Go.RowKit Go.Sw
set_option maxRecDepth 100000
set_option linter.unusedVariables false

/-- is a number among the first k? -/
def seenN (L : List Nat) (x : Nat) : Nat → Bool
  | 0 => false
  | k + 1 => seenN L x k || L.getD k 0 == x
theorem seenN_all {L : List Nat} {x : Nat} (h : x ∈ L) : seenN L x L.length = true := by
  have key : ∀ k, k ≤ L.length → (∃ j, ∃ h : j < L.length, j < k ∧ L[j] = x) → seenN L x k = true := by
    intro k
    induction k with
    | zero => rintro _ ⟨j, _, h, _⟩; exact absurd h (Nat.not_lt_zero _)
    | succ k ih =>
      rintro hk ⟨j, hj, hjk, e⟩
      rw [seenN, Bool.or_eq_true]
      by_cases e2 : j = k
      · subst e2
        refine .inr ?_
        rw [List.getD_eq_getElem?_getD, List.getElem?_eq_getElem hj, Option.getD_some, e]; simp
      · exact .inl (ih (by omega) ⟨j, hj, by omega, e⟩)
  obtain ⟨j, hj, e⟩ := List.getElem_of_mem h
  exact key _ (Nat.le_refl _) ⟨j, hj, hj, e⟩
theorem rise_cases (t : ByteArray) (x : Int) : (riseI t x = -1 ∧ (riseB t x = true → monoB t = false)) ∨ (netOk t = true ∧ monoN (netOf t) = true ∧ ∃ s : Nat, x = s ∧ riseP (netOf t) s) := by
  cases hm : monoB t
  · left
    unfold riseI
    rw [hm, Bool.false_and]; exact ⟨rfl, fun _ => rfl⟩
  · cases hb : riseB t x
    · left
      unfold riseI
      rw [hb, Bool.and_false]; exact ⟨rfl, fun h => absurd h (by decide)⟩
    · right
      unfold monoB at hm
      rw [Bool.and_eq_true] at hm
      have h1 : stB t x = true := by
        unfold riseB at hb
        rw [Bool.and_eq_true] at hb; exact hb.1
      obtain ⟨s, rfl⟩ := Int.eq_ofNat_of_zero_le (stB_yes h1).2.1
      exact ⟨hm.1, hm.2, s, rfl, riseB_P hb⟩
set_option maxHeartbeats 2000000 in
theorem law_Rise (w : World) (a : Option Addr) (n c : Nat) (hc : c ≤ maxLen) (h : CodeAt w a n c) :
    Calls Tryd.prog 6 #[.slice a n c] w fun e w' => Below w.heap.size w w' ∧ e = .returned (.bool true) := by
  have hle := h.1
  have m0 : n ≤ 9223372036854775807 := by unfold maxLen at hc; omega
  have cD := Lib.hid (drawRise_any a n c hc w h)
  clear h
  by_cases s0 : n ≤ 1048576
  case' neg =>
    go_enter Tryd.func6, Tryd.ntmps6
    go_wp2_with fail
    go_ret
    exact ⟨Below.refl _ _, rfl⟩
  go_enter Tryd.func6, Tryd.ntmps6
  go_wp2_with fail
  refine cD.out.mono ?_
  rintro e w1 ⟨hW1, t, x, ht, hx, rfl⟩
  have hW1s := hW1.size
  have c1 := Lib.hid (fun wx => riseFrom_impl t x wx (by omega))
  have c2 := Lib.hid (fun wx => isRising_impl t x wx (by omega))
  have c3 := Lib.hid (fun wx => riseFrom_spec t x wx (by omega))
  have c4 := Lib.hid (fun wx => isRising_spec t x wx (by omega))
  have c5 := Lib.hid (fun wx => isMonotone_impl t wx (by omega))
  rcases rise_cases t x with ⟨hk, hd⟩ | ⟨hok, hmo, s, rfl, hP⟩
  · rw [hk] at c1 c3
    clear hk
    obtain ⟨d, hd0⟩ : ∃ d, riseB t x = d := ⟨_, rfl⟩
    rw [hd0] at c2 c4 hd
    clear hd0
    have c5d := Lib.hid (fun (h : d = true) wx => (hd h) ▸ c5.out wx)
    clear hd
    have e1 : (d != d) = false := by simp
    have e2 : (d == d) = true := by simp
    go_wp2_with fail
    refine (c1.out _).mono ?_
    rintro e w2 ⟨hW2, rfl⟩
    go_wp2_with fail
    refine (c2.out _).mono ?_
    rintro e w3 ⟨hW3, rfl⟩
    go_wp2_with fail
    refine (c3.out _).mono ?_
    rintro e w4 ⟨hW4, rfl⟩
    go_wp2_with fail
    refine (c4.out _).mono ?_
    rintro e w5 ⟨hW5, rfl⟩
    go_wp2_with fail
    refine (c3.out _).mono ?_
    rintro e w6 ⟨hW6, rfl⟩
    go_wp2_with fail
    refine (c4.out _).mono ?_
    rintro e w7 ⟨hW7, rfl⟩
    have k2 := hW2.size
    have k3 := hW3.size
    have k4 := hW4.size
    have k5 := hW5.size
    have k6 := hW6.size
    have k7 := hW7.size
    have hB7 : Below w.heap.size w w7 := (((((hW1.trans (hW2.mono (by omega))).trans (hW3.mono (by omega))).trans (hW4.mono (by omega))).trans (hW5.mono (by omega))).trans (hW6.mono (by omega))).trans (hW7.mono (by omega))
    cases d
    · go_wp2_with fail
      go_ret
      exact ⟨hB7, rfl⟩
    · go_wp2_with fail
      refine (c5d.out (by first | trivial | rfl) _).mono ?_
      rintro e w8 ⟨hW8, rfl⟩
      go_wp2_with fail
      go_ret
      exact ⟨hB7.trans (hW8.mono hB7.size), rfl⟩
  · have hn := netOf_ok hok
    have hs := hP.1
    have hR := rise_rest hmo hn.2 hP
    have hlt := lim_lt (N := netOf t) hs
    have hfx := hR.2
    rw [riseI_nat hok hmo hP] at c1 c3
    rw [riseB_nat hok hP] at c2 c4
    have cp := Lib.hid (fun wx => (show pointsL t = fixL (netOf t) by rw [pointsL, hok]; rfl) ▸ fixedPoints_impl t wx (by omega))
    have cy := Lib.hid (fun wx => cycleOf_rest t s wx (by omega) hok hR)
    have hfin := rise_up hmo hP 32
    have hmem := Lib.hid (fun p (h : p ∈ fixL (netOf t)) => (fixL_mem.1 h).1)
    have hord := Lib.hid (fun p (h : p ∈ fixL (netOf t)) => fun hle : leB s p = true => lim_le hmo (fixL_mem.1 h).1 (fixL_mem.1 h).2 hle)
    have hpl : (fixL (netOf t)).length ≤ 32 := Nat.le_trans (pickL_length _ _) (pw_le hn.2).2
    have hall := seenN_all (fixL_mem.2 ⟨hlt, hfx⟩)
    have harr : arB (netOf t) s (limN (netOf t) s) = true := arB_iff.2 (rise_AR hmo hn.2 32 s (by omega) hP)
    have cc0 := fun (wx : World) => canReach_impl t s (limN (netOf t) s) wx (by omega) hok hs hlt
    rw [harr] at cc0
    have cc := Lib.hid cc0
    clear cc0 harr
    obtain ⟨lm, hlm⟩ : ∃ lm, limN (netOf t) s = lm := ⟨_, rfl⟩
    have hfin2 : leB s lm = true := by rw [← hlm]; exact hfin
    rw [hlm] at c1 c3 cy hord hlt hall cc
    have hpw := pw_le hn.2
    obtain ⟨N, hN⟩ : ∃ N, netOf t = N := ⟨_, rfl⟩
    rw [hN] at hn hs cp hmem hord hpl hlt hpw hall
    obtain ⟨L, hL⟩ : ∃ L, fixL N = L := ⟨_, rfl⟩
    rw [hL] at cp hmem hord hpl hall
    have Hall := Lib.hid hall
    clear hN hL hok hmo hP hR hfx hfin hlm hall
    have z1 : ((lm : Int) != (lm : Int)) = false := by simp
    have z5 : ¬ ((lm : Int) < 0) := by omega
    go_wp2_with fail
    refine (c1.out _).mono ?_
    rintro e w2 ⟨hW2, rfl⟩
    go_wp2_with fail
    refine (c2.out _).mono ?_
    rintro e w3 ⟨hW3, rfl⟩
    go_wp2_with fail
    refine (c3.out _).mono ?_
    rintro e w4 ⟨hW4, rfl⟩
    go_wp2_with fail
    refine (c4.out _).mono ?_
    rintro e w5 ⟨hW5, rfl⟩
    have k2 := hW2.size
    have k3 := hW3.size
    have k4 := hW4.size
    have k5 := hW5.size
    have hB5 : Below w.heap.size w w5 := (((hW1.trans (hW2.mono (by omega))).trans (hW3.mono (by omega))).trans (hW4.mono (by omega))).trans (hW5.mono (by omega))
    go_wp2_with fail
    refine (cp.out _).mono ?_
    rintro e w6 ⟨hW6, ap, cap, rfl, hI⟩
    have HI := Lib.hid hI
    have hB6 := hB5.trans (hW6.mono hB5.size)
    clear hI
    go_wp2_with fail
    go_loopw [8, 9] (fun sm i wr => ∃ k : Nat, k ≤ L.length ∧ i = .int .i64 k ∧ sm = .bool (seenN L lm k) ∧ wr = w6) (fun _ i _ => L.length - (intOf i).toNat)
    case atStart => exact ⟨0, Nat.zero_le _, rfl, rfl, rfl⟩
    case round =>
      obtain ⟨k, hk, rfl, rfl, rfl⟩ := hrel
      by_cases hlt2 : k < L.length
      · obtain ⟨g, cur, tt, rfl, hBg, hcur, hcs, hcells⟩ := HI.out.at' (by rw [nats_length]; omega)
        have hcell : wr.cell? ⟨g, k, none⟩ = some (.int .i64 ((L[k] : Nat) : Int)) := by
          rw [cell_of_row wr _ _ _ _ _ hcur, hcells k (by rw [nats_length]; exact hlt2)]; simp [nats]
        have p1 := hmem.out _ (List.getElem_mem hlt2)
        have f1 := Lib.hid (hord.out _ (List.getElem_mem hlt2))
        have hse : seenN L lm (k + 1) = (seenN L lm k || L[k] == lm) := by
          rw [seenN, List.getD_eq_getElem?_getD, List.getElem?_eq_getElem hlt2, Option.getD_some]
        obtain ⟨p, hp0⟩ : ∃ p, L[k] = p := ⟨_, rfl⟩
        rw [hp0] at hcell p1 f1 hse
        clear hcells hcur hp0
        have a1 := i64_andNot s p (by omega) (by omega)
        have a2 := i64_andNot lm p (by omega) (by omega)
        have b1 := andNot_zero s p
        have b2 := andNot_zero lm p
        have n2 : (((lm ^^^ (lm &&& p) : Nat) : Int) != 0) = !leB lm p := by rw [bne, b2]
        have hpe : ((p : Int) == (lm : Int)) = (p == lm) := by
          rw [Bool.eq_iff_iff, beq_iff_eq, beq_iff_eq]; omega
        obtain ⟨l1, hl1⟩ : ∃ b, leB s p = b := ⟨_, rfl⟩
        obtain ⟨l2, hl2⟩ : ∃ b, leB lm p = b := ⟨_, rfl⟩
        obtain ⟨pe, hpe0⟩ : ∃ b, (p == lm) = b := ⟨_, rfl⟩
        obtain ⟨sm, hsm⟩ : ∃ b, seenN L lm k = b := ⟨_, rfl⟩
        rw [hl1] at b1 f1
        rw [hl2] at n2 f1
        rw [hpe0] at hpe hse
        rw [hsm] at hse ⊢
        clear b2 hl1 hl2 hpe0 hsm
        obtain ⟨x1, hx1⟩ : ∃ x, s ^^^ (s &&& p) = x := ⟨_, rfl⟩
        obtain ⟨x2, hx2⟩ : ∃ x, lm ^^^ (lm &&& p) = x := ⟨_, rfl⟩
        rw [hx1] at a1 b1
        rw [hx2] at a2 n2
        clear hx1 hx2
        have F1 : l1 = false ∨ (l1 = true ∧ l2 = true) := by
          cases l1
          · exact .inl rfl
          · exact .inr ⟨rfl, f1.out rfl⟩
        have Hse := Lib.hid hse
        clear f1 hse
        rcases F1 with rfl | ⟨rfl, rfl⟩ <;> cases sm
        all_goals
          go_wp2_with fail
          go_roundw
          case rel => exact ⟨k + 1, by omega, by go_num, by rw [Hse.out]; first | rfl | simp, by first | rfl | trivial⟩
          case measure => simp [intOf] <;> omega
      · obtain rfl : k = L.length := by omega
        have a1 := i64_andNot s lm (by omega) (by omega)
        have b1 := andNot_zero s lm
        rw [hfin2] at b1
        obtain ⟨x1, hx1⟩ : ∃ x, s ^^^ (s &&& lm) = x := ⟨_, rfl⟩
        rw [hx1] at a1 b1
        rw [Hall.out]
        clear hx1
        go_wp2_with fail
        refine (cy.out _).mono ?_
        rintro e v1 ⟨hV1, a3, c3', rfl, hI3⟩
        obtain ⟨g, cur, tt, rfl, hBg, hcur, hcs, hcells⟩ := hI3.at' (by simp)
        have hcell : v1.cell? ⟨g, 0, none⟩ = some (.int .i64 (lm : Int)) := by
          rw [cell_of_row v1 _ _ _ _ _ hcur, hcells 0 (by simp)]; rfl
        clear hI3 hcells hcur
        have g1 := hV1.size
        have g5 := hB6.size
        go_wp2_with fail
        refine (cc.out _).mono ?_
        rintro e v2 ⟨hV2, rfl⟩
        go_wp2_with fail
        go_ret
        exact ⟨(hB6.trans (hV1.mono (by omega))).trans (hV2.mono (by omega)), rfl⟩
end Go.Proofs.YtkfagolmpbbckaaDoor
