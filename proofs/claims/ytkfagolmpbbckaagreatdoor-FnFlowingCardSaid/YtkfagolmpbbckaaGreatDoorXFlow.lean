/- Walk of the law on flowing networks. -/
import Derived.Test.YtkfagolmpbbckaaGreatDoorSq
import Derived.Test.YtkfagolmpbbckaaGreatDoorAo
import Derived.Test.YtkfagolmpbbckaaGreatDoorOg
import Derived.Test.YtkfagolmpbbckaaGreatDoorImpl7
import Derived.Test.YtkfagolmpbbckaaGreatDoorSpecH
import Derived.Test.YtkfagolmpbbckaaGreatDoorImplJ
import Derived.Test.YtkfagolmpbbckaaGreatDoorImplB
import Derived.Test.YtkfagolmpbbckaaGreatDoorTh
import Derived.Test.YtkfagolmpbbckaaGreatDoorDf
import Derived.Test.YtkfagolmpbbckaaGreatDoorFa
namespace Go.Proofs.YtkfagolmpbbckaaGreatDoor
open Go Go.RowKit Go.Sw
set_option maxRecDepth 100000
set_option linter.unusedVariables false

theorem termB_termF (n : Nat) (p : Trm) : termB (termT n p) n = true := by
  unfold termB
  rw [Bool.and_eq_true, decide_eq_true_eq]
  refine ⟨termT_size n p, ?_⟩
  rw [List.all_eq_true]
  intro b hb
  obtain ⟨i, _, rfl⟩ : ∃ a, a < n ∧ letterT (p a) = b := by simpa [termT, bs] using hb
  cases p i with
  | none => decide
  | some c => cases c <;> decide
theorem swB_natF {t : ByteArray} (h : netOk t = true) {i : Nat} (hi : i < (netOf t).n) : swB t (i : Int) = true := by
  unfold swB
  rw [h, Bool.true_and, decide_eq_true (by omega), decide_eq_true (by omega)]; rfl
/-- where not all is known, ways of any length end -/
theorem star_way {N : Net} {p : Trm} (hd : sprD N p) (m : Nat) : ∀ k, k < N.n → p k = none → ∃ a s l, l.length = m ∧ (∀ z ∈ l, z < N.n) ∧ Wk (arcB N) a k s l := by
  induction m with
  | zero => intro k _ _; exact ⟨k, true, [], rfl, (fun z hz => by cases hz), .nil k⟩
  | succ m ih =>
    intro k hk hpk
    have hf : frcP N p k = none := by
      have := hd k hk
      rw [hpk] at this
      unfold sprP at this
      rwa [hpk] at this
    have hex : ∃ x y, x ∈ statesP N.n p ∧ y ∈ statesP N.n p ∧ N.f k x ≠ N.f k y := by
      apply Classical.byContradiction
      intro hno
      unfold frcP at hf
      rw [if_pos] at hf
      · cases hf
      · rw [List.all_eq_true]
        intro s hs
        rw [beq_iff_eq]
        apply Classical.byContradiction
        intro hne
        have hh : (statesP N.n p).headD 0 ∈ statesP N.n p := by
          cases hS : statesP N.n p with
          | nil => rw [hS] at hs; cases hs
          | cons a r => simp
        exact hno ⟨s, _, hs, hh, hne⟩
    obtain ⟨x, y, hx, hy, hne⟩ := hex
    obtain ⟨hx1, hx2⟩ := (statesP_mem _ _ _).1 hx
    obtain ⟨hy1, hy2⟩ := (statesP_mem _ _ _).1 hy
    obtain ⟨j, hj, hjne, ha⟩ := flip_arc hk hx1 hy1 hne
    have hpj : p j = none := by
      cases hpj : p j with
      | none => rfl
      | some c =>
        have e1 := (hasP_iff _ _ _).1 hx2 j hj
        have e2 := (hasP_iff _ _ _).1 hy2 j hj
        rw [hpj] at e1 e2
        simp only [fitB, beq_iff_eq] at e1 e2
        exact absurd (e1.symm.trans e2) hjne
    obtain ⟨a, s, l, h1, h2, h3⟩ := ih j hj hpj
    have := h3.append (Wk.one ha)
    exact ⟨a, _, _, by rw [List.length_append, h1]; rfl, fun z hz => by
      rcases List.mem_append.1 hz with hz | hz
      · exact h2 z hz
      · obtain rfl : z = j := by simpa using hz
        exact hj, this⟩
theorem sprF_pointF {N : Net} {s : Nat} (hs : s < pw N.n) (h : stepN N s = s) (f : Nat) : ∀ p, hasP N.n p s = true → hasP N.n (sprF f N p) s = true := by
  induction f with
  | zero => intro p hp; exact hp
  | succ f ih => intro p hp; exact ih _ (spr_point hs hp h)
/-- all that is not known spreads to the one fixed point -/
theorem flow_spread {N : Net} (hc : circL N = []) (p : Trm) (hp : hasP N.n p (iterN N N.n 0) = true) : termT N.n (sprF N.n N p) = termT N.n (pointP (iterN N N.n 0)) := by
  have hz : 0 < pw N.n := Nat.two_pow_pos _
  have hzl := iterN_lt N N.n 0 hz
  have hd : sprD N (sprF N.n N p) := sprF_end N.n p (starN_le N.n p)
  have hh := sprF_pointF hzl (flow_fix hc hz) N.n p hp
  refine termT_congr fun i hi => ?_
  cases hpi : sprF N.n N p i with
  | none =>
    obtain ⟨a, s, l, h1, h2, h3⟩ := star_way hd N.n i hi hpi
    obtain ⟨c, t, m, k1, k2, k3⟩ := closed_way' h3 (by omega) h2 hi
    exact absurd (no_closed hc k3) k1
  | some b =>
    have := (hasP_iff _ _ _).1 hh i hi
    rw [hpi] at this
    simp only [fitB, beq_iff_eq] at this
    rw [this]; rfl
theorem flow_cycles {N : Net} (hc : circL N = []) (h5 : N.n ≤ 5) {Ls : List (List Nat)} (h : CycSt N (pw N.n) Ls) : Ls.length = 1 := by
  have hz : 0 < pw N.n := Nat.two_pow_pos _
  have hzl := iterN_lt N N.n 0 hz
  have hall : ∀ L ∈ Ls, L = [iterN N N.n 0] := fun L hL => by
    obtain ⟨s, hs, hC, _⟩ := h.each L hL
    obtain ⟨h1, h2⟩ := flow_rest hc h5 hs
    rw [cyc_rest hC h1, h2]
  have hm := h.fix _ hzl (flow_fix hc hz) hzl
  have hh := h.heads
  match Ls, hall, hm, hh with
  | [], _, hm, _ => cases hm
  | [_], _, _, _ => rfl
  | a :: b :: r, hall, _, hh =>
    have e1 := hall a (by simp)
    have e2 := hall b (by simp)
    subst e1 e2
    simp only [List.map_cons, List.pairwise_cons] at hh
    have := hh.1 _ (List.mem_cons_self ..)
    omega
theorem stars_term (n : Nat) (hn : n ≤ 5) : (⟨#[42, 42, 42, 42, 42]⟩ : ByteArray).extract 0 n = termT n (fun _ => none) := by
  have : n = 0 ∨ n = 1 ∨ n = 2 ∨ n = 3 ∨ n = 4 ∨ n = 5 := by omega
  rcases this with rfl | rfl | rfl | rfl | rfl | rfl <;> (apply ba_ext; decide +kernel)
theorem sprT_term {t : ByteArray} (h : netOk t = true) (p : Trm) : sprT t (termT (netOf t).n p) = termT (netOf t).n (sprF (netOf t).n (netOf t) (ofT (termT (netOf t).n p))) := by
  have : termOk t (termT (netOf t).n p) = true := by unfold termOk; rw [h, termB_termF]; rfl
  rw [sprT, this]; rfl
set_option maxHeartbeats 8000000 in
theorem law_Flowing (w : World) (a : Option Addr) (n c : Nat) (hc : c ≤ maxLen) (h : CodeAt w a n c) :
    Calls Tryz.prog 5 #[.slice a n c] w fun e w' => Below w.heap.size w w' ∧ e = .returned (.bool true) := by
  have hle := h.1
  have m0 : n ≤ 9223372036854775807 := by unfold maxLen at hc; omega
  have cD := Lib.hid (drawIsFlow_any a n c hc w h)
  clear h
  by_cases s0 : n ≤ 1048576
  case' neg =>
    go_enter Tryz.func5, Tryz.ntmps5
    go_wp2_with fail
    go_ret
    exact ⟨Below.refl _ _, rfl⟩
  go_enter Tryz.func5, Tryz.ntmps5
  go_wp2_with fail
  refine cD.out.mono ?_
  rintro e w1 ⟨hW1, t, ht, rfl⟩
  have hW1s := hW1.size
  have c1 := Lib.hid (fun wx => isFlowing_impl t wx (by omega))
  have c2 := Lib.hid (fun wx => isFlowing_spec t wx (by omega))
  have c3 := Lib.hid (fun wx => networkValid_impl t wx (by omega))
  cases hok : netOk t
  · have hfl : flowB t = false := by rw [flowB, hok]; rfl
    rw [hfl] at c1 c2
    rw [hok] at c3
    clear hok hfl
    go_wp2_with fail
    refine (c1.out _).mono ?_
    rintro e w2 ⟨hW2, rfl⟩
    have hB2 := hW1.trans (hW2.mono hW1s)
    go_wp2_with fail
    refine (c2.out _).mono ?_
    rintro e w3 ⟨hW3, rfl⟩
    have hB3 := hB2.trans (hW3.mono hB2.size)
    go_wp2_with fail
    refine (c3.out _).mono ?_
    rintro e w4 ⟨hW4, rfl⟩
    have hB4 := hB3.trans (hW4.mono hB3.size)
    go_wp2_with fail
    refine (c2.out _).mono ?_
    rintro e w5 ⟨hW5, rfl⟩
    go_wp2_with fail
    go_ret
    exact ⟨hB4.trans (hW5.mono hB4.size), by first | rfl | simp⟩
  · have hn := netOf_ok hok
    have hfl : flowB t = (circL (netOf t)).isEmpty := by rw [flowB, hok]; rfl
    have hal : aloneTo (netOf t) (netOf t).n = (circL (netOf t)).isEmpty := by
      cases hb : aloneTo (netOf t) (netOf t).n
      · cases hcl : circL (netOf t) with
        | nil => rw [(alone_iff (netOf t)).2 hcl] at hb; cases hb
        | cons x r => rfl
      · rw [(alone_iff (netOf t)).1 hb]; rfl
    have cz := Lib.hid (fun wx => (sizI_yes hok) ▸ sizeOf_impl t wx (by omega))
    have cA := Lib.hid (fun (k : Nat) (hk : k < (netOf t).n) wx => (by
      have hs : swB t (k : Int) = true := swB_natF hok hk
      have := actsOn_impl t (k : Int) wx (by omega)
      rw [actsI, hs, if_pos rfl, Int.toNat_natCast] at this
      exact this : Calls Tryz.prog 25 #[.string t, .int .i64 (k : Int)] wx fun e w' => Below wx.heap.size wx w' ∧ e = .returned (.int .i64 (reachN (netOf t) k : Nat))))
    have cTail := Lib.hid (fun hcl wx => longestTail_flow t wx (by omega) hok hcl)
    have cCyc := Lib.hid (fun (hcl : circL (netOf t) = []) wx => (show Calls Tryz.prog 28 #[.string t] wx fun e w' => Below wx.heap.size wx w' ∧ ∃ q cc, e = .returned (.slice q 1 cc) from by
      refine (cyclesOf_impl t wx (by omega) hok).mono ?_
      rintro e w' ⟨h1, Ls, out, vs, hC, rfl, hR⟩
      have hl := flow_cycles hcl hn.2 hC
      have ho := hR.own
      rw [hR.len, hl] at ho
      obtain ⟨q, cc, rfl, _, _⟩ := own_slice ho (by omega)
      exact ⟨h1, _, _, rfl⟩))
    have cAtt := Lib.hid (fun (hcl : circL (netOf t) = []) wx => (show Calls Tryz.prog 12 #[.string t] wx fun e w' => Below wx.heap.size wx w' ∧ ∃ q cc, e = .returned (.slice q 1 cc) from by
      refine (attractorsOf_impl t wx (by omega) hok).mono ?_
      rintro e w' ⟨h1, q, cc, h2⟩
      have hl := (att_points (N := netOf t) fun c hc => by rw [hcl] at hc; cases hc).1
      rw [flow_points hcl] at hl
      rw [hl] at h2
      exact ⟨h1, q, cc, h2⟩))
    have cP := Lib.hid (fun (hcl : circL (netOf t) = []) wx => (show Calls Tryz.prog 11 #[.string t] wx fun e w' => Below wx.heap.size wx w' ∧ ∃ q cc, e = .returned (.slice q 1 cc) ∧ IntsAt w' wx.heap.size q [((iterN (netOf t) (netOf t).n 0 : Nat) : Int)] from by
      have hpt : pointsL t = [iterN (netOf t) (netOf t).n 0] := by rw [pointsL, hok, if_pos rfl, flow_points hcl]
      have := fixedPoints_impl t wx (by omega)
      rw [hpt] at this
      exact this))
    have cSp := Lib.hid (fun (hcl : circL (netOf t) = []) wx => (show Calls Tryz.prog 26 #[.string t, .string (termT (netOf t).n fun _ => none)] wx fun e w' => Below wx.heap.size wx w' ∧ e = .returned (.tuple #[.string (termT (netOf t).n (pointP (iterN (netOf t) (netOf t).n 0))), .bool true]) from by
      have h1 := spreadTerm_impl t (termT (netOf t).n fun _ => none) wx (by omega) (by rw [termT_size]; omega)
      have hto : termOk t (termT (netOf t).n fun _ => none) = true := by unfold termOk; rw [hok, termB_termF]; rfl
      have e1 := sprT_term hok (fun _ => none)
      have e2 := flow_spread hcl (ofT (termT (netOf t).n fun _ => none)) ((hasP_iff _ _ _).2 fun i hi => by rw [ofT_term hi]; rfl)
      rw [hto, e1, e2] at h1
      exact h1))
    have hz : 0 < pw (netOf t).n := Nat.two_pow_pos _
    have cFm := Lib.hid (fun wx => formatState_impl (iterN (netOf t) (netOf t).n 0) (netOf t).n hn.1 hn.2 (iterN_lt _ _ _ hz) wx)
    have hrl := Lib.hid (fun k => reachN_lt (netOf t) k)
    rw [hfl] at c1 c2
    rw [hok] at c3
    obtain ⟨N, hN⟩ : ∃ N, netOf t = N := ⟨_, rfl⟩
    rw [hN] at c1 c2 hal cz cA cTail cCyc cAtt cP cSp cFm hn hrl
    have hst := stars_term N.n hn.2
    obtain ⟨fl, hfb⟩ : ∃ b, (circL N).isEmpty = b := ⟨_, rfl⟩
    rw [hfb] at c1 c2 hal
    have Hal := Lib.hid hal
    have Hfb := Lib.hid hfb
    obtain ⟨st, hst0⟩ : ∃ x, termT N.n (fun _ => none) = x := ⟨_, rfl⟩
    rw [hst0] at hst cSp
    have e1 : (fl != fl) = false := by simp
    obtain ⟨zv, hzv⟩ : ∃ x, iterN N N.n 0 = x := ⟨_, rfl⟩
    rw [hzv] at cP cSp cFm
    obtain ⟨zt, hzt⟩ : ∃ x, termT N.n (pointP zv) = x := ⟨_, rfl⟩
    rw [hzt] at cSp cFm
    clear hzv hzt
    have Hst := Lib.hid hst
    clear hok hfl hN hal hfb hst0 hz hst
    go_wp2_with fail
    refine (c1.out _).mono ?_
    rintro e w2 ⟨hW2, rfl⟩
    have hB2 := hW1.trans (hW2.mono hW1s)
    go_wp2_with fail
    refine (c2.out _).mono ?_
    rintro e w3 ⟨hW3, rfl⟩
    have hB3 := hB2.trans (hW3.mono hB2.size)
    go_wp2_with fail
    refine (c3.out _).mono ?_
    rintro e w4 ⟨hW4, rfl⟩
    have hB4 := hB3.trans (hW4.mono hB3.size)
    go_wp2_with fail
    refine (cz.out _).mono ?_
    rintro e w5 ⟨hW5, rfl⟩
    have hB5 := hB4.trans (hW5.mono hB4.size)
    go_wp2_with fail
    go_loopw [6, 7] (fun al i wr => ∃ k : Nat, k ≤ N.n ∧ i = .int .i64 k ∧ al = .bool (aloneTo N k) ∧ Below w5.heap.size w5 wr) (fun _ i _ => N.n - (intOf i).toNat)
    case atStart => exact ⟨0, Nat.zero_le _, rfl, rfl, Below.refl _ _⟩
    case round =>
      obtain ⟨k, hk, rfl, rfl, hV⟩ := hrel
      have hVs := hV.size
      by_cases hlt : k < N.n
      · have hsuc : aloneTo N (k + 1) = (aloneTo N k && !(reachN N k).testBit k) := rfl
        have C5 := Lib.hid (cA.out k hlt wr)
        obtain ⟨al, hal⟩ : ∃ b, aloneTo N k = b := ⟨_, rfl⟩
        rw [hal] at hsuc ⊢
        have Hsuc := Lib.hid hsuc
        have hbt := bit_test (reachN N k) k
        have hki : (k : Int) < (N.n : Int) := by omega
        have hrk := hrl.out k
        obtain ⟨R, hR⟩ : ∃ x, reachN N k = x := ⟨_, rfl⟩
        rw [hR] at C5 Hsuc hbt hrk
        clear hal hsuc hR
        cases al
        · go_wp2_with fail
          go_roundw
          case rel => exact ⟨k + 1, by omega, by go_num, by rw [Hsuc.out]; rfl, hV⟩
          case measure => simp [intOf] <;> omega
        · go_wp2_with fail
          refine C5.out.mono ?_
          rintro e v1 ⟨hV1, rfl⟩
          go_wp2_with fail
          go_roundw
          case rel => exact ⟨k + 1, by omega, by go_num, by rw [Hsuc.out]; rfl, hV.trans (hV1.mono hVs)⟩
          case measure => simp [intOf] <;> omega
      · obtain rfl : k = N.n := by omega
        rw [Hal.out]
        have hB6 := hB5.trans (hV.mono hB5.size)
        cases fl
        · go_wp2_with fail
          go_ret
          exact ⟨hB6, rfl⟩
        · have hcl : circL N = [] := List.isEmpty_iff.1 Hfb.out
          have F1 := Lib.hid (cTail.out hcl)
          have F2 := Lib.hid (cCyc.out hcl)
          have F3 := Lib.hid (cAtt.out hcl)
          have F4 := Lib.hid (cP.out hcl)
          have F5 := Lib.hid (cSp.out hcl)
          have hst := Hst.out
          have g1 : (N.n : Int) ≤ 5 := by omega
          have g2 : (0 : Int) ≤ (N.n : Int) := by omega
          clear hcl
          go_wp2_with fail
          refine (F5.out _).mono ?_
          rintro e w7 ⟨hW7, rfl⟩
          have hB7 := hB6.trans (hW7.mono hB6.size)
          go_wp2_with fail
          refine (F4.out _).mono ?_
          rintro e w8 ⟨hW8, q8, cc8, rfl, hI8⟩
          have hB8 := hB7.trans (hW8.mono hB7.size)
          obtain ⟨g, cur, tt, rfl, hBg, hcur, hcs, hcells⟩ := hI8.at' (by simp)
          have hgl := block_lt hcur
          have hc0 := hcells 0 (by simp)
          have Hcur := Lib.hid hcur
          have Hc0 := Lib.hid hc0
          clear hI8 hcells hc0 hcur F4 F5
          go_wp2_with fail
          refine (F1.out _).mono ?_
          rintro e w9 ⟨hW9, m, hm, rfl⟩
          have hB9 := hB8.trans (hW9.mono hB8.size)
          have hmi : (m : Int) ≤ (N.n : Int) := by omega
          go_wp2_with fail
          refine (F2.out _).mono ?_
          rintro e w10 ⟨hW10, q10, cc10, rfl⟩
          have hB10 := hB9.trans (hW10.mono hB9.size)
          have hcell : w10.cell? ⟨g, 0, none⟩ = some (.int .i64 (zv : Int)) := by
            rw [cell_of_row w10 _ _ _ _ _ ((hW10.block g (by have := hW9.size; omega)).trans ((hW9.block g hgl).trans Hcur.out)), Hc0.out]; rfl
          go_wp2_with fail
          refine (cFm.out _).mono ?_
          rintro e w11 ⟨hW11, rfl⟩
          have hB11 := hB10.trans (hW11.mono hB10.size)
          go_wp2_with fail
          refine (F3.out _).mono ?_
          rintro e w12 ⟨hW12, q12, cc12, rfl⟩
          go_wp2_with fail
          go_ret
          exact ⟨hB11.trans (hW12.mono hB11.size), by first | rfl | simp⟩
end Go.Proofs.YtkfagolmpbbckaaGreatDoor
