/- The program's points by reducing. -/
import Derived.Test.YtkfagolmpbbckaaDoorPr
import Derived.Test.YtkfagolmpbbckaaDoorSo
import Derived.Test.YtkfagolmpbbckaaDoorImplS
import Derived.Sort.OwnSortedInts
namespace Go.Proofs.YtkfagolmpbbckaaDoor
open Go Go.RowKit Go.Sw
set_option maxRecDepth 100000
set_option linter.unusedVariables false
/-- a slice of the call's own, sorted -/
theorem sort_own (base : Nat) (v : Value) (xs : List Int) (w : World) (hl : xs.length ≤ 1000) (h : w.ownsRow base 3 1 v xs.length (ints xs)) (hb : base ≤ w.heap.size) :
    Calls Tryd.prog 111 #[v] w fun e w' => e = .returned (.tuple #[]) ∧ Below base w w' ∧ w'.ownsRow base 3 1 v xs.length (ints (xs.mergeSort fun x y => decide (x ≤ y))) := by
  rcases h.2 with ⟨h0, h1⟩ | ⟨g, cap, cur, rfl, hg, hcur, hn, hcap, hsz, htk⟩
  · subst h0
    rw [h1]
    refine (Tryd.slices_Sort_int_none none 0 w).mono ?_
    rintro e w' ⟨rfl, rfl⟩
    have hx : xs = [] := List.eq_nil_of_length_eq_zero h1
    subst hx
    exact ⟨rfl, Below.refl _ _, by rw [List.mergeSort_nil]; exact World.ownsRow_nil _ _ _ _⟩
  · have hml : (xs.mergeSort fun x y => decide (x ≤ y)).length = xs.length := List.length_mergeSort _
    have hH := holds_of_blockI (ss := xs) hcur (by rw [← Nat.mul_one xs.length]; exact htk)
    refine (Tryd.slices_Sort_int g 0 cap xs w hH (Array.getElem?_eq_some_iff.1 hcur).1 (by omega)).mono ?_
    rintro e w' ⟨rfl, n, os, rfl⟩
    refine ⟨rfl, (Below.refl _ _).grown (grownBy_sortedI _) hb (fun q hq => by cases hq; exact hg), ?_⟩
    exact ownsRow_sortedI hml hg hcur hn hcap hsz
set_option maxHeartbeats 2000000 in
theorem byRed_impl (t : ByteArray) (w : World) (hs : t.size ≤ 1048576) :
    Calls Tryd.prog 54 #[.string t] w fun e w' => Below w.heap.size w w' ∧ ∃ a cap, e = .returned (.slice a (ptsR t).length cap) ∧ IntsAt w' w.heap.size a (nats (ptsR t)) := by
  have cR := Lib.hid (readNetwork_any t w hs)
  cases hok0 : netOk t
  · have Hr := Lib.hid (show ptsR t = [] by rw [ptsR, hok0]; rfl)
    have Hok := Lib.hid hok0
    clear hok0
    go_enter Tryd.func54, Tryd.ntmps54
    go_wp2_with fail
    refine cR.out.mono ?_
    rintro e w1 ⟨hW1, ⟨hbad, rfl⟩ | ⟨hok, b, cap, rfl, hb1, hb2, hat⟩⟩
    · clear hbad
      go_wp2_with fail
      go_ret
      exact ⟨hW1, none, 0, by rw [Hr.out]; rfl, by rw [Hr.out]; exact intsAt_nil _ _ _⟩
    · rw [Hok.out] at hok; cases hok
  · have hn := netOf_ok hok0
    have hq : redQ t = (fixL (redN (netOf t).n (netOf t))).map (redP (netOf t).n (netOf t)) := by rw [redQ, pointsR hok0]
    have Hs := Lib.hid (show (nats (redQ t)).mergeSort (fun x y => decide (x ≤ y)) = nats (ptsR t) by
      rw [sort_pickL (redQ_nodup t) (redQ_lt hok0), ptsR, hok0]; rfl)
    have hrn := redN_pos (netOf t).n (netOf t) hn.1
    have htx : redT t = netText (redN (netOf t).n (netOf t)) := by rw [redT, hok0]; rfl
    have hpr := pointsR hok0
    obtain ⟨N, hN⟩ : ∃ N, netOf t = N := ⟨_, rfl⟩
    rw [hN] at hn cR hq hrn htx hpr
    have Hok := Lib.hid hok0
    have Hq := Lib.hid hq
    have Hpr := Lib.hid hpr
    have Htx := Lib.hid htx
    clear hok0 hN hq hpr htx
    go_enter Tryd.func54, Tryd.ntmps54
    go_wp2_with fail
    refine cR.out.mono ?_
    rintro e w1 ⟨hW1, ⟨hbad, rfl⟩ | ⟨hok, b, cap, rfl, hb1, hb2, hat⟩⟩
    · rw [Hok.out] at hbad; cases hbad
    · have cD := Lib.hid (reduce_any b cap N hn.1 hn.2 w1 hat hb2)
      clear hat hok
      go_wp2_with fail
      refine cD.out.mono ?_
      rintro e w2 ⟨hW2, mv, gv, Ls, Gi, M, rfl, hR, hP, hff⟩
      have hfin := hP.fin hff
      have hM : M.n ≤ 5 ∧ 1 ≤ M.n ∧ 1 ≤ Ls.length ∧ Gi.length ≤ 5 ∧ Ls.length ≤ 6 ∧ ∃ h : Ls.length - 1 < Ls.length, Ls[Ls.length - 1] = M := by
        obtain ⟨Ms, G, hp, rfl, rfl, a1, a2, a3, a4, a5⟩ := hP
        exact ⟨a3, a2, by simp, a5, a4, by simp, by simp⟩
      obtain ⟨hM5, hM1, hL1, hG5, hL6, hl1, hlast⟩ := hM
      have hpm := pw_le hM5
      have HR := Lib.hid hR
      obtain ⟨vs, hv1, hv2, hv3⟩ := hR.met
      obtain ⟨q, cq, rfl, hq1, hq2⟩ := own_slice hv2 (by omega)
      obtain ⟨bM, cM, a1, a2, a3, _⟩ := hv3 _ hl1
      rw [hlast] at a1 a2
      have hcell : w2.cell? ⟨q, Ls.length - 1, none⟩ = some (.slice (some ⟨bM, 0, none⟩) M.n cM) := by
        have := hv2.cells (g := q) rfl (Ls.length - 1) _ a1
        rwa [Addr.add_mid, Nat.zero_add] at this
      have hsub : ((Ls.length : Int) - 1) = ((Ls.length - 1 : Nat) : Int) := by omega
      have cF := Lib.hid (fixed_any bM cM M hM5 w2 a2 a3)
      have hW12 := hW1.trans (hW2.mono hW1.size)
      obtain ⟨_, htm, hmn, Ms, G, hp, hLs, hGi, hred⟩ := hfin
      have hfx : fixL (redN N.n N) = fixL M := by
        rw [← fixL_text hrn.1 (Nat.le_trans hrn.2 hn.2), htm, fixL_text hM1 hM5]
      have Hq2 := Lib.hid (show redQ t = (fixL M).map (liftAllN Ms G) by
        rw [Hq.out, hfx]
        exact List.map_congr_left fun x hx => hred x (fixL_mem.1 hx).1)
      have hR2 : RedAt w2 w1.heap.size (.slice (some ⟨q, 0, none⟩) Ls.length cq) gv (Ms ++ [M]) (G.map Int.ofNat) := by rw [← hLs, ← hGi]; exact HR.out
      have cL := Lib.hid (fun (wx : World) (hb : Below w2.heap.size w2 wx) (x : Nat) (hx : x < pw M.n) => liftAll_any hp hn.2 x w1.heap.size hx _ _ wx (hR2.below hb))
      have hlm := Lib.hid (fun j (h : j < (fixL M).length) => (fixL_mem.1 (List.getElem_mem h)).1)
      have hfl : (fixL M).length ≤ 32 := Nat.le_trans (pickL_length _ _) hpm.2
      have hq0 : ∃ z, Ls.length - 1 = z := ⟨_, rfl⟩
      clear hR hP hff hlast hv1 hv2 hv3 a1 a2 hR2 hfx hred hLs hGi hp hmn htm HR
      obtain ⟨L, hL⟩ : ∃ L, fixL M = L := ⟨_, rfl⟩
      rw [hL] at cF Hq2 hlm hfl
      clear hL
      go_wp2_with fail
      refine cF.out.mono ?_
      rintro e w3 ⟨hW3, aF, cF', rfl, hI⟩
      have HI := Lib.hid hI
      clear hI
      have hW3s := hW3.size
      have hB3 := hW12.trans (hW3.mono hW12.size)
      have hB3s := hB3.size
      go_wp2_with fail
      go_loopw [7, 9, 30] (fun out _ i wr => ∃ m : Nat, m ≤ L.length ∧ i = .int .i64 m ∧ wr.ownsRow w3.heap.size 3 1 out (nats ((L.take m).map (liftAllN Ms G))).length (ints (nats ((L.take m).map (liftAllN Ms G)))) ∧ Below w3.heap.size w3 wr) (fun _ _ i _ => L.length - (intOf i).toNat)
      case atStart => exact ⟨0, Nat.zero_le _, rfl, World.ownsRow_nil _ _ _ _, Below.refl _ _⟩
      case round =>
        obtain ⟨m, hm, rfl, hown, hW⟩ := hrel
        have hWs := hW.size
        have Hown := Lib.hid hown
        clear hown
        by_cases hlt : m < L.length
        · obtain ⟨g, cur, tt, rfl, hBg, hcur, hcs, hcells⟩ := HI.out.at' (by rw [nats_length]; omega)
          have hgl := block_lt hcur
          have hcl : wr.cell? ⟨g, m, none⟩ = some (.int .i64 ((L[m] : Nat) : Int)) := by
            rw [cell_of_row wr _ _ _ _ _ ((hW.block g hgl).trans hcur), hcells m (by rw [nats_length]; exact hlt)]; simp [nats]
          have hxm := hlm.out m hlt
          have hsn : (L.take (m + 1)).map (liftAllN Ms G) = (L.take m).map (liftAllN Ms G) ++ [liftAllN Ms G L[m]] := by
            rw [List.take_succ_eq_append_getElem hlt, List.map_append]; rfl
          have hpl : (nats ((L.take m).map (liftAllN Ms G))).length ≤ 32 := by rw [nats_length, List.length_map, List.length_take]; omega
          have hB2 : Below w2.heap.size w2 wr := hW3.trans (hW.mono hW3s)
          obtain ⟨x, hx⟩ : ∃ x, L[m] = x := ⟨_, rfl⟩
          rw [hx] at hcl hxm hsn
          have C5 := Lib.hid (cL.out wr hB2 x hxm)
          obtain ⟨y, hy⟩ : ∃ y, liftAllN Ms G x = y := ⟨_, rfl⟩
          rw [hy] at C5 hsn
          obtain ⟨P, hP0⟩ : ∃ P, (L.take m).map (liftAllN Ms G) = P := ⟨_, rfl⟩
          rw [hP0] at Hown hsn hpl
          have Hsn := Lib.hid hsn
          have hi1 : (m : Int) < (L.length : Int) := by omega
          clear hcells hcur hx hy hP0 hsn hB2
          go_wp2_with fail
          refine C5.out.mono ?_
          rintro e w5 ⟨hW5, rfl⟩
          have Hown2 := Lib.hid (own_below Hown.out hW5)
          have hW6 := hW.trans (hW5.mono hWs)
          have hs6 := hW6.size
          go_wp2_with (first | ((with_reducible show wpList _ _ _ (⟨_, .buildSlice 26 1 _, _, _, _, _⟩ :: _) _ _); refine wpList_buildSlice' rfl _ _ _ rfl rfl (int_one (y : Int) _) ?_) | (at_builtin; refine wpList_int_append rfl _ _ rfl w3.heap.size _ (nats P) rfl ((Hown2.out.alloc _)) _ _ rfl (cell_new ?_) (by omega) (hW6.alloc (by omega) _) ?_ ?_ ?_))
          · rfl
          · exact Nat.le_refl _
          · first | omega | (simp; omega)
          · intro v' w7 hown7 hB7
            have hown8 : w7.ownsRow w3.heap.size 3 1 v' (nats ((L.take (m + 1)).map (liftAllN Ms G))).length (ints (nats ((L.take (m + 1)).map (liftAllN Ms G)))) := by
              rw [Hsn.out, nats_snoc, List.length_append]; exact hown7
            have Hown7 := Lib.hid hown8
            have HB7 := Lib.hid hB7
            clear hown7 hown8 hB7
            go_wp2_with fail
            go_roundw
            case rel => exact ⟨m + 1, by omega, by go_num, Hown7.out, HB7.out⟩
            case measure => simp [intOf] <;> omega
        · obtain rfl : m = L.length := by omega
          rw [List.take_length, ← Hq2.out] at Hown
          have hql : (nats (redQ t)).length ≤ 32 := by rw [nats_length, Hq2.out, List.length_map]; exact hfl
          have cS := Lib.hid (sort_own w3.heap.size _ (nats (redQ t)) wr (by omega) Hown.out hWs)
          have hpl : (ptsR t).length = (nats (redQ t)).length := by
            have := congrArg List.length Hs.out
            rw [List.length_mergeSort, nats_length (ptsR t)] at this
            exact this.symm
          go_wp2_with fail
          refine cS.out.mono ?_
          rintro e w5 ⟨rfl, hW5, hown5⟩
          rw [Hs.out, ← hpl, ← nats_length (ptsR t)] at hown5
          obtain ⟨a, cp, rfl, hcp, hI⟩ := intsAt_of_own hown5
          have HI5 := Lib.hid hI
          have ha : 0 < (nats (ptsR t)).length → ∃ g, a = some ⟨g, 0, none⟩ := fun h0 => by
            obtain ⟨g, _, _, h1, _⟩ := hI.at' h0
            exact ⟨g, h1⟩
          have cC := Lib.hid (fun wx => clip_any a (nats (ptsR t)).length cp ha hcp (by rw [nats_length]; omega) wx)
          clear hI ha hown5
          go_wp2_with fail
          refine (cC.out _).mono ?_
          rintro e w' ⟨rfl, rfl⟩
          go_wp2_with fail
          go_ret
          exact ⟨hB3.trans ((hW.trans hW5).mono hB3s), a, (nats (ptsR t)).length, (by rw [← nats_length (ptsR t)]; rfl), HI5.out.mono hB3s⟩
end Go.Proofs.YtkfagolmpbbckaaDoor
