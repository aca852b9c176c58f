/- The reference's points by reducing. -/
import Derived.Test.YtkfagolmpbbckaaDoorPr
import Derived.Test.YtkfagolmpbbckaaDoorSpecS
import Derived.Test.YtkfagolmpbbckaaDoorSp
import Derived.Test.YtkfagolmpbbckaaDoorDk
namespace Go.Proofs.YtkfagolmpbbckaaDoor
open Go Go.RowKit Go.Sw
set_option maxRecDepth 100000
set_option linter.unusedVariables false
theorem natsR_length (t : ByteArray) : (nats (ptsR t)).length ≤ 32 := by
  rw [nats_length]
  unfold ptsR
  split
  · exact pickL_length _ _
  · simp
theorem bool_rowR : (Tryd.prog.info? 4).map (fun i => (i.zero, i.size, i.bytes)) = some (some (.bool false), 1, 1) := by kernel_rfl
theorem BoolsAt.madeR {w : World} {base b n : Nat} {e : TypeId} (h : w.ownsRow base e 1 (.slice (some ⟨b, 0, none⟩) n n) n (madeCells #[.bool false] n).toList) (hn : 0 < n) : BoolsAt w b n fun _ => false := by
  rcases h.2 with ⟨h0, hz⟩ | ⟨g, cap, cur, h0, hb, hg, h1, h2, h3, h4⟩
  · omega
  · injection h0 with e1 e2 e3
    injection e1 with e1
    injection e1 with e1 _ _
    subst e1 e3
    refine ⟨cur, _, hg, by rw [h3, Nat.mul_one], fun j hj => ?_⟩
    have e4 : cur.toList[j]? = ((madeCells #[.bool false] n).toList)[j]? := by
      rw [← h4, List.getElem?_take, if_pos (by omega)]
    rw [← Array.getElem?_toList, e4]
    rw [Array.getElem?_toList]
    simp [madeCells, hj, Nat.mod_one]
theorem BoolsAt.frozenR {w : World} {b n j : Nat} {S : Nat → Bool} (h : BoolsAt w b n S) : w.frozen? ⟨b, j, none⟩ = false := by
  obtain ⟨cur, t, h1, _⟩ := h.at'
  exact frozen_of_row w _ _ _ _ h1
theorem BoolsAt.putR {w : World} {b n j : Nat} {S : Nat → Bool} (h : BoolsAt w b n S) (hj : j < n) : BoolsAt (w.setCell ⟨b, j, none⟩ (.bool true)) b n (fun i => i == j || S i) := by
  obtain ⟨cur, t, h1, h2, h3⟩ := h.at'
  refine ⟨cur.setIfInBounds j (.bool true), t, heap_setCell_same _ _ _ _ _ _ h1, by simpa using h2, fun i hi => ?_⟩
  by_cases e : i = j
  · subst e; rw [Array.getElem?_setIfInBounds_self_of_lt (by omega)]; simp
  · rw [Array.getElem?_setIfInBounds_ne (fun h => e h.symm), h3 i hi]
    have : (i == j) = false := by simp [e]
    rw [this, Bool.false_or]
set_option maxHeartbeats 2000000 in
theorem byRed_spec (t : ByteArray) (w : World) (hs : t.size ≤ 1048576) :
    Calls Tryd.prog 53 #[.string t] w fun e w' => Below w.heap.size w w' ∧ ∃ a cap, e = .returned (.slice a (ptsR t).length cap) ∧ IntsAt w' w.heap.size a (nats (ptsR t)) := by
  have cR := Lib.hid (reduceNetwork_spec t w hs)
  have hz : (redT t).size ≤ 1048576 := by
    cases h : netOk t
    · rw [redT, h]; exact (by decide : ByteArray.empty.size ≤ 1048576)
    · have hn := netOf_ok h
      have h1 := redN_pos (netOf t).n (netOf t) hn.1
      have h2 := netText_size (N := redN (netOf t).n (netOf t)) (Nat.le_trans h1.2 hn.2)
      rw [redT, h, if_pos rfl]; omega
  have cF := Lib.hid (fun wx => fixedPoints_spec (redT t) wx hz)
  have cL := Lib.hid (fun (x : Int) wx => liftPoint_spec t x wx hs)
  have hno := Lib.hid (fun h : netOk t = false => pointsR_no h)
  have hlf := Lib.hid (fun h : netOk t = true => pointsR_lift h)
  have hq := Lib.hid (show redQ t = (pointsL (redT t)).map (redP (netOf t).n (netOf t)) from rfl)
  have hres := Lib.hid (show ptsR t = pickL (fun s => (redQ t).contains s) 32 by
    cases h : netOk t
    · have hq0 : redQ t = [] := by rw [redQ, pointsR_no h]; rfl
      rw [ptsR, h, hq0]; rfl
    · rw [ptsR, h]; rfl)
  obtain ⟨i0, hi, hz0, hz1, hz2⟩ := info_parts bool_rowR
  have Hi := Lib.hid hi
  have Hz0 := Lib.hid hz0
  have Hz1 := Lib.hid hz1
  have hzb : i0.bytes ≤ 1 := by omega
  clear hi hz0 hz1 hz2
  obtain ⟨rt, hrt⟩ : ∃ x, redT t = x := ⟨_, rfl⟩
  rw [hrt] at cF hno hlf hq cR hz
  have hpl : (pointsL rt).length ≤ 32 := by
    unfold pointsL
    cases h : netOk rt
    · simp
    · exact Nat.le_trans (pickL_length _ _) (pw_le (netOf_ok h).2).2
  obtain ⟨L, hL⟩ : ∃ L, pointsL rt = L := ⟨_, rfl⟩
  rw [hL] at cF hno hlf hq hpl
  obtain ⟨ok, hok⟩ : ∃ b, netOk t = b := ⟨_, rfl⟩
  rw [hok] at cR hno hlf
  clear hrt hL hok
  go_enter Tryd.func53, Tryd.ntmps53
  go_wp2_with fail
  refine cR.out.mono ?_
  rintro e w1 ⟨hW1, aG, cG, rfl, hIG⟩
  clear hIG
  have hW1s := hW1.size
  go_wp2_with (((with_reducible show wpList _ _ _ (⟨_, .makeSlice 95 _ _, _, _, _, _⟩ :: _) _ _); refine wpList_make_full _ rfl _ _ _ rfl w1.heap.size 4 i0 (.bool false) 1 Tryd.underlying95 Hi.out Hz0.out Hz1.out .i64 .i64 32 32 32 rfl rfl rfl rfl (by omega) (by unfold maxLen; omega) (Nat.le_refl _) ?_))
  intro w2 hown hgrow
  have hW2 : Below w1.heap.size w1 w2 := (Below.refl _ _).grown hgrow (Nat.le_refl _) (fun q hq => by cases hq)
  have HB := Lib.hid (BoolsAt.madeR (n := 32) hown (by omega))
  have hlt2 := HB.out.lt
  clear hown hgrow
  go_wp2_with fail
  refine (cF.out _).mono ?_
  rintro e w3 ⟨hW3, aF, cF', rfl, hI⟩
  have HI := Lib.hid hI
  have hW3s := hW3.size
  have hW2s := hW2.size
  have HB3 := Lib.hid (HB.out.below hW3)
  have hB3 : Below w.heap.size w w3 := (hW1.trans (hW2.mono hW1s)).trans (hW3.mono (by omega))
  clear hI
  obtain ⟨rd, hrd⟩ : ∃ f, redP (netOf t).n (netOf t) = f := ⟨_, rfl⟩
  rw [hrd] at hlf hq
  clear hrd
  rw [hq.out] at hres
  go_wp2_with fail
  go_loopw [8] (fun i wr => ∃ k : Nat, k ≤ L.length ∧ i = .int .i64 k ∧ BoolsAt wr w1.heap.size 32 (fun s => ((L.take k).map rd).contains s) ∧ IntsAt wr w2.heap.size aF (nats L) ∧ Below w.heap.size w wr) (fun i _ => L.length - (intOf i).toNat)
  case atStart => exact ⟨0, Nat.zero_le _, rfl, HB3.out, HI.out, hB3⟩
  case round =>
    obtain ⟨k, hk, rfl, hS, hI, hW⟩ := hrel
    have hWs := hW.size
    have HS := Lib.hid hS
    have hlS := hS.lt
    by_cases hlt : k < L.length
    · obtain rfl : ok = true := by
        cases ok
        · have := hno.out rfl; rw [this] at hlt; exact absurd hlt (Nat.not_lt_zero _)
        · rfl
      obtain ⟨g, cur, tt, rfl, hBg, hcur, hcs, hcells⟩ := hI.at' (by rw [nats_length]; omega)
      have HI2 := Lib.hid hI
      have hgl := block_lt hcur
      have hcl : wr.cell? ⟨g, k, none⟩ = some (.int .i64 ((L[k] : Nat) : Int)) := by
        rw [cell_of_row wr _ _ _ _ _ hcur, hcells k (by rw [nats_length]; exact hlt)]; simp [nats]
      obtain ⟨e1, e2⟩ := hlf.out rfl L[k] (List.getElem_mem hlt)
      have hsn : (L.take (k + 1)).map rd = (L.take k).map rd ++ [rd L[k]] := by
        rw [List.take_succ_eq_append_getElem hlt, List.map_append]; rfl
      obtain ⟨x, hx⟩ : ∃ x, L[k] = x := ⟨_, rfl⟩
      rw [hx] at hcl e1 e2 hsn
      have C5 := cL.out (x : Int) wr
      rw [e1] at C5
      obtain ⟨y, hy⟩ : ∃ y, rd x = y := ⟨_, rfl⟩
      rw [hy] at C5 e2 hsn
      have HC5 := Lib.hid C5
      obtain ⟨Q, hQ⟩ : ∃ P, (L.take k).map rd = P := ⟨_, rfl⟩
      rw [hQ] at HS hsn
      have hset : (fun i => i == y || Q.contains i) = fun s => ((L.take (k + 1)).map rd).contains s := by
        funext i
        rw [hsn, List.contains_append]
        by_cases e : i = y <;> simp [e]
      have Hset := Lib.hid hset
      have hki : (k : Int) < (L.length : Int) := by omega
      clear hcells hcur hx hy hQ hsn e1 hset hI hS C5
      go_wp2_with fail
      refine HC5.out.mono ?_
      rintro e w5 ⟨hW5, rfl⟩
      have hS5 := HS.out.below hW5
      have hcell5 := hS5.cell e2
      have hfr5 := hS5.frozenR (j := y)
      have HS5 := Lib.hid (hS5.putR e2)
      have hI5 : IntsAt (w5.setCell ⟨w1.heap.size, y, none⟩ (.bool true)) w2.heap.size (some ⟨g, 0, none⟩) (nats L) := ⟨fun h0 => by
        obtain ⟨g', cur', t', h1, h2, h3, h4⟩ := (HI2.out.below hW5).at' h0
        cases h1
        exact ⟨g, cur', t', rfl, h2, (Below.heap_setCell _ _ _ _ (by show g ≠ w1.heap.size; omega)).trans h3, h4⟩⟩
      have HI5 := Lib.hid hI5
      have HB5 := Lib.hid ((hW.trans (hW5.mono hWs)).setCell (p := ⟨w1.heap.size, y, none⟩) (by show w.heap.size ≤ w1.heap.size; exact hW1s) (.bool true))
      have y1 : (y : Int) < 32 := by omega
      have y2 : (0 : Int) ≤ (y : Int) := by omega
      clear hS5 hI5
      go_wp2_with fail
      go_roundw
      case rel => exact ⟨k + 1, by omega, by go_num, by rw [← Hset.out]; exact HS5.out, HI5.out, HB5.out⟩
      case measure => simp [intOf] <;> omega
    · obtain rfl : k = L.length := by omega
      rw [List.take_length] at HS
      have cS := Lib.hid (l5Sorted_any w1.heap.size 32 32 _ (by omega) wr HS.out)
      rw [← hres.out] at cS
      clear hS hI
      go_wp2_with fail
      refine cS.out.mono ?_
      rintro e w5 ⟨hW5, a, cp, rfl, hI⟩
      have HI5 := Lib.hid hI
      clear hI
      go_wp2_with fail
      go_ret
      exact ⟨hW.trans (hW5.mono hWs), a, cp, rfl, HI5.out.mono hWs⟩
end Go.Proofs.YtkfagolmpbbckaaDoor
