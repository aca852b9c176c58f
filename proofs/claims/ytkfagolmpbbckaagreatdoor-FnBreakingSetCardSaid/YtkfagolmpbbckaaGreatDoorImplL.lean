/- The program's smallest breaking sets. -/
import Derived.Test.YtkfagolmpbbckaaGreatDoorImplK
import Derived.Test.YtkfagolmpbbckaaGreatDoorP2
namespace Go.Proofs.YtkfagolmpbbckaaGreatDoor
open Go Go.RowKit Go.Sw
set_option maxRecDepth 100000
set_option linter.unusedVariables false

theorem ones64_any (x : Nat) (hx : x < 32) (w : World) :
    Calls Tryz.prog 120 #[.int .u64 x] w fun e w' => e = .returned (.int .i64 (onesN x : Nat)) ∧ w = w' := by
  go_enter Tryz.func120, Tryz.ntmps120
  go_wp2_with fail
  go_ret
  refine ⟨ret_int ?_, rfl⟩
  clear w
  revert x
  decide +kernel
theorem ones_any (x : Nat) (hx : x < 32) (w : World) :
    Calls Tryz.prog 73 #[.int .u64 x] w fun e w' => e = .returned (.int .i64 (onesN x : Nat)) ∧ w = w' := by
  have c := Lib.hid (fun wx => ones64_any x hx wx)
  go_enter Tryz.func73, Tryz.ntmps73
  go_wp2_with fail
  refine (c.out _).mono ?_
  rintro e w' ⟨rfl, rfl⟩
  go_wp2_with fail
  go_ret
  exact ⟨rfl, rfl⟩
theorem breaking1_any (N : Net) (way : List Nat) (g c b b2 set : Nat) (sign : ByteArray) (hs : sign.size ≤ 1048576) (hw : setL way < 32) (hset : set < 32) (w : World) (hb : b < w.heap.size) (hc : w.cell? ⟨b, 0, none⟩ = some (.string sign)) (hb2 : b2 < w.heap.size) (hc2 : w.cell? ⟨b2, 0, none⟩ = some (.int .i64 set)) :
    Calls Tryz.prog 74 #[circV N way g c, .pointer (some ⟨b, 0, none⟩), .pointer (some ⟨b2, 0, none⟩)] w fun e w' => Below w.heap.size w w' ∧ e = .returned (.bool (missB N sign set way)) := by
  have c1 := Lib.hid (fun wx => is_any N way g c sign hs wx)
  have hand := i64_and (setL way) set (by omega) (by omega)
  have hz : (((setL way &&& set : Nat) : Int) == 0) = ((setL way &&& set) == 0) := by rw [Bool.eq_iff_iff]; simp
  have hm : missB N sign set way = (isC (circC N way) sign && ((setL way &&& set) == 0)) := rfl
  obtain ⟨r, hr⟩ : ∃ r, ((setL way &&& set) == 0) = r := ⟨_, rfl⟩
  rw [hr] at hz hm
  rw [hm]
  unfold circV at c1 ⊢
  clear hm hr
  cases hi : isC (circC N way) sign <;> rw [hi] at c1
  all_goals
    clear hi
    go_enter Tryz.func74, Tryz.ntmps74
    go_wp2_with fail
    refine (c1.out _).mono ?_
    rintro e w2 ⟨hW2, rfl⟩
    have hB := ((Below.refl w.heap.size w).alloc (Nat.le_refl _) (.cells #[.slice (some ⟨g, 0, none⟩) way.length c, .int .i64 (setL way : Nat), .int .u8 (signT (circC N way)).toNat] 53)).trans (hW2.mono (by simp))
    have e2 : w2.cell? ⟨b2, 0, none⟩ = some (.int .i64 set) := (hB.cell hb2).trans hc2
    have e3 : w2.cell? ⟨w.heap.size, 1, none⟩ = some (.int .i64 (setL way : Nat)) := by
      rw [hW2.cell (by simp), cell_of_row _ _ _ _ _ _ (heap_alloc_new _ _)]; rfl
    go_wp2_with fail
    go_ret
    exact ⟨hB, rfl⟩
set_option maxHeartbeats 1000000 in
theorem breakingSet_impl (t sign : ByteArray) (w : World) (hs : t.size ≤ 1048576) (hs2 : sign.size ≤ 1048576) :
    Calls Tryz.prog 31 #[.string t, .string sign] w fun e w' => Below w.heap.size w w' ∧ e = .returned (.int .i64 (breakI t sign)) := by
  have cR := Lib.hid (fun wx => readNetwork_any t wx hs)
  have hpl := plusB_eq sign
  cases hok0 : netOk t
  · have hr : breakI t sign = -1 := breakI_no (.inl hok0)
    rw [hr]
    have Hok := Lib.hid hok0
    clear hr hok0 hpl
    go_enter Tryz.func31, Tryz.ntmps31
    go_wp2_with fail
    refine (cR.out _).mono ?_
    rintro e w1 ⟨hW1, ⟨hbad, rfl⟩ | ⟨hok, b, cap, rfl, hb1, hb2, hat⟩⟩
    · clear hbad
      go_wp2_with fail
      go_ret
      exact ⟨((Below.refl _ _).alloc (Nat.le_refl _) _).trans (hW1.mono (by simp)), rfl⟩
    · rw [Hok.out] at hok; cases hok
  · have hn := netOf_ok hok0
    have hr : breakI t sign = if plusB sign then ((bestTo (netOf t) sign (pw (netOf t).n) : Nat) : Int) else -1 := by rw [breakI, hok0]; rfl
    obtain ⟨N, hN⟩ : ∃ N, netOf t = N := ⟨_, rfl⟩
    rw [hN] at hr hn cR
    have Hok := Lib.hid hok0
    cases hp : plusB sign
    · rw [hp] at hr hpl
      rw [hr]
      have hpl2 := hpl.symm
      rw [Bool.or_eq_false_iff] at hpl2
      obtain ⟨h43, h45⟩ := hpl2
      clear hr hok0 hpl hp hN
      go_enter Tryz.func31, Tryz.ntmps31
      go_wp2_with fail
      refine (cR.out _).mono ?_
      rintro e w1 ⟨hW1, ⟨hbad, rfl⟩ | ⟨hok, b, cap, rfl, hb1, hb2, hat⟩⟩
      · rw [Hok.out] at hbad; cases hbad
      · have hB := ((Below.refl w.heap.size w).alloc (Nat.le_refl _) (.cells #[.string sign] 9)).trans (hW1.mono (by simp))
        have hcell : w1.cell? ⟨w.heap.size, 0, none⟩ = some (.string sign) := by
          rw [hW1.cell (by simp)]; exact cell_new rfl
        clear hat hok
        go_wp2_with fail
        go_ret
        exact ⟨hB, rfl⟩
    · rw [hp, if_pos rfl] at hr
      rw [hp] at hpl
      have h4 : (sign.toList == [43]) = true ∨ ((sign.toList == [43]) = false ∧ (sign.toList == [45]) = true) := by
        cases h1 : (sign.toList == [43])
        · exact .inr ⟨rfl, by rw [h1, Bool.false_or] at hpl; exact hpl.symm⟩
        · exact .inl rfl
      rw [hr]
      clear hr hok0 hpl hp hN
      have hpw := pw_le hn.2
      rcases h4 with h43 | ⟨h43, h45⟩
      all_goals
        go_enter Tryz.func31, Tryz.ntmps31
        go_wp2_with fail
        refine (cR.out _).mono ?_
        rintro e w1 ⟨hW1, ⟨hbad, rfl⟩ | ⟨hok, b, cap, rfl, hb1, hb2, hat⟩⟩
        case inl => rw [Hok.out] at hbad; cases hbad
        have hB := ((Below.refl w.heap.size w).alloc (Nat.le_refl _) (.cells #[.string sign] 9)).trans (hW1.mono (by simp))
        have hcell : w1.cell? ⟨w.heap.size, 0, none⟩ = some (.string sign) := by
          rw [hW1.cell (by simp)]; exact cell_new rfl
        have Hcell := Lib.hid hcell
        have cC := Lib.hid (circuits_any b cap N hn.2 w1 hat hb2)
        clear hat hok
        have hlt : w.heap.size < w1.heap.size := by have := hW1.size; simp at this; omega
        go_wp2_with fail
        refine cC.out.mono ?_
        rintro e w2 ⟨hW2, v, rfl, hC⟩
        have hs12 := hW2.size
        have HC := Lib.hid hC
        have hB2 := hB.trans (hW2.mono hB.size)
        have hcell2 : w2.cell? ⟨w.heap.size, 0, none⟩ = some (.string sign) := by rw [hW2.cell (by show w.heap.size < w1.heap.size; omega)]; exact hcell
        have Hcell2 := Lib.hid hcell2
        clear hC hcell hcell2
        go_wp2_with (go_at_call 51; refine (states_any _ _ _ hn.2 _).mono ?_; rintro e w' ⟨rfl, rfl⟩)
        go_loopw [8, 9, 32] (fun best _ i wr => ∃ k : Nat, k ≤ pw N.n ∧ i = .int .i64 k ∧ best = .int .i64 ((bestTo N sign k : Nat) : Int) ∧ Below w2.heap.size w2 wr) (fun _ _ i _ => pw N.n - (intOf i).toNat)
        case atStart => exact ⟨0, Nat.zero_le _, rfl, by
          show _ = Value.int .i64 ((pw N.n - 1 : Nat) : Int)
          rw [Int.natCast_sub hpw.1]; rfl, Below.refl _ _⟩
        case round =>
          obtain ⟨k, hk, rfl, rfl, hW⟩ := hrel
          by_cases hltk : k < pw N.n
          · have hbl := bestTo_lt N sign k hk
            have hWs := hW.size
            have hsuc : bestTo N sign (k + 1) = if decide (onesN (bestTo N sign k) ≤ onesN k) || !brB N sign k then bestTo N sign k else k := rfl
            obtain ⟨be, hbe⟩ : ∃ be, bestTo N sign k = be := ⟨_, rfl⟩
            rw [hbe] at hbl hsuc ⊢
            have cO1 := Lib.hid (fun wx => ones_any k (by omega) wx)
            have cO2 := Lib.hid (fun wx => ones_any be (by omega) wx)
            have hB3 : Below w2.heap.size w2 (wr.alloc (.cells #[.int .i64 k] 3)) := hW.alloc hWs _
            have hcs : (wr.alloc (.cells #[.int .i64 k] 3)).cell? ⟨w.heap.size, 0, none⟩ = some (.string sign) := by
              rw [hB3.cell (by show w.heap.size < w2.heap.size; omega)]; exact Hcell2.out
            have hck : (wr.alloc (.cells #[.int .i64 k] 3)).cell? ⟨wr.heap.size, 0, none⟩ = some (.int .i64 k) := cell_new rfl
            have hCx := HC.out.below hB3
            have c5 := Lib.hid (containsC_any N (circL N) v 74 #[.pointer (some ⟨w.heap.size, 0, none⟩), .pointer (some ⟨wr.heap.size, 0, none⟩)] (missB N sign k) (wr.alloc (.cells #[.int .i64 k] 3)) hCx (Nat.le_trans (circL_length hn.2) (by omega)) (enters_fn Tryz.func74 (by kernel_rfl) rfl) (fun way g c wx hm hx =>
              breaking1_any N way g c w.heap.size wr.heap.size k sign hs2 (by
                have := setL_lt (l := way) (n := N.n) fun j hj => ((circ_sound hm).1.2.2 j hj).1
                omega) (by omega) wx (by have := hx.size; simp at this; omega) (by rw [hx.cell (by simp; omega)]; exact hcs) (by have := hx.size; simp at this; omega) (by rw [hx.cell (by simp)]; exact hck)))
            have Hsuc := Lib.hid hsuc
            clear hsuc hbe hCx hcs
            by_cases hon : onesN be ≤ onesN k
            · have Hnx := Lib.hid (show bestTo N sign (k + 1) = be by rw [Hsuc.out, decide_eq_true hon, Bool.true_or, if_pos rfl])
              have hon2 : ((onesN be : Nat) : Int) ≤ ((onesN k : Nat) : Int) := by omega
              clear hon
              obtain ⟨o1, ho1⟩ : ∃ o1, onesN k = o1 := ⟨_, rfl⟩
              obtain ⟨o2, ho2⟩ : ∃ o2, onesN be = o2 := ⟨_, rfl⟩
              rw [ho1] at cO1 hon2
              rw [ho2] at cO2 hon2
              clear ho1 ho2
              go_wp2_with fail
              refine (cO1.out _).mono ?_
              rintro e w3 ⟨rfl, rfl⟩
              go_wp2_with fail
              refine (cO2.out _).mono ?_
              rintro e w3 ⟨rfl, rfl⟩
              go_wp2_with fail
              go_roundw
              case rel => exact ⟨k + 1, by omega, by go_num, by rw [Hnx.out], hB3⟩
              case measure => simp [intOf] <;> omega
            · have hon2 : ¬ ((onesN be : Nat) : Int) ≤ ((onesN k : Nat) : Int) := by omega
              have hbr : brB N sign k = !(circL N).any (missB N sign k) := rfl
              have hnx : bestTo N sign (k + 1) = if (circL N).any (missB N sign k) then be else k := by
                rw [Hsuc.out, decide_eq_false hon, Bool.false_or, hbr, Bool.not_not]
              clear hon hbr Hsuc
              obtain ⟨o1, ho1⟩ : ∃ o1, onesN k = o1 := ⟨_, rfl⟩
              obtain ⟨o2, ho2⟩ : ∃ o2, onesN be = o2 := ⟨_, rfl⟩
              rw [ho1] at cO1 hon2
              rw [ho2] at cO2 hon2
              clear ho1 ho2
              obtain ⟨an, han⟩ : ∃ an, (circL N).any (missB N sign k) = an := ⟨_, rfl⟩
              rw [han] at hnx c5
              clear han
              cases an
              · have Hnx := Lib.hid (show bestTo N sign (k + 1) = k from hnx)
                clear hnx
                go_wp2_with fail
                refine (cO1.out _).mono ?_
                rintro e w3 ⟨rfl, rfl⟩
                go_wp2_with fail
                refine (cO2.out _).mono ?_
                rintro e w3 ⟨rfl, rfl⟩
                go_wp2_with fail
                refine c5.out.mono ?_
                rintro e w4 ⟨hW4, rfl⟩
                have hck4 : w4.cell? ⟨wr.heap.size, 0, none⟩ = some (.int .i64 k) := by rw [hW4.cell (by simp)]; exact hck
                have hB4 := hB3.trans (hW4.mono hB3.size)
                go_wp2_with fail
                go_roundw
                case rel => exact ⟨k + 1, by omega, by go_num, by rw [Hnx.out], hB4⟩
                case measure => simp [intOf] <;> omega
              · have Hnx := Lib.hid (show bestTo N sign (k + 1) = be from hnx)
                clear hnx
                go_wp2_with fail
                refine (cO1.out _).mono ?_
                rintro e w3 ⟨rfl, rfl⟩
                go_wp2_with fail
                refine (cO2.out _).mono ?_
                rintro e w3 ⟨rfl, rfl⟩
                go_wp2_with fail
                refine c5.out.mono ?_
                rintro e w4 ⟨hW4, rfl⟩
                have hB4 := hB3.trans (hW4.mono hB3.size)
                go_wp2_with fail
                go_roundw
                case rel => exact ⟨k + 1, by omega, by go_num, by rw [Hnx.out], hB4⟩
                case measure => simp [intOf] <;> omega
          · obtain rfl : k = pw N.n := by omega
            go_wp2_with fail
            go_ret
            exact ⟨hB2.trans (hW.mono hB2.size), rfl⟩
end Go.Proofs.YtkfagolmpbbckaaGreatDoor
