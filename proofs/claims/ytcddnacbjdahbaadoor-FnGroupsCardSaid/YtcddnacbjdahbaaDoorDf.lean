/- The reference's draws of networks in which few switches act on each one. -/
import Derived.Test.YtcddnacbjdahbaaDoorDd
import Derived.Test.YtcddnacbjdahbaaDoorDe
import Derived.Test.YtcddnacbjdahbaaDoorSpec9
namespace Go.Proofs.YtcddnacbjdahbaaDoor
open Go Go.RowKit Go.Sw
set_option maxRecDepth 100000
set_option linter.unusedVariables false

theorem L3D.below {w wr w4 : World} {r m n k : Nat} {out : Value} {F : Nat → Nat → Bool} (h : L3D w wr r m n k out F) (hr : r < w.heap.size) (hb : Below wr.heap.size wr w4) : L3D w w4 r m n k out F :=
  h.step hr ((Drw.refl _ _).below hb (Nat.le_refl _)) (h.rd.below hb h.rd.lt)
set_option maxHeartbeats 4000000 in
theorem l7Chain_any (r m : Nat) (hm : m ≤ 700000) (w : World) (h : Rd w r m) :
    Calls Tryd.prog 164 #[.pointer (some ⟨r, 0, none⟩)] w fun e w' => TxAt w w' r (m + 300) 400 e ∧ ∃ t : ByteArray, e = .returned (.string t) ∧ 1 ≤ t.size := by
  have H := Lib.hid h
  have C := Lib.hid (fun (wx : World) (m' k : Nat) (hx : Rd wx r m') (h1 : m' ≤ 1000000) (h2 : k ≤ 2000000) => pick_any r m' k h1 h2 wx hx)
  clear h
  go_enter Tryd.func164, Tryd.ntmps164
  go_wp2_with ((with_reducible show wpList _ _ _ (⟨_, .buildSlice 30 5 _, _, _, _, _⟩ :: _) _ _); refine wpList_buildSlice' rfl _ _ _ rfl rfl (ints_built5 _ _ _ _ _ _) ?_)
  refine (num5_any (fun v => 1 ≤ v ∧ v ≤ 5) r m _ _ _ _ _ (by omega) w H.out (by decide) (by decide) (by decide) (by decide) (by decide)).mono ?_
  rintro e w1 ⟨hD1, hR1, v, hv, rfl⟩
  obtain ⟨n, rfl⟩ : ∃ k : Nat, v = (k : Int) := ⟨v.toNat, by omega⟩
  have h1 : 1 ≤ n := by omega
  have hn : n ≤ 5 := by omega
  have hD1' := Lib.hid hD1
  have hR1' := Lib.hid hR1
  have hrw := hR1.lt
  have cI := Lib.hid (fun (i : Nat) (hi : i < n) (wx : World) => inputTable_any n i h1 hn hi wx)
  have cN := Lib.hid (fun (f : Nat → Bool) (wx : World) => l1Not_any n f hn wx)
  have cA := Lib.hid (fun (f g : Nat → Bool) (wx : World) => andTables_any n f g h1 hn wx)
  have cL := Lib.hid (fun (wx : World) (m' : Nat) (hx : Rd wx r m') (h2 : m' ≤ 900000) => l1Draw_any r m' n h1 hn h2 wx hx)
  have hn0 : ((n : Int) == 0) = false := by rw [beq_eq_false_iff_ne]; omega
  clear hv hD1 hR1
  go_wp2_with ((with_reducible show wpList _ _ _ (⟨_, .buildSlice 26 0 _, _, _, _, _⟩ :: _) _ _); refine wpList_buildSlice' rfl _ _ _ rfl rfl (str_none _) ?_)
  go_loopw [4, 5, 6, 7, 8, 36, 41] (fun out s _ _ _ _ _ wr => ∃ (k : Nat) (F : Nat → Nat → Bool), k ≤ n ∧ s = .int .i64 k ∧ L3D w1 wr r (m + 1 + 50 * k) n k out F) (fun _ s _ _ _ _ _ _ => n - (intOf s).toNat)
  case atStart => exact ⟨0, fun _ _ => false, Nat.zero_le _, rfl, World.ownsRow_made w1 #[] 0 (Nat.le_refl _) (by unfold maxLen; omega) rfl, (Drw.refl _ _).below ((Below.refl _ _).alloc (Nat.le_refl _) _) (Nat.le_refl _), hR1'.out.alloc _⟩
  case round =>
    obtain ⟨k, F, hk, rfl, hL⟩ := hrel
    have HL := Lib.hid hL
    have hws := hL.drw.size
    clear hL
    have hbl : (tabsL n k F).length ≤ 5 := by rw [tabsL_length]; omega
    by_cases hlt : k < n
    · have em : ((k : Int) + 1).tmod (n : Int) = (((k + 1) % n : Nat) : Int) := by
        rw [show ((k : Int) + 1) = ((k + 1 : Nat) : Int) by omega]; exact (Int.ofNat_tmod _ n).symm
      have hj0 : (k + 1) % n < n := Nat.mod_lt _ (by omega)
      obtain ⟨j0, hj⟩ : ∃ j, (k + 1) % n = j := ⟨_, rfl⟩
      rw [hj] at em hj0
      clear hj
      go_wp2_with fail
      refine (C.out wr _ 3 HL.out.rd (by omega) (by omega)).mono ?_
      rintro e w2 ⟨hD2, hR2, c3, rfl, _, _⟩
      have HL2 := Lib.hid (HL.out.step hrw hD2 hR2)
      have hws2 := HL2.out.drw.size
      clear hD2 hR2 HL
      by_cases h3 : c3 = 0
      · have e3 : ((c3 : Int) == 0) = true := by rw [beq_iff_eq]; omega
        clear h3
        go_wp2_with fail
        refine (C.out w2 _ n HL2.out.rd (by omega) (by omega)).mono ?_
        rintro e w3 ⟨hD3, hR3, j, rfl, _, hjn⟩
        have hjn := hjn (by omega)
        have HL3 := Lib.hid ((HL2.out.step hrw hD3 hR3))
        have hws3 := HL3.out.drw.size
        clear hD3 hR3 HL2 em
        go_wp2_with fail
        refine (cI.out j hjn w3).mono ?_
        rintro e w4 ⟨hW4, rfl⟩
        have HL4 := Lib.hid (L3D.below HL3.out hrw hW4)
        have hws4 := HL4.out.drw.size
        obtain ⟨f0, hf0⟩ : ∃ f, (fun s : Nat => s.testBit j) = f := ⟨_, rfl⟩
        rw [hf0]
        clear hW4 HL3 hf0
        go_wp2_with fail
        refine (C.out w4 _ 5 HL4.out.rd (by omega) (by omega)).mono ?_
        rintro e w5 ⟨hD5, hR5, c5, rfl, _, _⟩
        have HL5 := Lib.hid (HL4.out.step hrw hD5 hR5)
        have hws5 := HL5.out.drw.size
        clear hD5 hR5 HL4
        by_cases q0 : c5 = 0
        · have e0 : ((c5 : Int) == 0) = true := by rw [beq_iff_eq]; omega
          clear q0
          go_wp2_with fail
          refine (cN.out f0 w5).mono ?_
          rintro e w6 ⟨hW6, rfl⟩
          have HL6 := Lib.hid (L3D.below HL5.out hrw hW6)
          have hws6 := HL6.out.drw.size
          clear hW6 HL5
          obtain ⟨tt, htt⟩ : ∃ t, tabText n (fun s => !f0 s) = t := ⟨_, rfl⟩
          have Hput := Lib.hid (tabsL_put n k F (fun s => !f0 s))
          rw [htt] at Hput ⊢
          clear htt
          go_wp2_with (first | ((with_reducible show wpList _ _ _ (⟨_, .buildSlice 26 1 _, _, _, _, _⟩ :: _) _ _); refine wpList_buildSlice' rfl _ _ _ rfl rfl (str_one _ _) ?_) | (at_builtin; refine wpList_text_appendK rfl _ _ rfl w1.heap.size _ (tabsL n k F) rfl ((HL6.out.own.alloc _)) _ _ rfl (cell_new ?_) (by omega) ((Below.refl w1.heap.size w6).alloc (by omega) _) ?_ ?_ ?_))
          · first | rfl | simp
          · exact Nat.le_refl _
          · first | omega | (simp; omega)
          · intro v' w8 hown8 hB8 _
            have Hf := Lib.hid (show L3D w1 w8 r (m + 1 + 50 * (k + 1)) n (k + 1) v' (fun i => if i = k then (fun s => !f0 s) else F i) from
              ⟨by rw [Hput.out, List.length_append]; exact hown8, HL6.out.drw.below hB8 (Nat.le_refl _), (HL6.out.rd.below hB8 hrw).more (by omega)⟩)
            clear hown8 hB8
            go_wp2_with fail
            go_roundw
            case rel => exact ⟨k + 1, _, by omega, by go_num, Hf.out⟩
            case measure => simp [intOf] <;> omega
        · have e0 : ((c5 : Int) == 0) = false := by rw [beq_eq_false_iff_ne]; omega
          by_cases q1 : c5 = 1
          · have e1 : ((c5 : Int) == 1) = true := by rw [beq_iff_eq]; omega
            clear q0 q1
            go_wp2_with fail
            refine (cN.out f0 w5).mono ?_
            rintro e w6 ⟨hW6, rfl⟩
            have HL6 := Lib.hid (L3D.below HL5.out hrw hW6)
            have hws6 := HL6.out.drw.size
            clear hW6 HL5
            obtain ⟨tt, htt⟩ : ∃ t, tabText n (fun s => !f0 s) = t := ⟨_, rfl⟩
            have Hput := Lib.hid (tabsL_put n k F (fun s => !f0 s))
            rw [htt] at Hput ⊢
            clear htt
            go_wp2_with (first | ((with_reducible show wpList _ _ _ (⟨_, .buildSlice 26 1 _, _, _, _, _⟩ :: _) _ _); refine wpList_buildSlice' rfl _ _ _ rfl rfl (str_one _ _) ?_) | (at_builtin; refine wpList_text_appendK rfl _ _ rfl w1.heap.size _ (tabsL n k F) rfl ((HL6.out.own.alloc _)) _ _ rfl (cell_new ?_) (by omega) ((Below.refl w1.heap.size w6).alloc (by omega) _) ?_ ?_ ?_))
            · first | rfl | simp
            · exact Nat.le_refl _
            · first | omega | (simp; omega)
            · intro v' w8 hown8 hB8 _
              have Hf := Lib.hid (show L3D w1 w8 r (m + 1 + 50 * (k + 1)) n (k + 1) v' (fun i => if i = k then (fun s => !f0 s) else F i) from
                ⟨by rw [Hput.out, List.length_append]; exact hown8, HL6.out.drw.below hB8 (Nat.le_refl _), (HL6.out.rd.below hB8 hrw).more (by omega)⟩)
              clear hown8 hB8
              go_wp2_with fail
              go_roundw
              case rel => exact ⟨k + 1, _, by omega, by go_num, Hf.out⟩
              case measure => simp [intOf] <;> omega
          · have e1 : ((c5 : Int) == 1) = false := by rw [beq_eq_false_iff_ne]; omega
            by_cases q2 : c5 = 2
            · have e2 : ((c5 : Int) == 2) = true := by rw [beq_iff_eq]; omega
              clear q0 q1 q2
              go_wp2_with fail
              refine (cL.out w5 _ HL5.out.rd (by omega)).mono ?_
              rintro e w6 ⟨hD6, hR6, g, rfl⟩
              have HL6 := Lib.hid (HL5.out.step hrw hD6 hR6)
              clear hD6 hR6 HL5
              go_wp2_with fail
              refine (cA.out f0 g w6).mono ?_
              rintro e w7 ⟨hW7, rfl⟩
              have HL7 := Lib.hid (L3D.below HL6.out hrw hW7)
              have hws7 := HL7.out.drw.size
              clear hW7 HL6
              obtain ⟨tt, htt⟩ : ∃ t, tabText n (andF f0 g) = t := ⟨_, rfl⟩
              have Hput := Lib.hid (tabsL_put n k F (andF f0 g))
              rw [htt] at Hput ⊢
              clear htt
              go_wp2_with (first | ((with_reducible show wpList _ _ _ (⟨_, .buildSlice 26 1 _, _, _, _, _⟩ :: _) _ _); refine wpList_buildSlice' rfl _ _ _ rfl rfl (str_one _ _) ?_) | (at_builtin; refine wpList_text_appendK rfl _ _ rfl w1.heap.size _ (tabsL n k F) rfl ((HL7.out.own.alloc _)) _ _ rfl (cell_new ?_) (by omega) ((Below.refl w1.heap.size w7).alloc (by omega) _) ?_ ?_ ?_))
              · first | rfl | simp
              · exact Nat.le_refl _
              · first | omega | (simp; omega)
              · intro v' w8 hown8 hB8 _
                have Hf := Lib.hid (show L3D w1 w8 r (m + 1 + 50 * (k + 1)) n (k + 1) v' (fun i => if i = k then (andF f0 g) else F i) from
                  ⟨by rw [Hput.out, List.length_append]; exact hown8, HL7.out.drw.below hB8 (Nat.le_refl _), (HL7.out.rd.below hB8 hrw).more (by omega)⟩)
                clear hown8 hB8
                go_wp2_with fail
                go_roundw
                case rel => exact ⟨k + 1, _, by omega, by go_num, Hf.out⟩
                case measure => simp [intOf] <;> omega
            · have e2 : ((c5 : Int) == 2) = false := by rw [beq_eq_false_iff_ne]; omega
              clear q0 q1 q2
              obtain ⟨tt, htt⟩ : ∃ t, tabText n (f0) = t := ⟨_, rfl⟩
              have Hput := Lib.hid (tabsL_put n k F (f0))
              rw [htt] at Hput ⊢
              clear htt
              go_wp2_with (first | ((with_reducible show wpList _ _ _ (⟨_, .buildSlice 26 1 _, _, _, _, _⟩ :: _) _ _); refine wpList_buildSlice' rfl _ _ _ rfl rfl (str_one _ _) ?_) | (at_builtin; refine wpList_text_appendK rfl _ _ rfl w1.heap.size _ (tabsL n k F) rfl ((HL5.out.own.alloc _)) _ _ rfl (cell_new ?_) (by omega) ((Below.refl w1.heap.size w5).alloc (by omega) _) ?_ ?_ ?_))
              · first | rfl | simp
              · exact Nat.le_refl _
              · first | omega | (simp; omega)
              · intro v' w8 hown8 hB8 _
                have Hf := Lib.hid (show L3D w1 w8 r (m + 1 + 50 * (k + 1)) n (k + 1) v' (fun i => if i = k then (f0) else F i) from
                  ⟨by rw [Hput.out, List.length_append]; exact hown8, HL5.out.drw.below hB8 (Nat.le_refl _), (HL5.out.rd.below hB8 hrw).more (by omega)⟩)
                clear hown8 hB8
                go_wp2_with fail
                go_roundw
                case rel => exact ⟨k + 1, _, by omega, by go_num, Hf.out⟩
                case measure => simp [intOf] <;> omega
      · have e3 : ((c3 : Int) == 0) = false := by rw [beq_eq_false_iff_ne]; omega
        clear h3
        go_wp2_with fail
        refine (cI.out j0 hj0 w2).mono ?_
        rintro e w4 ⟨hW4, rfl⟩
        have HL4 := Lib.hid (L3D.below HL2.out hrw hW4)
        have hws4 := HL4.out.drw.size
        obtain ⟨f0, hf0⟩ : ∃ f, (fun s : Nat => s.testBit j0) = f := ⟨_, rfl⟩
        rw [hf0]
        clear hW4 HL2 hf0
        go_wp2_with fail
        refine (C.out w4 _ 5 HL4.out.rd (by omega) (by omega)).mono ?_
        rintro e w5 ⟨hD5, hR5, c5, rfl, _, _⟩
        have HL5 := Lib.hid (HL4.out.step hrw hD5 hR5)
        have hws5 := HL5.out.drw.size
        clear hD5 hR5 HL4
        by_cases q0 : c5 = 0
        · have e0 : ((c5 : Int) == 0) = true := by rw [beq_iff_eq]; omega
          clear q0
          go_wp2_with fail
          refine (cN.out f0 w5).mono ?_
          rintro e w6 ⟨hW6, rfl⟩
          have HL6 := Lib.hid (L3D.below HL5.out hrw hW6)
          have hws6 := HL6.out.drw.size
          clear hW6 HL5
          obtain ⟨tt, htt⟩ : ∃ t, tabText n (fun s => !f0 s) = t := ⟨_, rfl⟩
          have Hput := Lib.hid (tabsL_put n k F (fun s => !f0 s))
          rw [htt] at Hput ⊢
          clear htt
          go_wp2_with (first | ((with_reducible show wpList _ _ _ (⟨_, .buildSlice 26 1 _, _, _, _, _⟩ :: _) _ _); refine wpList_buildSlice' rfl _ _ _ rfl rfl (str_one _ _) ?_) | (at_builtin; refine wpList_text_appendK rfl _ _ rfl w1.heap.size _ (tabsL n k F) rfl ((HL6.out.own.alloc _)) _ _ rfl (cell_new ?_) (by omega) ((Below.refl w1.heap.size w6).alloc (by omega) _) ?_ ?_ ?_))
          · first | rfl | simp
          · exact Nat.le_refl _
          · first | omega | (simp; omega)
          · intro v' w8 hown8 hB8 _
            have Hf := Lib.hid (show L3D w1 w8 r (m + 1 + 50 * (k + 1)) n (k + 1) v' (fun i => if i = k then (fun s => !f0 s) else F i) from
              ⟨by rw [Hput.out, List.length_append]; exact hown8, HL6.out.drw.below hB8 (Nat.le_refl _), (HL6.out.rd.below hB8 hrw).more (by omega)⟩)
            clear hown8 hB8
            go_wp2_with fail
            go_roundw
            case rel => exact ⟨k + 1, _, by omega, by go_num, Hf.out⟩
            case measure => simp [intOf] <;> omega
        · have e0 : ((c5 : Int) == 0) = false := by rw [beq_eq_false_iff_ne]; omega
          by_cases q1 : c5 = 1
          · have e1 : ((c5 : Int) == 1) = true := by rw [beq_iff_eq]; omega
            clear q0 q1
            go_wp2_with fail
            refine (cN.out f0 w5).mono ?_
            rintro e w6 ⟨hW6, rfl⟩
            have HL6 := Lib.hid (L3D.below HL5.out hrw hW6)
            have hws6 := HL6.out.drw.size
            clear hW6 HL5
            obtain ⟨tt, htt⟩ : ∃ t, tabText n (fun s => !f0 s) = t := ⟨_, rfl⟩
            have Hput := Lib.hid (tabsL_put n k F (fun s => !f0 s))
            rw [htt] at Hput ⊢
            clear htt
            go_wp2_with (first | ((with_reducible show wpList _ _ _ (⟨_, .buildSlice 26 1 _, _, _, _, _⟩ :: _) _ _); refine wpList_buildSlice' rfl _ _ _ rfl rfl (str_one _ _) ?_) | (at_builtin; refine wpList_text_appendK rfl _ _ rfl w1.heap.size _ (tabsL n k F) rfl ((HL6.out.own.alloc _)) _ _ rfl (cell_new ?_) (by omega) ((Below.refl w1.heap.size w6).alloc (by omega) _) ?_ ?_ ?_))
            · first | rfl | simp
            · exact Nat.le_refl _
            · first | omega | (simp; omega)
            · intro v' w8 hown8 hB8 _
              have Hf := Lib.hid (show L3D w1 w8 r (m + 1 + 50 * (k + 1)) n (k + 1) v' (fun i => if i = k then (fun s => !f0 s) else F i) from
                ⟨by rw [Hput.out, List.length_append]; exact hown8, HL6.out.drw.below hB8 (Nat.le_refl _), (HL6.out.rd.below hB8 hrw).more (by omega)⟩)
              clear hown8 hB8
              go_wp2_with fail
              go_roundw
              case rel => exact ⟨k + 1, _, by omega, by go_num, Hf.out⟩
              case measure => simp [intOf] <;> omega
          · have e1 : ((c5 : Int) == 1) = false := by rw [beq_eq_false_iff_ne]; omega
            by_cases q2 : c5 = 2
            · have e2 : ((c5 : Int) == 2) = true := by rw [beq_iff_eq]; omega
              clear q0 q1 q2
              go_wp2_with fail
              refine (cL.out w5 _ HL5.out.rd (by omega)).mono ?_
              rintro e w6 ⟨hD6, hR6, g, rfl⟩
              have HL6 := Lib.hid (HL5.out.step hrw hD6 hR6)
              clear hD6 hR6 HL5
              go_wp2_with fail
              refine (cA.out f0 g w6).mono ?_
              rintro e w7 ⟨hW7, rfl⟩
              have HL7 := Lib.hid (L3D.below HL6.out hrw hW7)
              have hws7 := HL7.out.drw.size
              clear hW7 HL6
              obtain ⟨tt, htt⟩ : ∃ t, tabText n (andF f0 g) = t := ⟨_, rfl⟩
              have Hput := Lib.hid (tabsL_put n k F (andF f0 g))
              rw [htt] at Hput ⊢
              clear htt
              go_wp2_with (first | ((with_reducible show wpList _ _ _ (⟨_, .buildSlice 26 1 _, _, _, _, _⟩ :: _) _ _); refine wpList_buildSlice' rfl _ _ _ rfl rfl (str_one _ _) ?_) | (at_builtin; refine wpList_text_appendK rfl _ _ rfl w1.heap.size _ (tabsL n k F) rfl ((HL7.out.own.alloc _)) _ _ rfl (cell_new ?_) (by omega) ((Below.refl w1.heap.size w7).alloc (by omega) _) ?_ ?_ ?_))
              · first | rfl | simp
              · exact Nat.le_refl _
              · first | omega | (simp; omega)
              · intro v' w8 hown8 hB8 _
                have Hf := Lib.hid (show L3D w1 w8 r (m + 1 + 50 * (k + 1)) n (k + 1) v' (fun i => if i = k then (andF f0 g) else F i) from
                  ⟨by rw [Hput.out, List.length_append]; exact hown8, HL7.out.drw.below hB8 (Nat.le_refl _), (HL7.out.rd.below hB8 hrw).more (by omega)⟩)
                clear hown8 hB8
                go_wp2_with fail
                go_roundw
                case rel => exact ⟨k + 1, _, by omega, by go_num, Hf.out⟩
                case measure => simp [intOf] <;> omega
            · have e2 : ((c5 : Int) == 2) = false := by rw [beq_eq_false_iff_ne]; omega
              clear q0 q1 q2
              obtain ⟨tt, htt⟩ : ∃ t, tabText n (f0) = t := ⟨_, rfl⟩
              have Hput := Lib.hid (tabsL_put n k F (f0))
              rw [htt] at Hput ⊢
              clear htt
              go_wp2_with (first | ((with_reducible show wpList _ _ _ (⟨_, .buildSlice 26 1 _, _, _, _, _⟩ :: _) _ _); refine wpList_buildSlice' rfl _ _ _ rfl rfl (str_one _ _) ?_) | (at_builtin; refine wpList_text_appendK rfl _ _ rfl w1.heap.size _ (tabsL n k F) rfl ((HL5.out.own.alloc _)) _ _ rfl (cell_new ?_) (by omega) ((Below.refl w1.heap.size w5).alloc (by omega) _) ?_ ?_ ?_))
              · first | rfl | simp
              · exact Nat.le_refl _
              · first | omega | (simp; omega)
              · intro v' w8 hown8 hB8 _
                have Hf := Lib.hid (show L3D w1 w8 r (m + 1 + 50 * (k + 1)) n (k + 1) v' (fun i => if i = k then (f0) else F i) from
                  ⟨by rw [Hput.out, List.length_append]; exact hown8, HL5.out.drw.below hB8 (Nat.le_refl _), (HL5.out.rd.below hB8 hrw).more (by omega)⟩)
                clear hown8 hB8
                go_wp2_with fail
                go_roundw
                case rel => exact ⟨k + 1, _, by omega, by go_num, Hf.out⟩
                case measure => simp [intOf] <;> omega
    · obtain rfl : k = n := by omega
      obtain ⟨b, cap, rfl, _, _⟩ := own_slice HL.out.own (by rw [tabsL_length]; omega)
      have hcells : StrsAt wr b (tabsL k k F) := strsAt_of_own HL.out.own
      have hsz : ∀ p ∈ tabsL k k F, p.size ≤ 64 := fun p hp => by
        obtain ⟨i, _, rfl⟩ := List.mem_map.1 hp
        rw [tabText_size]; have := pw_le hn; omega
      have cT := Lib.hid (l3Text_any b cap (tabsL k k F) (by omega) hsz wr hcells)
      have hfin : netText ⟨k, F⟩ = bs (joinL ((tabsL k k F).map (·.data.toList))) := rfl
      rw [← hfin] at cT
      have hz := netText_size (N := ⟨k, F⟩) hn
      have hz1 := netText_pos (N := ⟨k, F⟩) h1
      have Hz := Lib.hid hz
      have Hz1 := Lib.hid hz1
      clear hcells hsz hfin hz hz1
      go_wp2_with fail
      refine cT.out.mono ?_
      rintro e w5 ⟨rfl, rfl⟩
      go_wp2_with fail
      go_ret
      exact ⟨⟨hD1'.out.trans HL.out.drw, HL.out.rd.more (by omega), _, Nat.le_trans Hz.out (by omega), rfl⟩, _, rfl, Hz1.out⟩
theorem l7Open_any (r m : Nat) (hm : m ≤ 600000) (w : World) (h : Rd w r m) :
    Calls Tryd.prog 105 #[.pointer (some ⟨r, 0, none⟩)] w fun e w' => TxAt w w' r (m + 310) 1100 e := by
  have C := Lib.hid (pick_any r m 3 (by omega) (by omega) w h)
  clear h
  go_enter Tryd.func105, Tryd.ntmps105
  go_wp2_with fail
  refine C.out.mono ?_
  rintro e w1 ⟨hD1, hR1, c3, rfl, _, _⟩
  have HD1 := Lib.hid hD1
  by_cases h3 : c3 = 0
  · have e3 : ((c3 : Int) == 0) = true := by rw [beq_iff_eq]; omega
    have cS := Lib.hid (l5Small_any r (m + 1) (by omega) w1 hR1)
    clear h3 hD1 hR1
    go_wp2_with fail
    refine cS.out.mono ?_
    rintro e w2 ⟨hD2, hR2, t, i, ht, _, rfl⟩
    go_wp2_with fail
    go_ret
    exact ⟨HD1.out.trans hD2, hR2.more (by omega), t, ht, rfl⟩
  · have e3 : ((c3 : Int) == 0) = false := by rw [beq_eq_false_iff_ne]; omega
    have cS := Lib.hid (l7Chain_any r (m + 1) (by omega) w1 hR1)
    clear h3 hD1 hR1
    go_wp2_with fail
    refine cS.out.mono ?_
    rintro e w2 ⟨⟨hD2, hR2, t, ht, rfl⟩, t', ht', hz⟩
    have ett : t' = t := by injection ht' with e1; injection e1 with e1; exact e1.symm
    subst ett
    have cB := Lib.hid (l3Bad_any r _ t' hz (by omega) (by omega) w2 hR2)
    have HD2 := Lib.hid hD2
    clear hD2 hR2 ht'
    go_wp2_with fail
    refine cB.out.mono ?_
    rintro e w3 ⟨hD3, hR3, u, hu, rfl⟩
    go_wp2_with fail
    go_ret
    exact ⟨(HD1.out.trans HD2.out).trans hD3, hR3.more (by omega), u, hu, rfl⟩
theorem l1Switch_any (r m : Nat) (hm : m ≤ 900000) (w : World) (h : Rd w r m) :
    Calls Tryd.prog 100 #[.pointer (some ⟨r, 0, none⟩)] w fun e w' => NumZ w w' r m (fun v => (Lit.int .i64 v).wf = true) e := by
  have H := Lib.hid h
  clear h
  go_enter Tryd.func100, Tryd.ntmps100
  go_wp2_with ((with_reducible show wpList _ _ _ (⟨_, .buildSlice 30 10 _, _, _, _, _⟩ :: _) _ _); refine wpList_buildSlice' rfl _ _ _ rfl rfl (ints_built10 _ _ _ _ _ _ _ _ _ _ _) ?_)
  refine (num10_any (fun v => (Lit.int .i64 v).wf = true) r m _ _ _ _ _ _ _ _ _ _ (by omega) w H.out (by decide) (by decide) (by decide) (by decide) (by decide) (by decide) (by decide) (by decide) (by decide) (by decide)).mono ?_
  rintro e w1 ⟨hD1, hR1, v, hv, rfl⟩
  go_wp2_with fail
  go_ret
  exact ⟨hD1, hR1, v, hv, rfl⟩
end Go.Proofs.YtcddnacbjdahbaaDoor
