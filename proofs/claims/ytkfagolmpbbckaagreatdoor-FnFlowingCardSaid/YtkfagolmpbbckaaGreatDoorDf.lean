/- The draw of the law on flowing networks. -/
import Derived.Test.YtkfagolmpbbckaaGreatDoorMa
namespace Go.Proofs.YtkfagolmpbbckaaGreatDoor
open Go Go.RowKit Go.Sw
set_option maxRecDepth 100000
set_option linter.unusedVariables false
theorem l1Hold_any (n j : Nat) (v : Bool) (f : Nat → Bool) (hn : n ≤ 5) (hj : j < n) (w : World) :
    Calls Tryz.prog 64 #[.string (tabText n f), .int .i64 j, .int .i64 v.toNat] w fun e w' => Below w.heap.size w w' ∧ e = .returned (.string (tabText n fun s => f (setN s j v))) := by
  have hp := pw_le hn
  have hsz := tabText_size n f
  have cA := Lib.hid (fun (s : Nat) (hs : s < pw n) (wx : World) => l1At_any n f s hn hs wx)
  have cS := Lib.hid (fun (s : Nat) (hs : s < 32) (wx : World) => l1Set_any s j v (by omega) (by omega) wx)
  have hsl := Lib.hid (fun (s : Nat) (hs : s < pw n) => setN_lt (n := n) (s := s) (i := j) v hs hj)
  obtain ⟨t, ht⟩ : ∃ t, tabText n f = t := ⟨_, rfl⟩
  rw [ht] at hsz cA ⊢
  obtain ⟨vn, hvn⟩ : ∃ x, v.toNat = x := ⟨_, rfl⟩
  rw [hvn] at cS ⊢
  clear ht hvn
  go_enter Tryz.func64, Tryz.ntmps64
  go_wp2_with ((with_reducible show wpList _ _ _ (⟨_, .buildSlice 27 0 _, _, _, _, _⟩ :: _) _ _); refine wpList_buildSlice' rfl _ _ _ rfl rfl (int_none _) ?_)
  go_loopw [7, 8] (fun out s wr => ∃ k : Nat, k ≤ pw n ∧ s = .int .i64 k ∧ wr.ownsRow w.heap.size 3 1 out (bitInts k fun s => f (setN s j v)).length (ints (bitInts k fun s => f (setN s j v))) ∧ Below w.heap.size w wr) (fun _ s _ => pw n - (intOf s).toNat)
  case atStart => exact ⟨0, Nat.zero_le _, rfl, World.ownsRow_made w #[] 0 (Nat.le_refl _) (by unfold maxLen; omega) rfl, (Below.refl _ _).alloc (Nat.le_refl _) _⟩
  case round =>
    obtain ⟨k, hk, rfl, hown, hW⟩ := hrel
    have Hown := Lib.hid hown
    have hws := hW.size
    clear hown
    have hbl : (bitInts k fun s => f (setN s j v)).length ≤ 32 := by rw [bitInts_length]; omega
    by_cases hlt : k < pw n
    · have c1 := cA.out (setN k j v) (hsl.out k hlt) wr
      have c2 := cS.out k (by omega) wr
      have hs := bitInts_succ k fun s => f (setN s j v)
      obtain ⟨q, hq⟩ : ∃ q, setN k j v = q := ⟨_, rfl⟩
      rw [hq] at c1 c2
      simp only [hq] at hs
      obtain ⟨b, hb⟩ : ∃ b, f q = b := ⟨_, rfl⟩
      rw [hb] at c1
      simp only [hb] at hs
      have C1 := Lib.hid c1
      have C2 := Lib.hid c2
      have Hs := Lib.hid hs
      clear c1 c2 hs hb hq
      go_wp2_with fail
      refine C2.out.mono ?_
      rintro e w' ⟨rfl, rfl⟩
      go_wp2_with fail
      refine C1.out.mono ?_
      rintro e w' ⟨rfl, rfl⟩
      obtain ⟨bn, hbn⟩ : ∃ x, b.toNat = x := ⟨_, rfl⟩
      rw [hbn] at Hs ⊢
      clear hbn
      go_wp2_with (first | ((with_reducible show wpList _ _ _ (⟨_, .buildSlice 27 1 _, _, _, _, _⟩ :: _) _ _); refine wpList_buildSlice' rfl _ _ _ rfl rfl (int_one (bn : Int) _) ?_) | (at_builtin; refine wpList_int_append rfl _ _ rfl w.heap.size _ (bitInts k fun s => f (setN s j v)) rfl ((Hown.out.alloc _)) _ _ rfl (cell_new ?_) (by omega) (hW.alloc (by omega) _) ?_ ?_ ?_))
      · rfl
      · exact Nat.le_refl _
      · first | omega | (simp; omega)
      · intro v' w6 hown6 hB6
        have Hf := Lib.hid (show w6.ownsRow w.heap.size 3 1 v' (bitInts (k + 1) fun s => f (setN s j v)).length (ints (bitInts (k + 1) fun s => f (setN s j v))) by rw [Hs.out, List.length_append]; exact hown6)
        have HB6 := Lib.hid hB6
        clear hown6 hB6
        go_wp2_with fail
        go_roundw
        case rel => exact ⟨k + 1, by omega, by go_num, Hf.out, HB6.out⟩
        case measure => simp [intOf] <;> omega
    · obtain rfl : k = pw n := by omega
      obtain ⟨a, cp, rfl, hcp, hI⟩ := intsAt_of_own Hown.out
      have cT := Lib.hid (l1Text_any w.heap.size (pw n) a cp (fun s => f (setN s j v)) (by omega) wr hI)
      clear hI
      rw [bitInts_length]
      go_wp2_with fail
      refine cT.out.mono ?_
      rintro e w5 ⟨hW5, rfl⟩
      go_wp2_with fail
      go_ret
      exact ⟨hW.trans (hW5.mono hws), rfl⟩
set_option maxHeartbeats 2000000 in
theorem drawIsFlow_any (a : Option Addr) (len cap : Nat) (hc : cap ≤ maxLen) (w : World) (h : CodeAt w a len cap) :
    Calls Tryz.prog 22 #[.slice a len cap] w fun e w' => TopT w w' e := by
  have c0 := Lib.hid (l14Open_any a len cap hc w h)
  clear h
  go_enter Tryz.func22, Tryz.ntmps22
  go_wp2_with fail
  refine c0.out.mono ?_
  rintro e w1 ⟨hW1, rfl, hR1⟩
  have hw1 := hW1.size
  obtain ⟨r, hr⟩ : ∃ r, w.heap.size = r := ⟨_, rfl⟩
  rw [hr] at hR1
  have hrw := hR1.lt
  have HW1 := Lib.hid hW1
  have Hr := Lib.hid hr
  rw [hr]
  have HR1 := Lib.hid hR1
  clear hW1 hr hR1
  go_wp2_with fail
  refine (pick_any r 0 2 (by omega) (by omega) w1 HR1.out).mono ?_
  rintro e w2 ⟨hD2, hR2, c2, rfl, _, hc2⟩
  have HD2 := Lib.hid hD2
  have HR2 := Lib.hid hR2
  clear hD2 hR2
  by_cases z : c2 = 0
  · have e0 : ((c2 : Int) == 0) = true := by rw [beq_iff_eq]; omega
    clear z hc2
    go_wp2_with fail
    refine (l7Open_any r _ (by omega) w2 HR2.out).mono ?_
    rintro e w3 ⟨hD3, hR3, t, ht, rfl⟩
    go_wp2_with fail
    go_ret
    exact ⟨Below.drw HW1.out (HD2.out.trans hD3) (by rw [Hr.out]; exact Nat.le_refl _) hw1, t, ht, rfl⟩
  · have e0 : ((c2 : Int) == 0) = false := by rw [beq_eq_false_iff_ne]; omega
    clear z hc2
    go_wp2_with fail
    refine (pick_any r _ 4 (by omega) (by omega) w2 HR2.out).mono ?_
    rintro e w3 ⟨hD3, hR3, c3, rfl, _, hc3⟩
    have hc3 := hc3 (by omega)
    have HD3 := Lib.hid (HD2.out.trans hD3)
    have HR3 := Lib.hid hR3
    have hs3 := HD3.out.size
    obtain ⟨n, hn0⟩ : ∃ n, c3 + 1 = n := ⟨_, rfl⟩
    have hni : (1 : Int) + (c3 : Int) = (n : Int) := by omega
    have h1 : 1 ≤ n := by omega
    have hn : n ≤ 5 := by omega
    have hrw3 : r < w3.heap.size := by omega
    have C := Lib.hid (fun (wx : World) (m' : Nat) (hx : Rd wx r m') (h2 : m' ≤ 900000) => l1Draw_any r m' n h1 hn h2 wx hx)
    have cP := Lib.hid (fun (wx : World) (m' : Nat) (hx : Rd wx r m') (h2 : m' ≤ 900000) => pick_any r m' 2 (by omega) (by omega) wx hx)
    have cH := Lib.hid (fun (j : Nat) (hj : j < n) (v : Bool) (f : Nat → Bool) (wx : World) => l1Hold_any n j v f hn hj wx)
    clear hD3 hR3 hn0 hc3
    go_wp2_with ((with_reducible show wpList _ _ _ (⟨_, .buildSlice 31 0 _, _, _, _, _⟩ :: _) _ _); refine wpList_buildSlice' rfl _ _ _ rfl rfl (str_none _) ?_)
    go_loopw [5, 6, 7, 8] (fun out s _ _ wr => ∃ (k : Nat) (F : Nat → Nat → Bool), k ≤ n ∧ s = .int .i64 k ∧ L3D w3 wr r (10 + 60 * k) n k out F) (fun _ s _ _ _ => n - (intOf s).toNat)
    case atStart => exact ⟨0, fun _ _ => false, Nat.zero_le _, rfl, World.ownsRow_made w3 #[] 0 (Nat.le_refl _) (by unfold maxLen; omega) rfl, (Drw.refl _ _).below ((Below.refl _ _).alloc (Nat.le_refl _) _) (Nat.le_refl _), (HR3.out.more (by omega)).alloc _⟩
    case round =>
      obtain ⟨k, F, hk, rfl, hL⟩ := hrel
      have HL := Lib.hid hL
      have hws := hL.drw.size
      clear hL
      have hbl : (tabsL n k F).length ≤ 5 := by rw [tabsL_length]; omega
      by_cases hlt : k < n
      · go_wp2_with fail
        refine (C.out wr _ HL.out.rd (by omega)).mono ?_
        rintro e w5 ⟨hD5, hR5, f, rfl⟩
        have HL5 := Lib.hid (HL.out.step hrw3 hD5 hR5)
        clear hD5 hR5 HL
        go_wp2_with fail
        go_loopw [7, 8] (fun t j wx => ∃ (i : Nat) (g : Nat → Bool), i ≤ k + 1 ∧ j = .int .i64 i ∧ t = .string (tabText n g) ∧ L3D w3 wx r (10 + 60 * k + 40 + i) n k _ F) (fun _ j _ => k + 1 - (intOf j).toNat)
        case atStart => exact ⟨0, f, Nat.zero_le _, rfl, rfl, HL5.out⟩
        case round =>
          obtain ⟨i, g, hi, rfl, rfl, hM⟩ := hrel
          have HM := Lib.hid hM
          have hwm := hM.drw.size
          clear hM
          obtain ⟨tt, htt⟩ : ∃ t, tabText n g = t := ⟨_, rfl⟩
          have Htt := Lib.hid htt
          rw [htt]
          clear htt
          by_cases hlt2 : i < k + 1
          · have hik : (i : Int) ≤ (k : Int) := by omega
            go_wp2_with fail
            refine (cP.out wr _ HM.out.rd (by omega)).mono ?_
            rintro e w6 ⟨hD6, hR6, c6, rfl, _, hc6⟩
            have hc6 := hc6 (by omega)
            obtain ⟨v, hv⟩ : ∃ v : Bool, c6 = v.toNat := by
              have : c6 = 0 ∨ c6 = 1 := by omega
              rcases this with e | e
              · exact ⟨false, e⟩
              · exact ⟨true, e⟩
            have HM6 := Lib.hid (HM.out.step hrw3 hD6 hR6)
            have cc := cH.out i (by omega) v g w6
            rw [← hv, Htt.out] at cc
            have Cc := Lib.hid cc
            clear hD6 hR6 hc6 cc hv
            go_wp2_with fail
            refine Cc.out.mono ?_
            rintro e w7 ⟨hW7, rfl⟩
            have HM7 := Lib.hid (L3D.below HM6.out hrw3 hW7)
            clear hW7
            go_wp2_with fail
            go_roundw
            case rel => exact ⟨i + 1, _, by omega, by go_num, rfl, HM7.out⟩
            case measure => simp [intOf] <;> omega
          · obtain rfl : i = k + 1 := by omega
            have hik : ¬ ((k : Int) + 1 ≤ (k : Int)) := by omega
            have Hput := Lib.hid (tabsL_put n k F g)
            rw [Htt.out] at Hput
            go_wp2_with (first | ((with_reducible show wpList _ _ _ (⟨_, .buildSlice 31 1 _, _, _, _, _⟩ :: _) _ _); refine wpList_buildSlice' rfl _ _ _ rfl rfl (str_one _ _) ?_) | (at_builtin; refine wpList_text_appendK rfl _ _ rfl w3.heap.size _ (tabsL n k F) rfl ((HM.out.own.alloc _)) _ _ rfl (cell_new ?_) (by omega) ((Below.refl w3.heap.size wr).alloc (by omega) _) ?_ ?_ ?_))
            · first | rfl | simp
            · first | omega | (simp; omega)
            · intro v' w8 hown8 hB8 _
              have Hf := Lib.hid (show L3D w3 w8 r (10 + 60 * (k + 1)) n (k + 1) v' (fun i => if i = k then g else F i) from
                ⟨by rw [Hput.out, List.length_append]; exact hown8, HM.out.drw.below hB8 (Nat.le_refl _), (HM.out.rd.below hB8 hrw3).more (by omega)⟩)
              clear hown8 hB8
              go_wp2_with fail
              go_roundw
              case rel => exact ⟨k + 1, _, by omega, by go_num, Hf.out⟩
              case measure => simp [intOf] <;> omega
      · obtain rfl : k = n := by omega
        obtain ⟨b, cap', rfl, _, _⟩ := own_slice HL.out.own (by rw [tabsL_length]; omega)
        have hcells : StrsAt wr b (tabsL k k F) := strsAt_of_own HL.out.own
        have hsz : ∀ p ∈ tabsL k k F, p.size ≤ 64 := fun p hp => by
          obtain ⟨i, _, rfl⟩ := List.mem_map.1 hp
          rw [tabText_size]; have := pw_le hn; omega
        have cT := Lib.hid (l3Text_any b cap' (tabsL k k F) (by omega) hsz wr hcells)
        have hfin : netText ⟨k, F⟩ = bs (joinL ((tabsL k k F).map (·.data.toList))) := rfl
        have hts : (netText ⟨k, F⟩).size ≤ 165 := netText_size (N := ⟨k, F⟩) hn
        rw [← hfin] at cT
        have Hts := Lib.hid hts
        clear hcells hsz hfin hts
        go_wp2_with fail
        refine cT.out.mono ?_
        rintro e w5 ⟨rfl, rfl⟩
        go_wp2_with fail
        go_ret
        exact ⟨Below.drw HW1.out (HD3.out.trans HL.out.drw) (by rw [Hr.out]; exact Nat.le_refl _) hw1, _, by have := Hts.out; omega, rfl⟩
end Go.Proofs.YtkfagolmpbbckaaGreatDoor
