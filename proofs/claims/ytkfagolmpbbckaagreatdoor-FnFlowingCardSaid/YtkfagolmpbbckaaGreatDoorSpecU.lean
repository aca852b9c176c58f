/- The reference's turned networks, and which switches to turn. -/
import Derived.Test.YtkfagolmpbbckaaGreatDoorSpecT
namespace Go.Proofs.YtkfagolmpbbckaaGreatDoor
open Go Go.RowKit Go.Sw
set_option maxRecDepth 100000
set_option linter.unusedVariables false

theorem netTexts_take_succ (N : Net) (k : Nat) (h : k < N.n) : (netTexts N).take (k + 1) = (netTexts N).take k ++ [tabText N.n (N.f k)] := by
  rw [List.take_succ_eq_append_getElem (by rw [netTexts_length]; exact h), netTexts_get N k h]
theorem netTexts_size (N : Net) (h5 : N.n ≤ 5) : ∀ p ∈ netTexts N, p.size ≤ 64 := by
  intro p hp
  obtain ⟨i, _, rfl⟩ := List.mem_map.1 hp
  rw [tabText_size]
  have := pw_le h5; omega

theorem sizeOf_yes (t : ByteArray) (w : World) (hs : t.size ≤ 1048576) (hok : netOk t = true) :
    Calls Tryz.prog 48 #[.string t] w fun e w' => Below w.heap.size w w' ∧ e = .returned (.int .i64 ((netOf t).n : Nat)) := by
  have c := Lib.hid (l3Open_any t w hs)
  have Hok := Lib.hid hok
  clear hok
  go_enter Tryz.func48, Tryz.ntmps48
  go_wp2_with fail
  refine c.out.mono ?_
  rintro e w1 ⟨hW1, ⟨hbad, v, rfl⟩ | ⟨hok, b, cap, rfl, hb1, hb2, hat⟩⟩
  · rw [Hok.out] at hbad; cases hbad
  · have hn := netOf_ok hok
    clear hat hok
    go_wp2_with fail
    go_ret
    exact ⟨hW1, rfl⟩
theorem sizeOf_no (t : ByteArray) (w : World) (hs : t.size ≤ 1048576) (hok : netOk t = false) :
    Calls Tryz.prog 48 #[.string t] w fun e w' => Below w.heap.size w w' ∧ e = .returned (.int .i64 (-1)) := by
  have c := Lib.hid (l3Open_any t w hs)
  have Hok := Lib.hid hok
  clear hok
  go_enter Tryz.func48, Tryz.ntmps48
  go_wp2_with fail
  refine c.out.mono ?_
  rintro e w1 ⟨hW1, ⟨hbad, v, rfl⟩ | ⟨hok, b, cap, rfl, hb1, hb2, hat⟩⟩
  · clear hbad
    go_wp2_with fail
    go_ret
    exact ⟨hW1, rfl⟩
  · rw [Hok.out] at hok; cases hok

theorem xor_two (s i : Nat) (hs : s < 32) (hi : i < 5) : bits .xor .i64 (s : Int) ((2 : Int) ^ i) = ((s ^^^ 2 ^ i : Nat) : Int) := by
  have := pow2_leN i (by omega)
  rw [pow_cast]; exact i64_xor s (2 ^ i) (by omega) (by omega)

set_option maxHeartbeats 1000000 in
theorem turnNetwork_spec (t : ByteArray) (i : Nat) (w : World) (hs : t.size ≤ 1048576) (hok : netOk t = true) (hi : i < (netOf t).n) :
    Calls Tryz.prog 93 #[.string t, .int .i64 i] w fun e w' => Below w.heap.size w w' ∧ e = .returned (.tuple #[.string (netText (turnN (netOf t) (2 ^ i))), .bool true]) := by
  have cO := Lib.hid (l3Open_any t w hs)
  have Hok := Lib.hid hok
  have hn := netOf_ok hok
  have a1 : inI i 0 (((netOf t).n : Int) - 1) = true := by simp [inI]; omega
  obtain ⟨N, hN⟩ : ∃ N, netOf t = N := ⟨_, rfl⟩
  rw [hN] at hn hi a1 cO ⊢
  have hp := pw_le hn.2
  obtain ⟨M, hM⟩ : ∃ M, turnN N (2 ^ i) = M := ⟨_, rfl⟩
  have hMn : M.n = N.n := by rw [← hM]; rfl
  have hMf : ∀ k s, M.f k s = (N.f k (s ^^^ 2 ^ i) ^^ (2 ^ i).testBit k) := by intro k s; rw [← hM]; rfl
  have hT : ∀ k, k < N.n → (netTexts M).take (k + 1) = (netTexts M).take k ++ [bitsT (pw N.n) (M.f k)] := fun k hk => by
    rw [netTexts_take_succ M k (by omega), hMn]; rfl
  have hL : ∀ k, k ≤ N.n → ((netTexts M).take k).length = k := fun k hk => by rw [List.length_take, netTexts_length]; omega
  have hfin : netText M = bs (joinL (((netTexts M).take N.n).map (·.data.toList))) := by
    rw [← hMn, ← netTexts_length M, List.take_length]; rfl
  have hsz : ∀ p ∈ netTexts M, p.size ≤ 64 := netTexts_size M (by omega)
  rw [hM]
  have HT := Lib.hid hT
  have HL := Lib.hid hL
  have HMf := Lib.hid hMf
  have Hfin := Lib.hid hfin
  have Hsz := Lib.hid hsz
  clear hok hN hM hMn hMf hT hL hfin hsz
  go_enter Tryz.func93, Tryz.ntmps93
  go_wp2_with fail
  refine cO.out.mono ?_
  rintro e w1 ⟨hW1, ⟨hbad, v, rfl⟩ | ⟨hok, b, cap, rfl, hb1, hb2, hat⟩⟩
  · rw [Hok.out] at hbad; cases hbad
  · have Hat := Lib.hid hat
    clear hat hok
    go_wp2_with (first | (go_at_call 130; refine (l1In_b _ _ _ _ a1 _).mono ?_; rintro e w' ⟨rfl, rfl⟩) | ((with_reducible show wpList _ _ _ (⟨_, .buildSlice 31 0 _, _, _, _, _⟩ :: _) _ _); refine wpList_buildSlice' rfl _ _ _ rfl rfl (str_none _) ?_))
    go_loopw [8, 9, 10, 11, 12] (fun out j _ _ _ wr => ∃ k : Nat, k ≤ N.n ∧ j = .int .i64 k ∧ wr.ownsRow w1.heap.size 9 1 out k (texts ((netTexts M).take k)) ∧ Below w1.heap.size w1 wr) (fun _ j _ _ _ _ => N.n - (intOf j).toNat)
    case atStart => exact ⟨0, Nat.zero_le _, rfl, World.ownsRow_made w1 #[] 0 (Nat.le_refl _) (by unfold maxLen; omega) rfl, (Below.refl _ _).alloc (Nat.le_refl _) _⟩
    case round =>
      obtain ⟨k, hk, rfl, hown, hW⟩ := hrel
      have Hown := Lib.hid hown
      clear hown
      by_cases hlt : k < N.n
      · have hcell : ∀ wx : World, Below w1.heap.size w1 wx → wx.cell? ⟨b, k, none⟩ = some (.string (tabText N.n (N.f k))) := fun wx hx => by
          rw [← netTexts_get N k hlt]; exact (Hat.out.below hx hb2) k (by rw [netTexts_length]; exact hlt)
        have Hcell := Lib.hid hcell
        have hck := hcell wr hW
        have hck2 := hcell _ (hW.alloc hW.size (.cells #[] 3))
        have htz : (tabText N.n (N.f k)).size = pw N.n := tabText_size _ _
        clear hcell
        obtain ⟨wo, rfl⟩ : ∃ wo : World, wo = wr := ⟨_, rfl⟩
        have hWsz := hW.size
        go_wp2_with ((with_reducible show wpList _ _ _ (⟨_, .buildSlice 27 0 _, _, _, _, _⟩ :: _) _ _); refine wpList_buildSlice' rfl _ _ _ rfl rfl (int_none _) ?_)
        go_loopw [10, 11, 12] (fun vs j _ wr => ∃ s : Nat, s ≤ pw N.n ∧ j = .int .i64 s ∧ wr.ownsRow wo.heap.size 3 1 vs (bitInts s (M.f k)).length (ints (bitInts s (M.f k))) ∧ Below wo.heap.size wo wr) (fun _ j _ _ => pw N.n - (intOf j).toNat)
        case atStart => exact ⟨0, Nat.zero_le _, rfl, World.ownsRow_made wo #[] 0 (Nat.le_refl _) (by unfold maxLen; omega) rfl, (Below.refl _ _).alloc (Nat.le_refl _) _⟩
        case round =>
          obtain ⟨s, hsk, rfl, hown2, hW2⟩ := hrel
          have Hown2 := Lib.hid hown2
          have hW12 : Below w1.heap.size w1 wr := hW.trans (hW2.mono hWsz)
          have hcr := Hcell.out wr hW12
          have hlenv : (bitInts s (M.f k)).length ≤ 32 := by rw [bitInts_length]; omega
          have hWsz2 := hW2.size
          clear hown2
          by_cases hlt2 : s < pw N.n
          · have hx := xor_two s i (by omega) (by omega)
            have hxl : s ^^^ 2 ^ i < pw N.n := xor_lt hlt2 (two_lt hi)
            have h2i := pow2_le i (by omega)
            have c := l1At_any N.n (N.f k) (s ^^^ 2 ^ i) hn.2 hxl wr
            have hB := bitInts_succ s (M.f k)
            rw [HMf.out k s] at hB
            by_cases e : k = i
            · have hb : (2 ^ i).testBit k = true := by rw [e, Nat.testBit_two_pow_self]
              have he : ((k : Int) == (i : Int)) = true := by rw [e]; simp
              rw [hb] at hB
              cases hv : N.f k (s ^^^ 2 ^ i) <;> rw [hv] at c hB
              all_goals
                simp only [Bool.toNat_true, Bool.toNat_false, Int.natCast_zero, Int.natCast_one, Bool.true_xor, Bool.false_xor, Bool.not_true] at c hB
                have C := Lib.hid c
                have HB := Lib.hid hB
                clear c hB hb hv e
                go_wp2_with (first | (go_at_call 109; refine C.out.mono ?_; rintro e w' ⟨rfl, rfl⟩) | ((with_reducible show wpList _ _ _ (⟨_, .buildSlice 27 1 _, _, _, _, _⟩ :: _) _ _); refine wpList_buildSlice' rfl _ _ _ rfl rfl (int_one _ _) ?_) | (at_builtin; refine wpList_int_append rfl _ _ rfl wo.heap.size _ (bitInts s (M.f k)) rfl ((Hown2.out.alloc _)) _ _ rfl (cell_new ?_) (by omega) (hW2.alloc (by omega) _) ?_ ?_ ?_))
                · rfl
                · exact Nat.le_refl _
                · first | omega | (simp; omega)
                · intro v' w3 hown3 hB3
                  have hown4 : w3.ownsRow wo.heap.size 3 1 v' (bitInts (s + 1) (M.f k)).length (ints (bitInts (s + 1) (M.f k))) := by rw [HB.out, List.length_append]; exact hown3
                  have Hown3 := Lib.hid hown4
                  have HB3 := Lib.hid hB3
                  clear hown3 hown4 hB3
                  go_wp2_with fail
                  go_roundw
                  case rel => exact ⟨s + 1, by omega, by go_num, Hown3.out, HB3.out⟩
                  case measure => simp [intOf] <;> omega
            · have hb : (2 ^ i).testBit k = false := by rw [Nat.testBit_two_pow]; exact decide_eq_false fun h => e h.symm
              have he : ((k : Int) == (i : Int)) = false := by rw [beq_eq_false_iff_ne]; omega
              rw [hb] at hB
              cases hv : N.f k (s ^^^ 2 ^ i) <;> rw [hv] at c hB
              all_goals
                simp only [Bool.toNat_true, Bool.toNat_false, Int.natCast_zero, Int.natCast_one, Bool.xor_false] at c hB
                have C := Lib.hid c
                have HB := Lib.hid hB
                clear c hB hb hv e
                go_wp2_with (first | (go_at_call 109; refine C.out.mono ?_; rintro e w' ⟨rfl, rfl⟩) | ((with_reducible show wpList _ _ _ (⟨_, .buildSlice 27 1 _, _, _, _, _⟩ :: _) _ _); refine wpList_buildSlice' rfl _ _ _ rfl rfl (int_one _ _) ?_) | (at_builtin; refine wpList_int_append rfl _ _ rfl wo.heap.size _ (bitInts s (M.f k)) rfl ((Hown2.out.alloc _)) _ _ rfl (cell_new ?_) (by omega) (hW2.alloc (by omega) _) ?_ ?_ ?_))
                · rfl
                · exact Nat.le_refl _
                · first | omega | (simp; omega)
                · intro v' w3 hown3 hB3
                  have hown4 : w3.ownsRow wo.heap.size 3 1 v' (bitInts (s + 1) (M.f k)).length (ints (bitInts (s + 1) (M.f k))) := by rw [HB.out, List.length_append]; exact hown3
                  have Hown3 := Lib.hid hown4
                  have HB3 := Lib.hid hB3
                  clear hown3 hown4 hB3
                  go_wp2_with fail
                  go_roundw
                  case rel => exact ⟨s + 1, by omega, by go_num, Hown3.out, HB3.out⟩
                  case measure => simp [intOf] <;> omega
          · obtain rfl : s = pw N.n := by omega
            obtain ⟨a, cp, rfl, hcp, hI⟩ := intsAt_of_own Hown2.out
            rw [bitInts_length]
            have c := Lib.hid (l1Text_any wo.heap.size (pw N.n) a cp (M.f k) (by omega) wr hI)
            have hTk := HT.out k hlt
            have hLk := HL.out k hk
            have HTk := Lib.hid hTk
            have HLk := Lib.hid hLk
            clear hI hTk hLk
            go_wp2_with fail
            refine c.out.mono ?_
            rintro e w3 ⟨hW3, rfl⟩
            have hB23 : Below wo.heap.size wo w3 := hW2.trans (hW3.mono hWsz2)
            have hsz3 := hW3.size
            have hown3 : w3.ownsRow w1.heap.size 9 1 u8 ((netTexts M).take k).length (texts ((netTexts M).take k)) := by
              rw [HLk.out]; exact own_below Hown.out hB23
            have hl8 : ((netTexts M).take k).length ≤ 8 := by rw [HLk.out]; omega
            have Hown3 := Lib.hid hown3
            clear hown3
            go_wp2_with (first | ((with_reducible show wpList _ _ _ (⟨_, .buildSlice 31 1 _, _, _, _, _⟩ :: _) _ _); refine wpList_buildSlice' rfl _ _ _ rfl rfl (str_one (bitsT (pw N.n) (M.f k)) _) ?_) | (at_builtin; refine wpList_text_appendK rfl _ _ rfl w1.heap.size _ ((netTexts M).take k) rfl ((Hown3.out.alloc _)) _ _ rfl (cell_new ?_) (by omega) ((hW.trans (hB23.mono hWsz)).alloc (by omega) _) ?_ ?_ ?_))
            · rfl
            · exact Nat.le_refl _
            · first | omega | (simp; omega)
            · intro v' w4 hown4 hB4 _
              have hown5 : w4.ownsRow w1.heap.size 9 1 v' (k + 1) (texts ((netTexts M).take (k + 1))) := by
                have hlen : min k (netTexts M).length = k := by have := HLk.out; rwa [List.length_take] at this
                rw [hlen] at hown4
                rw [HTk.out]; exact hown4
              have Hown4 := Lib.hid hown5
              have HB4 := Lib.hid hB4
              clear hown4 hown5 hB4
              go_wp2_with fail
              go_roundw
              case rel => exact ⟨k + 1, by omega, by go_num, Hown4.out, HB4.out⟩
              case measure => simp [intOf] <;> omega
      · obtain rfl : k = N.n := by omega
        obtain ⟨b2, cp, rfl, hb3, hb4⟩ := own_slice Hown.out hn.1
        have hat2 : StrsAt wr b2 ((netTexts M).take N.n) := strsAt_of_own Hown.out
        have hl := HL.out N.n (Nat.le_refl _)
        have c := l3Text_any b2 cp ((netTexts M).take N.n) (by omega) (fun p hp => Hsz.out p (List.mem_of_mem_take hp)) wr hat2
        rw [hl, ← Hfin.out] at c
        have C := Lib.hid c
        clear hat2 hl c
        go_wp2_with fail
        refine C.out.mono ?_
        rintro e w' ⟨rfl, rfl⟩
        go_wp2_with fail
        go_ret2
        exact ⟨hW1.trans (hW.mono hW1.size), rfl⟩

/-- a text is a network like another one -/
def likeT (t : ByteArray) (N : Net) : Prop := t.size ≤ 1048576 ∧ netOk t = true ∧ (netOf t).eqv N
theorem likeT_text {N : Net} (h1 : 1 ≤ N.n) (h5 : N.n ≤ 5) : likeT (netText N) N := ⟨by have := netText_size h5; omega, netOk_text h1 h5, netOf_text h1⟩

theorem l8Turned_any (t : ByteArray) (set : Nat) (w : World) (hs : t.size ≤ 1048576) (hok : netOk t = true) (hset : set < pw (netOf t).n) :
    Calls Tryz.prog 50 #[.string t, .int .i64 set] w fun e w' => Below w.heap.size w w' ∧ ∃ t', e = .returned (.string t') ∧ likeT t' (turnN (netOf t) set) := by
  have hn := netOf_ok hok
  have h0 : likeT t (turnN (netOf t) (set % 2 ^ 0)) := ⟨hs, hok, by rw [Nat.pow_zero, Nat.mod_one]; exact (turn_zero _).symm⟩
  have hend : set % 2 ^ (netOf t).n = set := Nat.mod_eq_of_lt hset
  obtain ⟨N, hN⟩ : ∃ N, netOf t = N := ⟨_, rfl⟩
  rw [hN] at hn hset h0 hend ⊢
  have hp := pw_le hn.2
  have H0 := Lib.hid h0
  have Hend := Lib.hid hend
  clear hN h0 hok hend
  go_enter Tryz.func50, Tryz.ntmps50
  go_wp2_with fail
  go_loopw [0, 5] (fun x j wr => ∃ (k : Nat) (u : ByteArray), k ≤ N.n ∧ j = .int .i64 k ∧ x = .string u ∧ likeT u (turnN N (set % 2 ^ k)) ∧ Below w.heap.size w wr) (fun _ j _ => N.n - (intOf j).toNat)
  case atStart => exact ⟨0, t, Nat.zero_le _, rfl, rfl, H0.out, Below.refl _ _⟩
  case round =>
    obtain ⟨k, u, hk, rfl, rfl, hu, hW⟩ := hrel
    have hun : (netOf u).n = N.n := hu.2.2.1
    have Hu := Lib.hid hu
    have c1 := sizeOf_yes u wr hu.1 hu.2.1
    rw [hun] at c1
    have C1 := Lib.hid c1
    clear hu c1 hun
    by_cases hlt : k < N.n
    · have hnx := mod_next (set := set) (k := k)
      have cB := fun wx => l1Bit_any set k (by omega) (by omega) wx
      cases hb : set.testBit k
      · rw [hb] at cB
        rw [hb, if_neg (by decide)] at hnx
        have CB := Lib.hid cB
        have Hnx := Lib.hid hnx
        clear cB hnx hb
        go_wp2_with fail
        refine C1.out.mono ?_
        rintro e w2 ⟨hW2, rfl⟩
        go_wp2_with fail
        refine (CB.out _).mono ?_
        rintro e w' ⟨rfl, rfl⟩
        go_wp2_with fail
        go_roundw
        case rel => exact ⟨k + 1, u, by omega, by go_num, rfl, by rw [Hnx.out]; exact Hu.out, hW.trans (hW2.mono hW.size)⟩
        case measure => simp [intOf] <;> omega
      · rw [hb] at cB
        rw [hb, if_pos rfl] at hnx
        have hlk : likeT (netText (turnN (netOf u) (2 ^ k))) (turnN N (set % 2 ^ (k + 1))) := by
          have h1 : (turnN (netOf u) (2 ^ k)).n = N.n := Hu.out.2.2.1
          have h2 := likeT_text (N := turnN (netOf u) (2 ^ k)) (by omega) (by omega)
          rw [hnx]
          exact ⟨h2.1, h2.2.1, h2.2.2.trans (turn_turn Hu.out.2.2 hlt)⟩
        have c3 := Lib.hid (fun wx => turnNetwork_spec u k wx Hu.out.1 Hu.out.2.1 (by rw [Hu.out.2.2.1]; exact hlt))
        have CB := Lib.hid cB
        have Hlk := Lib.hid hlk
        clear cB hnx hb hlk
        go_wp2_with fail
        refine C1.out.mono ?_
        rintro e w2 ⟨hW2, rfl⟩
        go_wp2_with fail
        refine (CB.out _).mono ?_
        rintro e w' ⟨rfl, rfl⟩
        go_wp2_with fail
        refine (c3.out _).mono ?_
        rintro e w3 ⟨hW3, rfl⟩
        have hW12 := hW.trans (hW2.mono hW.size)
        go_wp2_with fail
        go_roundw
        case rel => exact ⟨k + 1, _, by omega, by go_num, rfl, Hlk.out, hW12.trans (hW3.mono hW12.size)⟩
        case measure => simp [intOf] <;> omega
    · obtain rfl : k = N.n := by omega
      go_wp2_with fail
      refine C1.out.mono ?_
      rintro e w2 ⟨hW2, rfl⟩
      go_wp2_with fail
      go_ret
      exact ⟨hW.trans (hW2.mono hW.size), u, rfl, by have := Hu.out; rwa [Hend.out] at this⟩

theorem turnsToMonotone_spec (s : ByteArray) (w : World) (hs : s.size ≤ 1048576) :
    Calls Tryz.prog 16 #[.string s] w fun e w' => Below w.heap.size w w' ∧ e = .returned (.int .i64 (turnsI s)) := by
  have cO := Lib.hid (l3Open_any s w hs)
  have hr : turnsI s = if netOk s then firstI (fun set => monoN (turnN (netOf s) set)) (pw (netOf s).n) else -1 := rfl
  have Hr := Lib.hid hr
  clear hr
  go_enter Tryz.func16, Tryz.ntmps16
  go_wp2_with fail
  refine cO.out.mono ?_
  rintro e w1 ⟨hW1, ⟨hbad, v, rfl⟩ | ⟨hok, b, cap, rfl, hb1, hb2, hat⟩⟩
  · have hr : turnsI s = -1 := by rw [Hr.out, hbad]; rfl
    have Hr2 := Lib.hid hr
    clear hr hbad
    go_wp2_with fail
    go_loopw [5] (fun j wr => j = .int .i64 0 ∧ wr = w1) (fun _ _ => 0)
    case atStart => exact ⟨rfl, rfl⟩
    case round =>
      obtain ⟨rfl, rfl⟩ := hrel
      go_wp2_with fail
      go_ret
      exact ⟨hW1, ret_int Hr2.out.symm⟩
  · have hn := netOf_ok hok
    have hr : turnsI s = firstI (fun set => monoN (turnN (netOf s) set)) (pw (netOf s).n) := by rw [Hr.out, hok]; rfl
    have cT := Lib.hid (fun set wx (h : set < pw (netOf s).n) => l8Turned_any s set wx hs hok h)
    obtain ⟨N, hN⟩ : ∃ N, netOf s = N := ⟨_, rfl⟩
    rw [hN] at hn hr cT ⊢
    have hp := pw_le hn.2
    have Hr2 := Lib.hid hr
    have cA := Lib.hid (fun wx => l3All_any (some ⟨b, 0, none⟩) N.n cap hn.2 wx)
    clear hr hok hat hN
    go_wp2_with fail
    go_loopw [5] (fun j wr => (∃ k : Nat, k ≤ pw N.n ∧ j = .int .i64 k ∧ ∀ t, t < k → monoN (turnN N t) = false) ∧ Below w.heap.size w wr) (fun j _ => pw N.n - (intOf j).toNat)
    case atStart => exact ⟨⟨0, Nat.zero_le _, rfl, fun t h => absurd h (Nat.not_lt_zero _)⟩, hW1⟩
    case round =>
      obtain ⟨⟨k, hk, rfl, hall⟩, hW⟩ := hrel
      have Hall := Lib.hid hall
      clear hall
      by_cases hlt : k < pw N.n
      · have c := Lib.hid (cT.out k wr hlt)
        cases hm : monoN (turnN N k)
        all_goals
          have Hm := Lib.hid hm
          clear hm
          go_wp2_with fail
          refine (cA.out _).mono ?_
          rintro e w' ⟨rfl, rfl⟩
          go_wp2_with fail
          refine c.out.mono ?_
          rintro e w2 ⟨hW2, t', rfl, ht1, ht2, ht3⟩
          have c3 := isMonotone_spec t' w2 ht1
          rw [monoB, ht2, ht3.mono, Hm.out, Bool.true_and] at c3
          have C3 := Lib.hid c3
          clear c3 ht2 ht3
          go_wp2_with fail
          refine C3.out.mono ?_
          rintro e w3 ⟨hW3, rfl⟩
          have hW12 := hW.trans (hW2.mono hW.size)
          have hW13 := hW12.trans (hW3.mono hW12.size)
        · go_wp2_with fail
          go_roundw
          case rel => exact ⟨⟨k + 1, by omega, by go_num, fun t ht => by
              by_cases e : t = k
              · subst e; exact Hm.out
              · exact Hall.out t (by omega)⟩, hW13⟩
          case measure => simp [intOf] <;> omega
        · have hres : turnsI s = k := by rw [Hr2.out]; exact firstI_some hlt Hm.out Hall.out
          have Hres := Lib.hid hres
          clear hres
          go_wp2_with fail
          go_ret
          exact ⟨hW13, ret_int Hres.out.symm⟩
      · obtain rfl : k = pw N.n := by omega
        have hres : turnsI s = -1 := by rw [Hr2.out]; exact firstI_none Hall.out
        have Hres := Lib.hid hres
        clear hres
        go_wp2_with fail
        refine (cA.out _).mono ?_
        rintro e w' ⟨rfl, rfl⟩
        go_wp2_with fail
        go_ret
        exact ⟨hW, ret_int Hres.out.symm⟩
end Go.Proofs.YtkfagolmpbbckaaGreatDoor
