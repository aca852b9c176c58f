/- The program's arrows. -/
import Derived.Test.YtkfagolmpbbckaaDoorImplA
import Derived.Test.YtkfagolmpbbckaaDoorSx
import Derived.Test.YtkfagolmpbbckaaDoorAr
import Derived.Test.YtkfagolmpbbckaaDoorShelf
namespace Go.Proofs.YtkfagolmpbbckaaDoor
open Go Go.RowKit Go.Sw
set_option maxRecDepth 100000
set_option linter.unusedVariables false

/-- the text of a digit, as the library writes it -/
def itoT (d : Nat) : ByteArray := bs [UInt8.ofNat (48 + d)]
theorem itoa_any (i : Nat) (hi : i < 10) (w : World) :
    Calls Tryd.prog 88 #[.int .i64 i] w fun e w' => e = .returned (.string (itoT i)) ∧ w' = w := by
  have hd : (⟨(Lib.decDigits i).toArray⟩ : ByteArray) = itoT i := by
    have : i = 0 ∨ i = 1 ∨ i = 2 ∨ i = 3 ∨ i = 4 ∨ i = 5 ∨ i = 6 ∨ i = 7 ∨ i = 8 ∨ i = 9 := by omega
    rcases this with rfl | rfl | rfl | rfl | rfl | rfl | rfl | rfl | rfl | rfl <;> (apply ba_ext; decide +kernel)
  have c := Lib.hid (fun wx => Tryd.internal_strconv_Itoa_small i (by omega) wx)
  rw [hd] at c
  go_enter Tryd.func88, Tryd.ntmps88
  go_wp2_with fail
  refine (c.out _).mono ?_
  rintro e w' ⟨rfl, rfl⟩
  go_wp2_with fail
  go_ret
  exact ⟨rfl, rfl⟩
theorem arrT_join (N : Net) (i k : Nat) : ((itoT i ++ (⟨#[62]⟩ : ByteArray)) ++ itoT k) ++ (⟨#[signT (edgeC N i k)]⟩ : ByteArray) = arrT N i k := by
  apply ba_ext
  simp [itoT, arrT, ByteArray.data_append, bs_data]
theorem sign_zero (c : Nat) (h : c ≤ 3) : ((⟨#[signT c]⟩ : ByteArray).toList == [48]) = !decide (0 < c) := by
  have : c = 0 ∨ c = 1 ∨ c = 2 ∨ c = 3 := by omega
  rw [ByteArray.toList_eq]
  rcases this with rfl | rfl | rfl | rfl <;> decide
set_option maxHeartbeats 1000000 in
theorem arrowsOf_impl (t : ByteArray) (w : World) (hs : t.size ≤ 1048576) :
    Calls Tryd.prog 39 #[.string t] w fun e w' => Below w.heap.size w w' ∧ ∃ a cap, e = .returned (.slice a (arrowsL t).length cap) ∧ TextsAt w' w.heap.size a (arrowsL t) := by
  have cR := Lib.hid (readNetwork_any t w hs)
  cases hok0 : netOk t
  · have hr : arrowsL t = [] := by rw [arrowsL, hok0]; rfl
    rw [hr]
    have Hok := Lib.hid hok0
    have C := Lib.hid (fun wx => clips_any none 0 0 (fun h => absurd h (Nat.lt_irrefl _)) (Nat.le_refl _) (by omega) wx)
    clear hr hok0
    go_enter Tryd.func39, Tryd.ntmps39
    go_wp2_with fail
    refine cR.out.mono ?_
    rintro e w1 ⟨hW1, ⟨hbad, rfl⟩ | ⟨hok, b, cap, rfl, hb1, hb2, hat⟩⟩
    · clear hbad
      go_wp2_with fail
      go_loopw [5, 6] (fun out i wr => out = .slice none 0 0 ∧ i = .int .i64 0 ∧ wr = w1) (fun _ _ _ => 0)
      case atStart => exact ⟨rfl, rfl, rfl⟩
      case round =>
        obtain ⟨rfl, rfl, rfl⟩ := hrel
        go_wp2_with fail
        refine (C.out _).mono ?_
        rintro e w' ⟨rfl, rfl⟩
        go_wp2_with fail
        go_ret
        exact ⟨hW1, none, 0, rfl, textsAt_nil _ _ _⟩
    · rw [Hok.out] at hok; cases hok
  · have hn := netOf_ok hok0
    have hr : arrowsL t = arrL (netOf t) (netOf t).n := by rw [arrowsL, hok0]; rfl
    obtain ⟨N, hN⟩ : ∃ N, netOf t = N := ⟨_, rfl⟩
    rw [hN] at hr hn cR
    rw [hr]
    have Hok := Lib.hid hok0
    clear hr hok0 hN
    go_enter Tryd.func39, Tryd.ntmps39
    go_wp2_with fail
    refine cR.out.mono ?_
    rintro e w1 ⟨hW1, ⟨hbad, rfl⟩ | ⟨hok, b, cap, rfl, hb1, hb2, hat⟩⟩
    · rw [Hok.out] at hbad; cases hbad
    have Hat := Lib.hid hat
    clear hat hok
    go_wp2_with fail
    go_loopw [5, 6, 7, 8, 9, 24, 25, 26] (fun out i _ _ _ _ _ _ wr => ∃ k : Nat, k ≤ N.n ∧ i = .int .i64 k ∧ wr.ownsRow w1.heap.size 9 1 out (arrL N k).length (texts (arrL N k)) ∧ Below w1.heap.size w1 wr) (fun _ i _ _ _ _ _ _ _ => N.n - (intOf i).toNat)
    case atStart => exact ⟨0, Nat.zero_le _, rfl, World.ownsRow_nil _ _ _ _, Below.refl _ _⟩
    case round =>
      obtain ⟨i, hi, rfl, hown, hW⟩ := hrel
      have Hown := Lib.hid hown
      have hl1 := arrL_length hn.2 i
      clear hown
      by_cases hlt : i < N.n
      · obtain ⟨wo, rfl⟩ : ∃ wo : World, wo = wr := ⟨_, rfl⟩
        go_wp2_with fail
        go_loopw [5, 7, 8, 9, 26] (fun out _ _ _ j wr => ∃ k : Nat, k ≤ N.n ∧ j = .int .i64 k ∧ wr.ownsRow w1.heap.size 9 1 out (partA N i k).length (texts (partA N i k)) ∧ Below w1.heap.size w1 wr) (fun _ _ _ _ j _ => N.n - (intOf j).toNat)
        case atStart => exact ⟨0, Nat.zero_le _, rfl, by
          rw [partA_zero]; exact Hown.out, hW⟩
        case round =>
          obtain ⟨k, hk, rfl, hown2, hW2⟩ := hrel
          have Hown2 := Lib.hid hown2
          have hl2 := partA_length hn.2 i k
          have hlen : (partA N i k).length ≤ 30 := by omega
          have hWs := hW2.size
          clear hown2 hl2
          by_cases hlt2 : k < N.n
          · have hr : wr.rangeAt b (k * 33) (tlist N.n (N.f k)) := (Hat.out.below hW2 hb2) k hlt2
            have Hr := Lib.hid hr
            have c := fun W => sign_any N.n (N.f k) i hn.2 hlt W
            rw [sgT_code] at c
            have hz := sign_zero (edgeC N i k) (edgeC_le N i k)
            have Hyes := Lib.hid (fun h : 0 < edgeC N i k => show partA N i (k + 1) = (partA N i k) ++ [((itoT i ++ (⟨#[62]⟩ : ByteArray)) ++ itoT k) ++ (⟨#[signT (edgeC N i k)]⟩ : ByteArray)] by rw [arrT_join, partA_yes h])
            have Hno := Lib.hid (fun h : edgeC N i k = 0 => show partA N i (k + 1) = partA N i k by rw [partA_no h])
            have hs1 : (⟨#[signT (edgeC N i k)]⟩ : ByteArray).size = 1 := rfl
            have hs2 : (itoT i).size = 1 := rfl
            have hs3 : (itoT k).size = 1 := rfl
            have cI := Lib.hid (fun wx => itoa_any i (by omega) wx)
            have cK := Lib.hid (fun wx => itoa_any k (by omega) wx)
            obtain ⟨z, hz0⟩ : ∃ z, edgeC N i k = z := ⟨_, rfl⟩
            rw [hz0] at c hz Hyes Hno hs1
            obtain ⟨sT, hsT⟩ : ∃ sT, (⟨#[signT z]⟩ : ByteArray) = sT := ⟨_, rfl⟩
            rw [hsT] at c hz Hyes hs1
            obtain ⟨tI, htI⟩ : ∃ tI, itoT i = tI := ⟨_, rfl⟩
            rw [htI] at cI Hyes hs2
            obtain ⟨tK, htK⟩ : ∃ tK, itoT k = tK := ⟨_, rfl⟩
            rw [htK] at cK Hyes hs3
            have hs1' : sT.size ≤ 1 := by omega
            have hs2' : tI.size ≤ 1 := by omega
            have hs3' : tK.size ≤ 1 := by omega
            have C := Lib.hid c
            clear c hr hz0 hsT htI htK hs1 hs2 hs3
            by_cases h0 : 0 < z
            · rw [decide_eq_true h0, Bool.not_true] at hz
              have Hx := Lib.hid (Hyes.out h0)
              clear h0 Hno Hyes
              go_wp2_with (first | ((with_reducible show wpList _ _ _ (⟨_, .alloc 79, _, _, _, _⟩ :: _) _ _); refine wpList_alloc' rfl _ rfl (tab_alloc _) ?_) | ((with_reducible show wpList _ _ _ (⟨_, .store 79 _ _, _, _, _, _⟩ :: _) _ _); refine wpList_store' rfl _ _ _ rfl rfl rfl (tab_store_new _ _ N.n _ ?_) ?_; simp) | ((with_reducible show wpList _ _ _ (⟨_, .load 79 _, _, _, _, _⟩ :: _) _ _); refine wpList_load' rfl _ _ rfl rfl (tab_load_at _ _ _ N.n (N.f k) (range_new ?_)) ?_; simp) | ((with_reducible show wpList _ _ _ (⟨_, .load 79 _, _, _, _, _⟩ :: _) _ _); refine wpList_load' rfl _ _ rfl rfl (tab_load_at _ _ _ N.n (N.f k) Hr.out) ?_))
              refine (C.out _).mono ?_
              rintro e w3 ⟨rfl, hb3⟩
              have hW3 : Below wr.heap.size wr w3 := ((Below.refl _ _).alloc (Nat.le_refl _) _).trans (hb3.mono (by simp))
              have Hown3 := Lib.hid (own_below Hown2.out hW3)
              have hW13 := hW2.trans (hW3.mono hWs)
              have hs13 := hW13.size
              go_wp2_with fail
              refine (cI.out _).mono ?_
              rintro e w' ⟨rfl, rfl⟩
              go_wp2_with fail
              refine (cK.out _).mono ?_
              rintro e w' ⟨rfl, rfl⟩
              go_wp2_with (first | ((with_reducible show wpList _ _ _ (⟨_, .buildSlice 41 1 _, _, _, _, _⟩ :: _) _ _); refine wpList_buildSlice' rfl _ _ _ rfl rfl (str_one _ _) ?_) | (at_builtin; refine wpList_text_appendK rfl _ _ rfl w1.heap.size _ (partA N i k) rfl ((Hown3.out.alloc _)) _ _ rfl (cell_new ?_) (by omega) (hW13.alloc (by omega) _) ?_ ?_ ?_))
              · rfl
              · exact Nat.le_refl _
              · first | omega | (simp; omega)
              · intro v' w4 hown4 hB4 _
                have hown5 : w4.ownsRow w1.heap.size 9 1 v' (partA N i (k + 1)).length (texts (partA N i (k + 1))) := by
                  rw [Hx.out, List.length_append]; exact hown4
                have Hown4 := Lib.hid hown5
                have HB4 := Lib.hid hB4
                clear hown4 hown5 hB4
                go_wp2_with fail
                go_roundw
                case rel => exact ⟨k + 1, by omega, by go_num, Hown4.out, HB4.out⟩
                case measure => simp [intOf] <;> omega
            · rw [decide_eq_false h0, Bool.not_false] at hz
              have Hx := Lib.hid (Hno.out (by omega))
              clear h0 Hno Hyes
              go_wp2_with (first | ((with_reducible show wpList _ _ _ (⟨_, .alloc 79, _, _, _, _⟩ :: _) _ _); refine wpList_alloc' rfl _ rfl (tab_alloc _) ?_) | ((with_reducible show wpList _ _ _ (⟨_, .store 79 _ _, _, _, _, _⟩ :: _) _ _); refine wpList_store' rfl _ _ _ rfl rfl rfl (tab_store_new _ _ N.n _ ?_) ?_; simp) | ((with_reducible show wpList _ _ _ (⟨_, .load 79 _, _, _, _, _⟩ :: _) _ _); refine wpList_load' rfl _ _ rfl rfl (tab_load_at _ _ _ N.n (N.f k) (range_new ?_)) ?_; simp) | ((with_reducible show wpList _ _ _ (⟨_, .load 79 _, _, _, _, _⟩ :: _) _ _); refine wpList_load' rfl _ _ rfl rfl (tab_load_at _ _ _ N.n (N.f k) Hr.out) ?_))
              refine (C.out _).mono ?_
              rintro e w3 ⟨rfl, hb3⟩
              have hW3 : Below wr.heap.size wr w3 := ((Below.refl _ _).alloc (Nat.le_refl _) _).trans (hb3.mono (by simp))
              have Hown3 := Lib.hid (own_below Hown2.out hW3)
              have hW13 := hW2.trans (hW3.mono hWs)
              go_wp2_with fail
              go_roundw
              case rel => exact ⟨k + 1, by omega, by go_num, by rw [Hx.out]; exact Hown3.out, hW13⟩
              case measure => simp [intOf] <;> omega
          · obtain rfl : k = N.n := by omega
            have Hx := Lib.hid (show arrL N (i + 1) = partA N i N.n from rfl)
            go_wp2_with fail
            go_roundw
            case rel => exact ⟨i + 1, by omega, by go_num, by rw [Hx.out]; exact Hown2.out, hW2⟩
            case measure => simp [intOf] <;> omega
      · obtain rfl : i = N.n := by omega
        obtain ⟨a, cp, rfl, hcp, hI⟩ := textsAt_of_own Hown.out
        have hI' := Lib.hid (hI.mono hW1.size)
        have ha : 0 < (arrL N N.n).length → ∃ g, a = some ⟨g, 0, none⟩ := fun h0 => by
          obtain ⟨g, _, _, h1, _⟩ := hI.at' h0
          exact ⟨g, h1⟩
        have C := Lib.hid (fun wx => clips_any a (arrL N N.n).length cp ha hcp (by omega) wx)
        clear hI ha
        go_wp2_with fail
        refine (C.out _).mono ?_
        rintro e w' ⟨rfl, rfl⟩
        go_wp2_with fail
        go_ret
        exact ⟨hW1.trans (hW.mono hW1.size), a, _, rfl, hI'.out⟩
end Go.Proofs.YtkfagolmpbbckaaDoor
