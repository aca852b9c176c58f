/- The program's steps, rising and falling states, monotone networks, influences. -/
import Derived.Test.YtifallippecdmaaGreatDoorNet
namespace Go.Proofs.YtifallippecdmaaGreatDoor
open Go Go.RowKit Go.Sw
set_option maxRecDepth 100000
set_option linter.unusedVariables false


theorem step_any (b cap s : Nat) (N : Net) (hn : N.n ≤ 5) (hs : s < pw N.n) (w : World) (hat : NetAt w b N.n N.f) (hb : b < w.heap.size) :
    Calls Tryz.prog 43 #[.slice (some ⟨b, 0, none⟩) N.n cap, .int .i64 s] w fun e w' => e = .returned (.int .i64 (stepN N s)) ∧ Below w.heap.size w w' := by
  have hp := pw_le hn
  have Hat := Lib.hid hat
  clear hat
  go_enter Tryz.func43, Tryz.ntmps43
  go_wp2_with fail
  go_loopw [5, 10] (fun out i wr => ∃ k : Nat, k ≤ N.n ∧ i = .int .i64 k ∧ out = .int .i64 (ofBits k fun j => N.f j s) ∧ Below w.heap.size w wr) (fun _ i _ => N.n - (intOf i).toNat)
  case atStart => exact ⟨0, Nat.zero_le _, rfl, rfl, Below.refl _ _⟩
  case round =>
    obtain ⟨k, hk, rfl, rfl, hW⟩ := hrel
    by_cases hlt : k < N.n
    · have hr : wr.rangeAt b (k * 33) (tlist N.n (N.f k)) := (Hat.out.below hW hb) k hlt
      have Hr := Lib.hid hr
      clear hr
      have hc : (wr.alloc (.cells (tcells N.n (N.f k)) 54)).cell? ⟨wr.heap.size, 1 + s, none⟩ = some (.int .u8 (b2 (N.f k s))) := by
        rw [cell_of_row _ _ _ _ _ _ (heap_alloc_new _ _)]; exact tcells_bit _ _ _ (by omega)
      have hol := ofBits_lt k fun j => N.f j s
      have hkp := pw_le (show k ≤ 5 by omega)
      have h2k := pow2_le k (by omega)
      have hor := step_or k (fun j => N.f j s) (by omega)
      have hsuc : ofBits (k + 1) (fun j => N.f j s) = ofBits k (fun j => N.f j s) + (N.f k s).toNat * 2 ^ k := rfl
      cases hb2 : N.f k s
      · rw [hb2] at hc hor hsuc
        simp only [b2_false, Bool.toNat_false, Int.zero_mul, Nat.zero_mul, Nat.add_zero] at hc hor hsuc
        have Hsuc := Lib.hid hsuc
        clear hsuc
        go_wp2_with (first | ((with_reducible show wpList _ _ _ (⟨_, .alloc 54, _, _, _, _⟩ :: _) _ _); refine wpList_alloc' rfl _ rfl (tab_alloc _) ?_) | ((with_reducible show wpList _ _ _ (⟨_, .store 54 _ _, _, _, _, _⟩ :: _) _ _); refine wpList_store' rfl _ _ _ rfl rfl rfl (tab_store_new _ _ N.n _ ?_) ?_; simp) | ((with_reducible show wpList _ _ _ (⟨_, .load 54 _, _, _, _, _⟩ :: _) _ _); refine wpList_load' rfl _ _ rfl rfl (tab_load_at _ _ _ N.n (N.f k) Hr.out) ?_))
        go_roundw
        case rel => exact ⟨k + 1, by omega, by go_num, by rw [Hsuc.out] <;> simp, hW.alloc hW.size _⟩
        case measure => simp [intOf] <;> omega
      · rw [hb2] at hc hor hsuc
        simp only [b2_true, Bool.toNat_true, Int.one_mul, Nat.one_mul] at hc hor hsuc
        have Hsuc := Lib.hid hsuc
        clear hsuc
        go_wp2_with (first | ((with_reducible show wpList _ _ _ (⟨_, .alloc 54, _, _, _, _⟩ :: _) _ _); refine wpList_alloc' rfl _ rfl (tab_alloc _) ?_) | ((with_reducible show wpList _ _ _ (⟨_, .store 54 _ _, _, _, _, _⟩ :: _) _ _); refine wpList_store' rfl _ _ _ rfl rfl rfl (tab_store_new _ _ N.n _ ?_) ?_; simp) | ((with_reducible show wpList _ _ _ (⟨_, .load 54 _, _, _, _, _⟩ :: _) _ _); refine wpList_load' rfl _ _ rfl rfl (tab_load_at _ _ _ N.n (N.f k) Hr.out) ?_))
        go_roundw
        case rel => exact ⟨k + 1, by omega, by go_num, by rw [Hsuc.out] <;> simp, hW.alloc hW.size _⟩
        case measure => simp [intOf] <;> omega
    · obtain rfl : k = N.n := by omega
      go_wp2_with fail
      go_ret
      exact ⟨rfl, hW⟩





theorem switchOf_yes (s : ByteArray) (x : Int) (w : World) (hs : s.size ≤ 1048576) (h : swB s x = true) :
    Calls Tryz.prog 21 #[.string s, .int .i64 x] w fun e w' => Below w.heap.size w w' ∧
      ∃ b cap, e = .returned (.tuple #[.slice (some ⟨b, 0, none⟩) (netOf s).n cap, .bool true]) ∧ w.heap.size ≤ b ∧ b < w'.heap.size ∧ NetAt w' b (netOf s).n (netOf s).f := by
  obtain ⟨h1, h2, h3⟩ := swB_yes h
  have hn := (netOf_ok h1).2
  go_enter Tryz.func21, Tryz.ntmps21
  go_wp2_with fail
  refine (readNetwork_any s w hs).mono ?_
  rintro e w1 ⟨hW1, ⟨hbad, rfl⟩ | ⟨hok, b, cap, rfl, hb1, hb2, hat⟩⟩
  · rw [hbad] at h1; exact absurd h1 (by decide)
  · have Hat := Lib.hid hat
    clear hat hok h h1
    go_wp2_with fail
    go_ret2
    exact ⟨hW1, b, cap, rfl, hb1, hb2, Hat.out⟩


theorem switchOf_no (s : ByteArray) (x : Int) (w : World) (hs : s.size ≤ 1048576) (h : swB s x = false) :
    Calls Tryz.prog 21 #[.string s, .int .i64 x] w fun e w' => Below w.heap.size w w' ∧ ∃ v, e = .returned (.tuple #[v, .bool false]) := by
  have H := Lib.hid h
  clear h
  have hb0 := fun (hok : netOk s = true) => swB_no H.out hok
  go_enter Tryz.func21, Tryz.ntmps21
  go_wp2_with fail
  refine (readNetwork_any s w hs).mono ?_
  rintro e w1 ⟨hW1, ⟨hbad, rfl⟩ | ⟨hok, b, cap, rfl, hb1, hb2, hat⟩⟩
  · clear hbad hb0
    go_wp2_with fail
    go_ret2
    exact ⟨hW1, _, rfl⟩
  · have hn := (netOf_ok hok).2
    have h5 := hb0 hok
    clear hat hok hb0
    rcases h5 with h5 | h5
    · go_wp2_with fail
      go_ret2
      exact ⟨hW1, _, rfl⟩
    · have h6 : 0 ≤ x := by omega
      have h7 : decide (x < (((netOf s).n : Nat) : Int)) = false := by simp; omega
      go_wp2_with fail
      go_ret2
      exact ⟨hW1, _, rfl⟩








theorem influence_impl (s : ByteArray) (x y : Int) (w : World) (hs : s.size ≤ 1048576) :
    Calls Tryz.prog 11 #[.string s, .int .i64 x, .int .i64 y] w fun e w' => Below w.heap.size w w' ∧ e = .returned (.string (infT s x y)) := by
  cases h1 : swB s x
  · have hr : infT s x y = ByteArray.empty := by rw [infT, h1]; rfl
    have Hr := Lib.hid hr
    have C := Lib.hid (switchOf_no s x w hs h1)
    clear hr h1
    go_enter Tryz.func11, Tryz.ntmps11
    go_wp2_with fail
    refine C.out.mono ?_
    rintro e w1 ⟨hW1, v, rfl⟩
    go_wp2_with fail
    go_ret
    exact ⟨hW1, by rw [Hr.out]; rfl⟩
  · obtain ⟨hok0, hx0, hx1⟩ := swB_yes h1
    have hn := netOf_ok hok0
    obtain ⟨i, rfl⟩ := Int.eq_ofNat_of_zero_le hx0
    have C := Lib.hid (switchOf_yes s i w hs h1)
    cases h2 : swB s y
    · have hr : infT s i y = ByteArray.empty := by rw [infT, h2, Bool.and_false]; rfl
      have h3 := swB_no h2 hok0
      have Hr := Lib.hid hr
      clear hr h1 h2 hok0
      rcases h3 with h3 | h3
      all_goals
        go_enter Tryz.func11, Tryz.ntmps11
        go_wp2_with fail
        refine C.out.mono ?_
        rintro e w1 ⟨hW1, b, cap, rfl, hb1, hb2, hat⟩
        clear hat
        go_wp2_with fail
        go_ret
        exact ⟨hW1, by rw [Hr.out]; rfl⟩
    · obtain ⟨_, hy0, hy1⟩ := swB_yes h2
      obtain ⟨j, rfl⟩ := Int.eq_ofNat_of_zero_le hy0
      have hr : infT s i j = sgT (sgU (netOf s).n ((netOf s).f j) i) (sgD (netOf s).n ((netOf s).f j) i) := by rw [infT, h1, h2]; rfl
      have Hr := Lib.hid hr
      clear hr h1 h2 hok0
      go_enter Tryz.func11, Tryz.ntmps11
      go_wp2_with fail
      refine C.out.mono ?_
      rintro e w1 ⟨hW1, b, cap, rfl, hb1, hb2, hat⟩
      have Hat := Lib.hid (hat j (by omega))
      clear hat
      go_wp2_with (first | ((with_reducible show wpList _ _ _ (⟨_, .load 54 _, _, _, _, _⟩ :: _) _ _); refine wpList_load' rfl _ _ rfl rfl (tab_load_at _ _ _ (netOf s).n ((netOf s).f j) Hat.out) ?_) | (go_at_call 24; refine (sign_any (netOf s).n ((netOf s).f j) i hn.2 (by omega) _).mono ?_; rintro e w2 ⟨rfl, hW2⟩))
      go_ret
      exact ⟨hW1.trans (hW2.mono hW1.size), by rw [Hr.out]; rfl⟩
end Go.Proofs.YtifallippecdmaaGreatDoor
