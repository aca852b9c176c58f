/- The program's steps, rising and falling states, monotone networks, influences. -/
import Derived.Test.YtkfagolmpbbckaaGreatDoorNet
namespace Go.Proofs.YtkfagolmpbbckaaGreatDoor
open Go Go.RowKit Go.Sw
set_option maxRecDepth 100000
set_option linter.unusedVariables false

theorem states_any (a : Option Addr) (n cap : Nat) (hn : n ≤ 5) (w : World) :
    Calls Tryz.prog 51 #[.slice a n cap] w fun e w' => e = .returned (.int .i64 (pw n)) ∧ w = w' := by
  have h2 := pow2_le n hn
  go_enter Tryz.func51, Tryz.ntmps51
  go_wp2
  go_ret
  exact ⟨ret_int (pw_cast n), rfl⟩

theorem step_any (b cap s : Nat) (N : Net) (hn : N.n ≤ 5) (hs : s < pw N.n) (w : World) (hat : NetAt w b N.n N.f) (hb : b < w.heap.size) :
    Calls Tryz.prog 61 #[.slice (some ⟨b, 0, none⟩) N.n cap, .int .i64 s] w fun e w' => e = .returned (.int .i64 (stepN N s)) ∧ Below w.heap.size w w' := by
  have hp := pw_le hn
  have Hat := Lib.hid hat
  clear hat
  go_enter Tryz.func61, Tryz.ntmps61
  go_wp2_with fail
  go_loopw [5, 10] (fun out i wr => ∃ k : Nat, k ≤ N.n ∧ i = .int .i64 k ∧ out = .int .i64 (ofBits k fun j => N.f j s) ∧ Below w.heap.size w wr) (fun _ i _ => N.n - (intOf i).toNat)
  case atStart => exact ⟨0, Nat.zero_le _, rfl, rfl, Below.refl _ _⟩
  case round =>
    obtain ⟨k, hk, rfl, rfl, hW⟩ := hrel
    by_cases hlt : k < N.n
    · have hr : wr.rangeAt b (k * 33) (tlist N.n (N.f k)) := (Hat.out.below hW hb) k hlt
      have Hr := Lib.hid hr
      clear hr
      have hc : (wr.alloc (.cells (tcells N.n (N.f k)) 86)).cell? ⟨wr.heap.size, 1 + s, none⟩ = some (.int .u8 (b2 (N.f k s))) := by
        rw [cell_of_row _ _ _ _ _ _ (heap_alloc_new _ _)]; exact tcells_bit _ _ _ (by omega)
      have hol := ofBits_lt k fun j => N.f j s
      have hkp := pw_le (show k ≤ 5 by omega)
      have h2k := pow2_le k (by omega)
      have hor := step_or k (fun j => N.f j s) (by omega)
      have hsuc : ofBits (k + 1) (fun j => N.f j s) = ofBits k (fun j => N.f j s) + (N.f k s).toNat * 2 ^ k := rfl
      cases hb2 : N.f k s
      · rw [hb2] at hc hor hsuc
        simp only [b2_false, Bool.toNat_false, Int.zero_mul, Nat.zero_mul, Nat.add_zero] at hc hor hsuc
        have Hsuc := Lib.hid hsuc
        clear hsuc
        go_wp2_with (first | ((with_reducible show wpList _ _ _ (⟨_, .alloc 86, _, _, _, _⟩ :: _) _ _); refine wpList_alloc' rfl _ rfl (tab_alloc _) ?_) | ((with_reducible show wpList _ _ _ (⟨_, .store 86 _ _, _, _, _, _⟩ :: _) _ _); refine wpList_store' rfl _ _ _ rfl rfl rfl (tab_store_new _ _ N.n _ ?_) ?_; simp) | ((with_reducible show wpList _ _ _ (⟨_, .load 86 _, _, _, _, _⟩ :: _) _ _); refine wpList_load' rfl _ _ rfl rfl (tab_load_at _ _ _ N.n (N.f k) Hr.out) ?_))
        go_roundw
        case rel => exact ⟨k + 1, by omega, by go_num, by rw [Hsuc.out] <;> simp, hW.alloc hW.size _⟩
        case measure => simp [intOf] <;> omega
      · rw [hb2] at hc hor hsuc
        simp only [b2_true, Bool.toNat_true, Int.one_mul, Nat.one_mul] at hc hor hsuc
        have Hsuc := Lib.hid hsuc
        clear hsuc
        go_wp2_with (first | ((with_reducible show wpList _ _ _ (⟨_, .alloc 86, _, _, _, _⟩ :: _) _ _); refine wpList_alloc' rfl _ rfl (tab_alloc _) ?_) | ((with_reducible show wpList _ _ _ (⟨_, .store 86 _ _, _, _, _, _⟩ :: _) _ _); refine wpList_store' rfl _ _ _ rfl rfl rfl (tab_store_new _ _ N.n _ ?_) ?_; simp) | ((with_reducible show wpList _ _ _ (⟨_, .load 86 _, _, _, _, _⟩ :: _) _ _); refine wpList_load' rfl _ _ rfl rfl (tab_load_at _ _ _ N.n (N.f k) Hr.out) ?_))
        go_roundw
        case rel => exact ⟨k + 1, by omega, by go_num, by rw [Hsuc.out] <;> simp, hW.alloc hW.size _⟩
        case measure => simp [intOf] <;> omega
    · obtain rfl : k = N.n := by omega
      go_wp2_with fail
      go_ret
      exact ⟨rfl, hW⟩

theorem stateOf_yes (s : ByteArray) (x : Int) (w : World) (hs : s.size ≤ 1048576) (h : stB s x = true) :
    Calls Tryz.prog 60 #[.string s, .int .i64 x] w fun e w' => Below w.heap.size w w' ∧
      ∃ b cap, e = .returned (.tuple #[.slice (some ⟨b, 0, none⟩) (netOf s).n cap, .bool true]) ∧ w.heap.size ≤ b ∧ b < w'.heap.size ∧ NetAt w' b (netOf s).n (netOf s).f := by
  obtain ⟨h1, h2, h3⟩ := stB_yes h
  have hn := (netOf_ok h1).2
  have h4 := pw_le hn
  go_enter Tryz.func60, Tryz.ntmps60
  go_wp2_with fail
  refine (readNetwork_any s w hs).mono ?_
  rintro e w1 ⟨hW1, ⟨hbad, rfl⟩ | ⟨hok, b, cap, rfl, hb1, hb2, hat⟩⟩
  · rw [hbad] at h1; exact absurd h1 (by decide)
  · have Hat := Lib.hid hat
    clear hat hok h h1
    go_wp2_with (go_at_call 51; refine (states_any _ _ _ hn _).mono ?_; rintro e w' ⟨rfl, rfl⟩)
    go_ret2
    exact ⟨hW1, b, cap, rfl, hb1, hb2, Hat.out⟩


theorem stateOf_no (s : ByteArray) (x : Int) (w : World) (hs : s.size ≤ 1048576) (h : stB s x = false) :
    Calls Tryz.prog 60 #[.string s, .int .i64 x] w fun e w' => Below w.heap.size w w' ∧ ∃ v, e = .returned (.tuple #[v, .bool false]) := by
  have H := Lib.hid h
  clear h
  have hb0 := fun (hok : netOk s = true) => stB_no H.out hok
  go_enter Tryz.func60, Tryz.ntmps60
  go_wp2_with fail
  refine (readNetwork_any s w hs).mono ?_
  rintro e w1 ⟨hW1, ⟨hbad, rfl⟩ | ⟨hok, b, cap, rfl, hb1, hb2, hat⟩⟩
  · clear hbad hb0
    go_wp2_with fail
    go_ret2
    exact ⟨hW1, _, rfl⟩
  · have hn := (netOf_ok hok).2
    have h4 := pw_le hn
    have h5 := hb0 hok
    clear hat hok hb0
    rcases h5 with h5 | h5
    · go_wp2_with (go_at_call 51; refine (states_any _ _ _ hn _).mono ?_; rintro e w' ⟨rfl, rfl⟩)
      go_ret2
      exact ⟨hW1, _, rfl⟩
    · have h6 : 0 ≤ x := by omega
      have h7 : decide (x < ((pw (netOf s).n : Nat) : Int)) = false := by simp; omega
      go_wp2_with (go_at_call 51; refine (states_any _ _ _ hn _).mono ?_; rintro e w' ⟨rfl, rfl⟩)
      go_ret2
      exact ⟨hW1, _, rfl⟩


theorem switchOf_yes (s : ByteArray) (x : Int) (w : World) (hs : s.size ≤ 1048576) (h : swB s x = true) :
    Calls Tryz.prog 57 #[.string s, .int .i64 x] w fun e w' => Below w.heap.size w w' ∧
      ∃ b cap, e = .returned (.tuple #[.slice (some ⟨b, 0, none⟩) (netOf s).n cap, .bool true]) ∧ w.heap.size ≤ b ∧ b < w'.heap.size ∧ NetAt w' b (netOf s).n (netOf s).f := by
  obtain ⟨h1, h2, h3⟩ := swB_yes h
  have hn := (netOf_ok h1).2
  go_enter Tryz.func57, Tryz.ntmps57
  go_wp2_with fail
  refine (readNetwork_any s w hs).mono ?_
  rintro e w1 ⟨hW1, ⟨hbad, rfl⟩ | ⟨hok, b, cap, rfl, hb1, hb2, hat⟩⟩
  · rw [hbad] at h1; exact absurd h1 (by decide)
  · have Hat := Lib.hid hat
    clear hat hok h h1
    go_wp2_with fail
    go_ret2
    exact ⟨hW1, b, cap, rfl, hb1, hb2, Hat.out⟩


theorem switchOf_no (s : ByteArray) (x : Int) (w : World) (hs : s.size ≤ 1048576) (h : swB s x = false) :
    Calls Tryz.prog 57 #[.string s, .int .i64 x] w fun e w' => Below w.heap.size w w' ∧ ∃ v, e = .returned (.tuple #[v, .bool false]) := by
  have H := Lib.hid h
  clear h
  have hb0 := fun (hok : netOk s = true) => swB_no H.out hok
  go_enter Tryz.func57, Tryz.ntmps57
  go_wp2_with fail
  refine (readNetwork_any s w hs).mono ?_
  rintro e w1 ⟨hW1, ⟨hbad, rfl⟩ | ⟨hok, b, cap, rfl, hb1, hb2, hat⟩⟩
  · clear hbad hb0
    go_wp2_with fail
    go_ret2
    exact ⟨hW1, _, rfl⟩
  · have hn := (netOf_ok hok).2
    have h5 := hb0 hok
    clear hat hok hb0
    rcases h5 with h5 | h5
    · go_wp2_with fail
      go_ret2
      exact ⟨hW1, _, rfl⟩
    · have h6 : 0 ≤ x := by omega
      have h7 : decide (x < (((netOf s).n : Nat) : Int)) = false := by simp; omega
      go_wp2_with fail
      go_ret2
      exact ⟨hW1, _, rfl⟩


theorem below_any (s t : Nat) (hs : s < 2 ^ 60) (ht : t < 2 ^ 60) (w : World) :
    Calls Tryz.prog 138 #[.int .i64 s, .int .i64 t] w fun e w' => e = .returned (.bool (leB s t)) ∧ w = w' := by
  have hx := i64_andNot s t (by omega) (by omega)
  have hz := andNot_zero s t
  go_enter Tryz.func138, Tryz.ntmps138
  go_wp2
  go_ret
  exact ⟨rfl, rfl⟩



theorem isRising_impl (s : ByteArray) (x : Int) (w : World) (hs : s.size ≤ 1048576) :
    Calls Tryz.prog 104 #[.string s, .int .i64 x] w fun e w' => Below w.heap.size w w' ∧ e = .returned (.bool (riseB s x)) := by
  cases h : stB s x
  · have hr : riseB s x = false := by rw [riseB, h]; rfl
    have Hr := Lib.hid hr
    clear hr
    go_enter Tryz.func104, Tryz.ntmps104
    go_wp2_with fail
    refine (stateOf_no s x w hs h).mono ?_
    rintro e w1 ⟨hW1, v, rfl⟩
    clear h
    go_wp2_with fail
    go_ret
    exact ⟨hW1, by rw [Hr.out]; rfl⟩
  · obtain ⟨h1, h2, h3⟩ := stB_yes h
    have hn := (netOf_ok h1).2
    have h4 := pw_le hn
    obtain ⟨k, rfl⟩ := Int.eq_ofNat_of_zero_le h2
    have hr : riseB s k = leB k (stepN (netOf s) k) := by rw [riseB, h]; rfl
    have Hr := Lib.hid hr
    have hlt := stepN_lt (netOf s) k
    clear hr
    go_enter Tryz.func104, Tryz.ntmps104
    go_wp2_with fail
    refine (stateOf_yes s k w hs h).mono ?_
    rintro e w1 ⟨hW1, b, cap, rfl, hb1, hb2, hat⟩
    have Hat := Lib.hid hat
    clear hat h h1
    go_wp2_with (first | (go_at_call 61; refine (step_any b cap k (netOf s) hn (by omega) _ Hat.out hb2).mono ?_; rintro e w2 ⟨rfl, hW2⟩) | (go_at_call 138; refine (below_any _ _ (by omega) (by omega) _).mono ?_; rintro e w' ⟨rfl, rfl⟩))
    go_ret
    exact ⟨hW1.trans (hW2.mono hW1.size), by rw [Hr.out]; rfl⟩

theorem monotone_any (b cap : Nat) (N : Net) (hn : N.n ≤ 5) (w : World) (hat : NetAt w b N.n N.f) (hb : b < w.heap.size) :
    Calls Tryz.prog 53 #[.slice (some ⟨b, 0, none⟩) N.n cap] w fun e w' => e = .returned (.bool (monoN N)) ∧ Below w.heap.size w w' := by
  have Hat := Lib.hid hat
  clear hat
  go_enter Tryz.func53, Tryz.ntmps53
  go_wp2_with fail
  go_loopw [9] (fun j wr => (∃ k : Nat, k ≤ N.n ∧ j = .int .i64 k ∧ ∀ j' i', i' < k → j' < N.n → sgD N.n (N.f i') j' = false) ∧ Below w.heap.size w wr) (fun j _ => N.n - (intOf j).toNat)
  case atStart => exact ⟨⟨0, Nat.zero_le _, rfl, fun j' i' h => absurd h (Nat.not_lt_zero _)⟩, Below.refl _ _⟩
  case round =>
    obtain ⟨⟨k, hk, rfl, hall⟩, hW⟩ := hrel
    have Hall := Lib.hid hall
    clear hall
    by_cases hlt : k < N.n
    · have hr : wr.rangeAt b (k * 33) (tlist N.n (N.f k)) := (Hat.out.below hW hb) k hlt
      have Hr := Lib.hid hr
      clear hr
      obtain ⟨wo, rfl⟩ : ∃ wo : World, wo = wr := ⟨_, rfl⟩
      go_wp2_with (first | ((with_reducible show wpList _ _ _ (⟨_, .alloc 86, _, _, _, _⟩ :: _) _ _); refine wpList_alloc' rfl _ rfl (tab_alloc _) ?_) | ((with_reducible show wpList _ _ _ (⟨_, .store 86 _ _, _, _, _, _⟩ :: _) _ _); refine wpList_store' rfl _ _ _ rfl rfl rfl (tab_store_new _ _ N.n _ ?_) ?_; simp) | ((with_reducible show wpList _ _ _ (⟨_, .load 86 _, _, _, _, _⟩ :: _) _ _); refine wpList_load' rfl _ _ rfl rfl (tab_load_at _ _ _ N.n (N.f k) Hr.out) ?_))
      go_loopw [15] (fun i wr => (∃ m : Nat, m ≤ N.n ∧ i = .int .i64 m ∧ ∀ j', j' < m → sgD N.n (N.f k) j' = false) ∧ wr.heap[wo.heap.size]? = some (.cells (tcells N.n (N.f k)) 86 (0, 0)) ∧ Below w.heap.size w wr) (fun i _ => N.n - (intOf i).toNat)
      case atStart => exact ⟨⟨0, Nat.zero_le _, rfl, fun j' h => absurd h (Nat.not_lt_zero _)⟩, heap_alloc_new _ _, hW.alloc hW.size _⟩
      case round =>
        obtain ⟨⟨m, hm, rfl, hin⟩, hT, hW2⟩ := hrel
        have Hin := Lib.hid hin
        have HT := Lib.hid hT
        clear hin hT
        by_cases hlt2 : m < N.n
        · cases hu : sgU N.n (N.f k) m <;> cases hd : sgD N.n (N.f k) m
          case' false.false => have hs : sgT false false = ⟨#[48]⟩ := rfl
          case' true.false => have hs : sgT true false = ⟨#[43]⟩ := rfl
          case' false.true => have hs : sgT false true = ⟨#[45]⟩ := rfl
          case' true.true => have hs : sgT true true = ⟨#[42]⟩ := rfl
          all_goals
            have c := fun W => sign_any N.n (N.f k) m hn hlt2 W
            rw [hu, hd] at c
            have C := Lib.hid c
            have Hd := Lib.hid hd
            clear c hd hu
            go_wp2_with (first | ((with_reducible show wpList _ _ _ (⟨_, .load 86 _, _, _, _, _⟩ :: _) _ _); refine wpList_load' rfl _ _ rfl rfl (tab_load_at _ _ _ N.n (N.f k) (range_of_heap HT.out)) ?_) | (go_at_call 96; refine (C.out _).mono ?_; rintro e w1 ⟨rfl, hb1⟩))
          all_goals first
            | (go_ret; exact ⟨by rw [monoN_bad hlt2 hlt Hd.out]; rfl, hW2.trans (hb1.mono hW2.size)⟩)
            | exact ⟨⟨⟨m + 1, by omega, by go_num, fun j' h => by
                  by_cases e : j' = m
                  · subst e; exact Hd.out
                  · exact Hin.out j' (by omega)⟩, (hb1.block _ (block_lt HT.out)).trans HT.out, hW2.trans (hb1.mono hW2.size)⟩, by simp [intOf] <;> omega⟩
        · go_wp2_with fail
          go_roundw
          case rel => exact ⟨⟨k + 1, by omega, by go_num, fun j' i' h h' => by
                by_cases e : i' = k
                · subst e; exact Hin.out j' (by omega)
                · exact Hall.out j' i' (by omega) h'⟩, hW2⟩
          case measure => simp [intOf] <;> omega
    · have hok : monoN N = true := (monoN_iff N).2 fun j' i' h h' => Hall.out j' i' (by omega) h
      have Hok := Lib.hid hok
      clear hok
      go_wp2_with fail
      go_ret
      exact ⟨by rw [Hok.out]; rfl, hW⟩

theorem isMonotone_impl (s : ByteArray) (w : World) (hs : s.size ≤ 1048576) :
    Calls Tryz.prog 17 #[.string s] w fun e w' => Below w.heap.size w w' ∧ e = .returned (.bool (monoB s)) := by
  go_enter Tryz.func17, Tryz.ntmps17
  go_wp2_with fail
  refine (readNetwork_any s w hs).mono ?_
  rintro e w1 ⟨hW1, ⟨hbad, rfl⟩ | ⟨hok, b, cap, rfl, hb1, hb2, hat⟩⟩
  · have hr : monoB s = false := by rw [monoB, hbad]; rfl
    have Hr := Lib.hid hr
    clear hr hbad
    go_wp2_with fail
    go_ret
    exact ⟨hW1, by rw [Hr.out]; rfl⟩
  · have hn := netOf_ok hok
    have hr : monoB s = monoN (netOf s) := by rw [monoB, hok]; rfl
    have Hr := Lib.hid hr
    have C := Lib.hid (monotone_any b cap (netOf s) hn.2 w1 hat hb2)
    clear hat hok hr
    go_wp2_with (go_at_call 53; refine C.out.mono ?_; rintro e w2 ⟨rfl, hW2⟩)
    go_ret
    exact ⟨hW1.trans (hW2.mono hW1.size), by rw [Hr.out]; rfl⟩

end Go.Proofs.YtkfagolmpbbckaaGreatDoor
