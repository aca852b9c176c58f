/- The program's turned networks; which switches to turn. -/
import Derived.Test.YtkfagolmpbbckaaGreatDoorImplT
namespace Go.Proofs.YtkfagolmpbbckaaGreatDoor
open Go Go.RowKit Go.Sw
set_option maxRecDepth 100000
set_option linter.unusedVariables false

theorem turned_any (b cap set : Nat) (N : Net) (h1 : 1 ≤ N.n) (hn : N.n ≤ 5) (hset : set < pw N.n) (w : World) (hat : NetAt w b N.n N.f) (hb : b < w.heap.size) :
    Calls Tryz.prog 52 #[.slice (some ⟨b, 0, none⟩) N.n cap, .int .i64 set] w fun e w' => Below w.heap.size w w' ∧
      ∃ b' c', e = .returned (.slice (some ⟨b', 0, none⟩) N.n c') ∧ w.heap.size ≤ b' ∧ b' < w'.heap.size ∧ NetAt w' b' N.n (stepF N.n fun s => stepN N (s ^^^ set) ^^^ set) := by
  have hp := pw_le hn
  have C := Lib.hid (fun (W : World) (hW : Below w.heap.size w W) (hsz : w.heap.size + 1 < W.heap.size) (c1 : W.cell? ⟨w.heap.size, 0, none⟩ = some (.slice (some ⟨b, 0, none⟩) N.n cap)) (c2 : W.cell? ⟨w.heap.size + 1, 0, none⟩ = some (.int .i64 set)) =>
    fromStep_any N.n h1 hn 95 #[.pointer (some ⟨w.heap.size, 0, none⟩), .pointer (some ⟨w.heap.size + 1, 0, none⟩)] (fun s => stepN N (s ^^^ set) ^^^ set)
      (fun s hs => by have := xor_lt (stepN_lt N (s ^^^ set)) hset; omega) W (enters_fn Tryz.func95 (by kernel_rfl) rfl)
      (fun s wx hs hx => (turned1_any s set b cap w.heap.size (w.heap.size + 1) N hn hs hset wx ((hat.below hW hb).below hx (by omega)) (by have := hx.size; omega)
        (by rw [hx.cell (by show w.heap.size < W.heap.size; omega)]; exact c1) (by rw [hx.cell (by show w.heap.size + 1 < W.heap.size; omega)]; exact c2) (by have := hx.size; omega) (by have := hx.size; omega)).mono fun e w' h => h))
  clear hat
  go_enter Tryz.func52, Tryz.ntmps52
  go_wp2_with fail
  refine (C.out _ ?_ ?_ ?_ ?_).mono ?_
  · exact ((Below.refl _ _).alloc (Nat.le_refl _) _).alloc (by simp) _
  · simp
  · rw [cell_of_row _ _ _ _ _ _ (heap_alloc2_old _ _ _)]; rfl
  · exact cell_new (by simp)
  rintro e w1 ⟨hW1, b', c', rfl, hb1, hb2, hat⟩
  have Hat := Lib.hid hat
  have hsz : w.heap.size ≤ b' := by simp at hb1; omega
  have hB : Below w.heap.size w w1 := (((Below.refl _ _).alloc (Nat.le_refl _) _).alloc (by simp) _).trans (hW1.mono (by simp; omega))
  clear hat
  go_wp2_with fail
  go_ret
  exact ⟨hB, b', c', rfl, hsz, hb2, Hat.out⟩

theorem turnsToMonotone_impl (s : ByteArray) (w : World) (hs : s.size ≤ 1048576) :
    Calls Tryz.prog 15 #[.string s] w fun e w' => Below w.heap.size w w' ∧ e = .returned (.int .i64 (turnsI s)) := by
  go_enter Tryz.func15, Tryz.ntmps15
  go_wp2_with fail
  refine (readNetwork_any s w hs).mono ?_
  rintro e w1 ⟨hW1, ⟨hbad, rfl⟩ | ⟨hok, b, cap, rfl, hb1, hb2, hat⟩⟩
  · have hr : turnsI s = -1 := by rw [turnsI, hbad]; rfl
    have Hr := Lib.hid hr
    clear hr hbad
    go_wp2_with fail
    go_ret
    exact ⟨hW1, ret_int Hr.out.symm⟩
  · have hn := netOf_ok hok
    have hr : turnsI s = firstI (fun set => monoN (turnN (netOf s) set)) (pw (netOf s).n) := by rw [turnsI, hok]; rfl
    obtain ⟨N, hN⟩ : ∃ N, netOf s = N := ⟨_, rfl⟩
    rw [hN] at hn hat hr ⊢
    have hp := pw_le hn.2
    have Hr := Lib.hid hr
    have Hat := Lib.hid hat
    have cS := Lib.hid (fun wx => states_any (some ⟨b, 0, none⟩) N.n cap hn.2 wx)
    clear hr hok hat hN
    go_wp2_with fail
    refine (cS.out _).mono ?_
    rintro e w' ⟨rfl, rfl⟩
    go_wp2_with fail
    go_loopw [5, 15] (fun _ j wr => (∃ k : Nat, k ≤ pw N.n ∧ j = .int .i64 k ∧ ∀ t, t < k → monoN (turnN N t) = false) ∧ Below w.heap.size w wr ∧ Below w1.heap.size w1 wr) (fun _ j _ => pw N.n - (intOf j).toNat)
    case atStart => exact ⟨⟨0, Nat.zero_le _, rfl, fun t h => absurd h (Nat.not_lt_zero _)⟩, hW1, Below.refl _ _⟩
    case round =>
      obtain ⟨⟨k, hk, rfl, hall⟩, hW, hWr⟩ := hrel
      have Hall := Lib.hid hall
      clear hall
      by_cases hlt : k < pw N.n
      · have cT := Lib.hid (turned_any b cap k N hn.1 hn.2 hlt wr (Hat.out.below hWr hb2) (Nat.lt_of_lt_of_le hb2 hWr.size))
        cases hm : monoN (turnN N k)
        all_goals
          have hm2 : monoN ⟨N.n, stepF N.n fun s => stepN N (s ^^^ k) ^^^ k⟩ = monoN (turnN N k) := (turn_step N k).mono
          rw [hm] at hm2
          have Hm := Lib.hid hm
          have Hm2 := Lib.hid hm2
          clear hm hm2
          go_wp2_with fail
          refine cT.out.mono ?_
          rintro e w2 ⟨hW2, b', c', rfl, hb1', hb2', hat'⟩
          have c3 := monotone_any b' c' ⟨N.n, stepF N.n fun s => stepN N (s ^^^ k) ^^^ k⟩ hn.2 w2 hat' hb2'
          rw [Hm2.out] at c3
          have C3 := Lib.hid c3
          clear c3 hat'
          go_wp2_with fail
          refine C3.out.mono ?_
          rintro e w3 ⟨rfl, hW3⟩
          have hW13 := (hW.trans (hW2.mono hW.size)).trans (hW3.mono (by have := hW.size; have := hW2.size; omega))
          have hWr3 := (hWr.trans (hW2.mono hWr.size)).trans (hW3.mono (by have := hWr.size; have := hW2.size; omega))
        · go_wp2_with fail
          go_roundw
          case rel => exact ⟨⟨k + 1, by omega, by go_num, fun t ht => by
              by_cases e : t = k
              · subst e; exact Hm.out
              · exact Hall.out t (by omega)⟩, hW13, hWr3⟩
          case measure => simp [intOf] <;> omega
        · have hres : turnsI s = k := by rw [Hr.out]; exact firstI_some hlt Hm.out Hall.out
          have Hres := Lib.hid hres
          clear hres
          go_wp2_with fail
          go_ret
          exact ⟨hW13, ret_int Hres.out.symm⟩
      · obtain rfl : k = pw N.n := by omega
        have hres : turnsI s = -1 := by rw [Hr.out]; exact firstI_none Hall.out
        have Hres := Lib.hid hres
        clear hres
        go_wp2_with fail
        go_ret
        exact ⟨hW, ret_int Hres.out.symm⟩
end Go.Proofs.YtkfagolmpbbckaaGreatDoor
