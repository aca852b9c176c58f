/- The program's basic questions: size, validity, steps, fixed points. -/
import Derived.Test.YtkfagolmpbbckaaGreatDoorImplA
import Derived.Test.YtkfagolmpbbckaaGreatDoorImpl9
import Derived.Test.YtkfagolmpbbckaaGreatDoorSl
import Derived.Test.YtkfagolmpbbckaaGreatDoorP2
import Derived.Test.YtkfagolmpbbckaaGreatDoorIv
namespace Go.Proofs.YtkfagolmpbbckaaGreatDoor
open Go Go.RowKit Go.Sw
set_option maxRecDepth 100000
set_option linter.unusedVariables false

def sizI (t : ByteArray) : Int := if netOk t then ((netOf t).n : Nat) else -1
theorem sizI_yes {t : ByteArray} (h : netOk t = true) : sizI t = ((netOf t).n : Nat) := by rw [sizI, h]; rfl
theorem sizI_no {t : ByteArray} (h : netOk t = false) : sizI t = -1 := by rw [sizI, h]; rfl
theorem sizeOf_impl (s : ByteArray) (w : World) (hs : s.size ≤ 1048576) :
    Calls Tryz.prog 18 #[.string s] w fun e w' => Below w.heap.size w w' ∧ e = .returned (.int .i64 (sizI s)) := by
  have c := Lib.hid (readNetwork_any s w hs)
  go_enter Tryz.func18, Tryz.ntmps18
  go_wp2_with fail
  refine c.out.mono ?_
  rintro e w1 ⟨hW1, ⟨hbad, rfl⟩ | ⟨hok, b, cap, rfl, hb1, hb2, hat⟩⟩
  · have Hr := Lib.hid (sizI_no hbad)
    clear hbad
    go_wp2_with fail
    go_ret
    exact ⟨hW1, by rw [Hr.out]; rfl⟩
  · have Hr := Lib.hid (sizI_yes hok)
    clear hok hat
    go_wp2_with fail
    go_ret
    exact ⟨hW1, by rw [Hr.out]; rfl⟩
theorem networkValid_impl (s : ByteArray) (w : World) (hs : s.size ≤ 1048576) :
    Calls Tryz.prog 10 #[.string s] w fun e w' => Below w.heap.size w w' ∧ e = .returned (.bool (netOk s)) := by
  have c := Lib.hid (readNetwork_any s w hs)
  go_enter Tryz.func10, Tryz.ntmps10
  go_wp2_with fail
  refine c.out.mono ?_
  rintro e w1 ⟨hW1, ⟨hbad, rfl⟩ | ⟨hok, b, cap, rfl, hb1, hb2, hat⟩⟩
  · have Hr := Lib.hid hbad
    clear hbad
    go_wp2_with fail
    go_ret
    exact ⟨hW1, by rw [Hr.out]; rfl⟩
  · have Hr := Lib.hid hok
    clear hok hat
    go_wp2_with fail
    go_ret
    exact ⟨hW1, by rw [Hr.out]; rfl⟩
def fixB (N : Net) (s : Nat) : Bool := stepN N s == s
theorem fixB_iff {N : Net} {s : Nat} : fixB N s = true ↔ stepN N s = s := by unfold fixB; rw [beq_iff_eq]
/-- the fixed points in order -/
def fixL (N : Net) : List Nat := pickL (fixB N) (pw N.n)
theorem fixL_mem {N : Net} {s : Nat} : s ∈ fixL N ↔ s < pw N.n ∧ stepN N s = s := by unfold fixL; rw [pickL_mem, fixB_iff]
def pointsL (t : ByteArray) : List Nat := if netOk t then fixL (netOf t) else []
theorem pointsL_length (t : ByteArray) : (pointsL t).length ≤ 32 := by
  unfold pointsL
  cases h : netOk t
  · rw [if_neg (by decide)]; exact Nat.zero_le _
  · rw [if_pos rfl]; exact Nat.le_trans (pickL_length _ _) (pw_le (netOf_ok h).2).2
set_option maxHeartbeats 1000000 in
theorem fixed_any (b cap : Nat) (N : Net) (hn : N.n ≤ 5) (w : World) (hat : NetAt w b N.n N.f) (hb : b < w.heap.size) :
    Calls Tryz.prog 43 #[.slice (some ⟨b, 0, none⟩) N.n cap] w fun e w' => Below w.heap.size w w' ∧ ∃ a c, e = .returned (.slice a (fixL N).length c) ∧ IntsAt w' w.heap.size a (nats (fixL N)) := by
  have Hat := Lib.hid hat
  have hpw := pw_le hn
  clear hat
  go_enter Tryz.func43, Tryz.ntmps43
  go_wp2_with (go_at_call 51; refine (states_any _ _ _ hn _).mono ?_; rintro e w' ⟨rfl, rfl⟩)
  go_loopw [3, 4, 7] (fun out _ i wr => ∃ m : Nat, m ≤ pw N.n ∧ i = .int .i64 m ∧ wr.ownsRow w.heap.size 3 1 out (nats (pickL (fixB N) m)).length (ints (nats (pickL (fixB N) m))) ∧ Below w.heap.size w wr) (fun _ _ i _ => pw N.n - (intOf i).toNat)
  case atStart => exact ⟨0, Nat.zero_le _, rfl, World.ownsRow_nil _ _ _ _, Below.refl _ _⟩
  case round =>
    obtain ⟨m, hm, rfl, hown, hW⟩ := hrel
    have Hown := Lib.hid hown
    have hlk := pickL_length (fixB N) m
    have hWs := hW.size
    clear hown
    by_cases hlt : m < pw N.n
    · have c5 := step_any b cap m N hn hlt wr (Hat.out.below hW hb) (Nat.lt_of_lt_of_le hb hWs)
      have hsuc : pickL (fixB N) (m + 1) = if fixB N m then pickL (fixB N) m ++ [m] else pickL (fixB N) m := rfl
      have hfx : fixB N m = (stepN N m == m) := rfl
      obtain ⟨ps, hps⟩ : ∃ ps, pickL (fixB N) m = ps := ⟨_, rfl⟩
      obtain ⟨t, ht⟩ : ∃ t, stepN N m = t := ⟨_, rfl⟩
      rw [hps] at hsuc Hown hlk
      rw [ht] at c5 hfx
      rw [hfx] at hsuc
      have hpl : (nats ps).length ≤ 32 := by rw [nats_length]; omega
      have C5 := Lib.hid c5
      clear hps ht hfx c5
      by_cases e : t = m
      · have Hs := Lib.hid (show pickL (fixB N) (m + 1) = ps ++ [m] by rw [hsuc, if_pos (by rw [beq_iff_eq]; exact e)])
        have he : ((t : Int) == (m : Int)) = true := by rw [e]; simp
        clear hsuc e
        go_wp2_with fail
        refine C5.out.mono ?_
        rintro e w2 ⟨rfl, hW2⟩
        have Hown2 := Lib.hid (own_below Hown.out hW2)
        have hW3 := hW.trans (hW2.mono hWs)
        have hs3 := hW3.size
        go_wp2_with (first | ((with_reducible show wpList _ _ _ (⟨_, .buildSlice 27 1 _, _, _, _, _⟩ :: _) _ _); refine wpList_buildSlice' rfl _ _ _ rfl rfl (int_one (m : Int) _) ?_) | (at_builtin; refine wpList_int_append rfl _ _ rfl w.heap.size _ (nats ps) rfl ((Hown2.out.alloc _)) _ _ rfl (cell_new ?_) (by omega) (hW3.alloc (by omega) _) ?_ ?_ ?_))
        · rfl
        · exact Nat.le_refl _
        · first | omega | (simp; omega)
        · intro v' w4 hown4 hB4
          have hown5 : w4.ownsRow w.heap.size 3 1 v' (nats (pickL (fixB N) (m + 1))).length (ints (nats (pickL (fixB N) (m + 1)))) := by
            rw [Hs.out, nats_snoc, List.length_append]; exact hown4
          have Hown4 := Lib.hid hown5
          have HB4 := Lib.hid hB4
          clear hown4 hown5 hB4
          go_wp2_with fail
          go_roundw
          case rel => exact ⟨m + 1, by omega, by go_num, Hown4.out, HB4.out⟩
          case measure => simp [intOf] <;> omega
      · have Hs := Lib.hid (show pickL (fixB N) (m + 1) = ps by rw [hsuc, if_neg (by rw [beq_iff_eq]; exact e)])
        have he : ((t : Int) == (m : Int)) = false := by rw [beq_eq_false_iff_ne]; omega
        clear hsuc e
        go_wp2_with fail
        refine C5.out.mono ?_
        rintro e w2 ⟨rfl, hW2⟩
        have Hown2 := Lib.hid (own_below Hown.out hW2)
        have hW3 := hW.trans (hW2.mono hWs)
        go_wp2_with fail
        go_roundw
        case rel => exact ⟨m + 1, by omega, by go_num, by rw [Hs.out]; exact Hown2.out, hW3⟩
        case measure => simp [intOf] <;> omega
    · obtain rfl : m = pw N.n := by omega
      obtain ⟨a, cp, rfl, hcp, hI⟩ := intsAt_of_own Hown.out
      have HI := Lib.hid hI
      clear hI
      rw [nats_length]
      go_wp2_with fail
      go_ret
      exact ⟨hW, a, cp, rfl, HI.out⟩
theorem fixedPoints_impl (s : ByteArray) (w : World) (hs : s.size ≤ 1048576) :
    Calls Tryz.prog 11 #[.string s] w fun e w' => Below w.heap.size w w' ∧ ∃ a c, e = .returned (.slice a (pointsL s).length c) ∧ IntsAt w' w.heap.size a (nats (pointsL s)) := by
  have c := Lib.hid (readNetwork_any s w hs)
  go_enter Tryz.func11, Tryz.ntmps11
  go_wp2_with fail
  refine c.out.mono ?_
  rintro e w1 ⟨hW1, ⟨hbad, rfl⟩ | ⟨hok, b, cap, rfl, hb1, hb2, hat⟩⟩
  · have Hr := Lib.hid (show pointsL s = [] by rw [pointsL, hbad]; rfl)
    clear hbad
    go_wp2_with fail
    go_ret
    exact ⟨hW1, none, 0, by rw [Hr.out]; rfl, by rw [Hr.out]; exact intsAt_nil _ _ _⟩
  · have hn := netOf_ok hok
    have Hr := Lib.hid (show pointsL s = fixL (netOf s) by rw [pointsL, hok]; rfl)
    have cF := Lib.hid (fixed_any b cap (netOf s) hn.2 w1 hat hb2)
    clear hok hat
    go_wp2_with fail
    refine cF.out.mono ?_
    rintro e w2 ⟨hW2, a, c2, rfl, hI⟩
    have HI := Lib.hid hI
    have hw1 := hW1.size
    clear hI
    go_wp2_with fail
    go_ret
    exact ⟨hW1.trans (hW2.mono hw1), a, c2, by rw [Hr.out]; rfl, by rw [Hr.out]; exact HI.out.mono hw1⟩
end Go.Proofs.YtkfagolmpbbckaaGreatDoor
