/- The reference's tables of an input, of a negation, of two tables. -/
import Derived.Test.YtcddnacbjdahbaaDoorDb
namespace Go.Proofs.YtcddnacbjdahbaaDoor
open Go Go.RowKit Go.Sw
set_option maxRecDepth 100000
set_option linter.unusedVariables false

def andF (f g : Nat → Bool) (s : Nat) : Bool := f s && g s
def orF (f g : Nat → Bool) (s : Nat) : Bool := f s || g s
theorem tabText_bits (n : Nat) (f : Nat → Bool) : bitsT (pw n) f = tabText n f := rfl
set_option maxHeartbeats 1000000 in
theorem inputTable_any (n i : Nat) (h1 : 1 ≤ n) (hn : n ≤ 5) (hi : i < n) (w : World) :
    Calls Tryd.prog 199 #[.int .i64 n, .int .i64 i] w fun e w' => Below w.heap.size w w' ∧ e = .returned (.tuple #[.string (tabText n fun s => s.testBit i), .bool true]) := by
  have hp := pw_le hn
  have h2 := pow2_le n hn
  have hpc := pw_cast n
  have a1 : inI n 1 5 = true := by unfold inI; simp; omega
  have a2 : inI i 0 ((n : Int) - 1) = true := by unfold inI; simp; omega
  have cB := Lib.hid (fun (s : Nat) (hs : s < 32) (wx : World) => l1Bit_any s i (by omega) (by omega) wx)
  have A1 := Lib.hid a1
  have A2 := Lib.hid a2
  clear a1 a2
  go_enter Tryd.func199, Tryd.ntmps199
  go_wp2_with ((with_reducible show wpList _ _ _ (⟨_, .buildSlice 30 0 _, _, _, _, _⟩ :: _) _ _); refine wpList_buildSlice' rfl _ _ _ rfl rfl (int_none _) ?_)
  refine (l1In_b _ _ _ _ A1.out _).mono ?_
  rintro e w' ⟨rfl, rfl⟩
  go_wp2_with fail
  refine (l1In_b _ _ _ _ A2.out _).mono ?_
  rintro e w' ⟨rfl, rfl⟩
  go_wp2_with fail
  go_loopw [6, 7] (fun out s wr => ∃ k : Nat, k ≤ pw n ∧ s = .int .i64 k ∧ wr.ownsRow w.heap.size 3 1 out (bitInts k fun s => s.testBit i).length (ints (bitInts k fun s => s.testBit i)) ∧ Below w.heap.size w wr) (fun _ s _ => pw n - (intOf s).toNat)
  case atStart => exact ⟨0, Nat.zero_le _, rfl, World.ownsRow_made w #[] 0 (Nat.le_refl _) (by unfold maxLen; omega) rfl, (Below.refl _ _).alloc (Nat.le_refl _) _⟩
  case round =>
    obtain ⟨k, hk, rfl, hown, hW⟩ := hrel
    have Hown := Lib.hid hown
    have hws := hW.size
    clear hown
    have hbl : (bitInts k fun s => s.testBit i).length ≤ 32 := by rw [bitInts_length]; omega
    by_cases hlt : k < pw n
    · have c1 := Lib.hid (cB.out k (by omega) wr)
      have Hs := Lib.hid (bitInts_succ k fun s => s.testBit i)
      go_wp2_with fail
      refine c1.out.mono ?_
      rintro e w' ⟨rfl, rfl⟩
      go_wp2_with (first | ((with_reducible show wpList _ _ _ (⟨_, .buildSlice 30 1 _, _, _, _, _⟩ :: _) _ _); refine wpList_buildSlice' rfl _ _ _ rfl rfl (int_one _ _) ?_) | (at_builtin; refine wpList_int_append rfl _ _ rfl w.heap.size _ (bitInts k fun s => s.testBit i) rfl ((Hown.out.alloc _)) _ _ rfl (cell_new ?_) (by omega) (hW.alloc (by omega) _) ?_ ?_ ?_))
      · rfl
      · exact Nat.le_refl _
      · first | omega | (simp; omega)
      · intro v' w6 hown6 hB6
        have Hf := Lib.hid (show w6.ownsRow w.heap.size 3 1 v' (bitInts (k + 1) fun s => s.testBit i).length (ints (bitInts (k + 1) fun s => s.testBit i)) by rw [Hs.out, List.length_append]; exact hown6)
        have HB6 := Lib.hid hB6
        clear hown6 hB6
        go_wp2_with fail
        go_roundw
        case rel => exact ⟨k + 1, by omega, by go_num, Hf.out, HB6.out⟩
        case measure => simp [intOf] <;> omega
    · obtain rfl : k = pw n := by omega
      obtain ⟨a, cp, rfl, hcp, hI⟩ := intsAt_of_own Hown.out
      have cT := Lib.hid (l1Text_any w.heap.size (pw n) a cp (fun s => s.testBit i) (by omega) wr hI)
      clear hI
      rw [bitInts_length]
      go_wp2_with fail
      refine cT.out.mono ?_
      rintro e w5 ⟨hW5, rfl⟩
      go_wp2_with fail
      go_ret2
      exact ⟨hW.trans (hW5.mono hws), rfl⟩
set_option maxHeartbeats 1000000 in
theorem l1Not_any (n : Nat) (f : Nat → Bool) (hn : n ≤ 5) (w : World) :
    Calls Tryd.prog 200 #[.string (tabText n f)] w fun e w' => Below w.heap.size w w' ∧ e = .returned (.string (tabText n fun s => !f s)) := by
  have hp := pw_le hn
  have hsz := tabText_size n f
  have cA := Lib.hid (fun (s : Nat) (hs : s < pw n) (wx : World) => l1At_any n f s hn hs wx)
  obtain ⟨t, ht⟩ : ∃ t, tabText n f = t := ⟨_, rfl⟩
  rw [ht] at hsz cA ⊢
  clear ht
  go_enter Tryd.func200, Tryd.ntmps200
  go_wp2_with ((with_reducible show wpList _ _ _ (⟨_, .buildSlice 30 0 _, _, _, _, _⟩ :: _) _ _); refine wpList_buildSlice' rfl _ _ _ rfl rfl (int_none _) ?_)
  go_loopw [3, 4] (fun out s wr => ∃ k : Nat, k ≤ pw n ∧ s = .int .i64 k ∧ wr.ownsRow w.heap.size 3 1 out (bitInts k fun s => !f s).length (ints (bitInts k fun s => !f s)) ∧ Below w.heap.size w wr) (fun _ s _ => pw n - (intOf s).toNat)
  case atStart => exact ⟨0, Nat.zero_le _, rfl, World.ownsRow_made w #[] 0 (Nat.le_refl _) (by unfold maxLen; omega) rfl, (Below.refl _ _).alloc (Nat.le_refl _) _⟩
  case round =>
    obtain ⟨k, hk, rfl, hown, hW⟩ := hrel
    have Hown := Lib.hid hown
    have hws := hW.size
    clear hown
    have hbl : (bitInts k fun s => !f s).length ≤ 32 := by rw [bitInts_length]; omega
    by_cases hlt : k < pw n
    · have c1 := cA.out k hlt wr
      have hs := bitInts_succ k fun s => !f s
      obtain ⟨b, hb⟩ : ∃ b, f k = b := ⟨_, rfl⟩
      rw [hb] at c1
      simp only [hb] at hs
      have C1 := Lib.hid c1
      have Hs := Lib.hid hs
      have hsub : (1 : Int) - ((b.toNat : Nat) : Int) = (((!b).toNat : Nat) : Int) := by cases b <;> rfl
      clear c1 hs hb
      go_wp2_with fail
      refine C1.out.mono ?_
      rintro e w' ⟨rfl, rfl⟩
      cases b
      all_goals
        go_wp2_with (first | ((with_reducible show wpList _ _ _ (⟨_, .buildSlice 30 1 _, _, _, _, _⟩ :: _) _ _); refine wpList_buildSlice' rfl _ _ _ rfl rfl (int_one _ _) ?_) | (at_builtin; refine wpList_int_append rfl _ _ rfl w.heap.size _ (bitInts k fun s => !f s) rfl ((Hown.out.alloc _)) _ _ rfl (cell_new ?_) (by omega) (hW.alloc (by omega) _) ?_ ?_ ?_))
        · rfl
        · exact Nat.le_refl _
        · first | omega | (simp; omega)
        · intro v' w6 hown6 hB6
          have Hf := Lib.hid (show w6.ownsRow w.heap.size 3 1 v' (bitInts (k + 1) fun s => !f s).length (ints (bitInts (k + 1) fun s => !f s)) by rw [Hs.out, List.length_append]; exact hown6)
          have HB6 := Lib.hid hB6
          clear hown6 hB6
          go_wp2_with fail
          go_roundw
          case rel => exact ⟨k + 1, by omega, by go_num, Hf.out, HB6.out⟩
          case measure => simp [intOf] <;> omega
    · obtain rfl : k = pw n := by omega
      obtain ⟨a, cp, rfl, hcp, hI⟩ := intsAt_of_own Hown.out
      have cT := Lib.hid (l1Text_any w.heap.size (pw n) a cp (fun s => !f s) (by omega) wr hI)
      clear hI
      rw [bitInts_length]
      go_wp2_with fail
      refine cT.out.mono ?_
      rintro e w5 ⟨hW5, rfl⟩
      go_wp2_with fail
      go_ret
      exact ⟨hW.trans (hW5.mono hws), rfl⟩
theorem l1Both_any (n : Nat) (f g : Nat → Bool) (h1 : 1 ≤ n) (hn : n ≤ 5) (w : World) :
    Calls Tryd.prog 214 #[.string (tabText n f), .string (tabText n g)] w fun e w' => e = .returned (.bool true) ∧ w = w' := by
  have hp := pw_le hn
  have hsz := tabText_size n f
  have hsz2 := tabText_size n g
  have c1 := tableValid_any (tabText n f) w (by omega)
  have c2 := tableValid_any (tabText n g) w (by omega)
  rw [tabOk_text h1 hn] at c1 c2
  obtain ⟨t, ht⟩ : ∃ t, tabText n f = t := ⟨_, rfl⟩
  obtain ⟨u, hu⟩ : ∃ t, tabText n g = t := ⟨_, rfl⟩
  rw [ht] at hsz c1 ⊢
  rw [hu] at hsz2 c2 ⊢
  have he : ((t.size : Int) == (u.size : Int)) = true := by rw [hsz, hsz2]; simp
  have C1 := Lib.hid c1
  have C2 := Lib.hid c2
  clear ht hu c1 c2 hsz hsz2
  go_enter Tryd.func214, Tryd.ntmps214
  go_wp2_with fail
  refine C1.out.mono ?_
  rintro e w' ⟨rfl, rfl⟩
  go_wp2_with fail
  refine C2.out.mono ?_
  rintro e w' ⟨rfl, rfl⟩
  go_wp2_with fail
  go_ret
  first | exact ⟨rfl, rfl⟩ | (refine ⟨?_, rfl⟩; simp [he])
set_option maxHeartbeats 1000000 in
theorem andTables_any (n : Nat) (f g : Nat → Bool) (h1 : 1 ≤ n) (hn : n ≤ 5) (w : World) :
    Calls Tryd.prog 201 #[.string (tabText n f), .string (tabText n g)] w fun e w' => Below w.heap.size w w' ∧ e = .returned (.tuple #[.string (tabText n (andF f g)), .bool true]) := by
  have hp := pw_le hn
  have hsz := tabText_size n f
  have cV := Lib.hid (fun wx => l1Both_any n f g h1 hn wx)
  have cA := Lib.hid (fun (s : Nat) (hs : s < pw n) (wx : World) => l1At_any n f s hn hs wx)
  have cG := Lib.hid (fun (s : Nat) (hs : s < pw n) (wx : World) => l1At_any n g s hn hs wx)
  obtain ⟨t, ht⟩ : ∃ t, tabText n f = t := ⟨_, rfl⟩
  obtain ⟨u, hu⟩ : ∃ t, tabText n g = t := ⟨_, rfl⟩
  rw [ht] at hsz cA cV ⊢
  rw [hu] at cG cV ⊢
  clear ht hu
  go_enter Tryd.func201, Tryd.ntmps201
  go_wp2_with ((with_reducible show wpList _ _ _ (⟨_, .buildSlice 30 0 _, _, _, _, _⟩ :: _) _ _); refine wpList_buildSlice' rfl _ _ _ rfl rfl (int_none _) ?_)
  refine (cV.out _).mono ?_
  rintro e w' ⟨rfl, rfl⟩
  go_wp2_with fail
  go_loopw [6, 7] (fun out s wr => ∃ k : Nat, k ≤ pw n ∧ s = .int .i64 k ∧ wr.ownsRow w.heap.size 3 1 out (bitInts k (andF f g)).length (ints (bitInts k (andF f g))) ∧ Below w.heap.size w wr) (fun _ s _ => pw n - (intOf s).toNat)
  case atStart => exact ⟨0, Nat.zero_le _, rfl, World.ownsRow_made w #[] 0 (Nat.le_refl _) (by unfold maxLen; omega) rfl, (Below.refl _ _).alloc (Nat.le_refl _) _⟩
  case round =>
    obtain ⟨k, hk, rfl, hown, hW⟩ := hrel
    have Hown := Lib.hid hown
    have hws := hW.size
    clear hown
    have hbl : (bitInts k (andF f g)).length ≤ 32 := by rw [bitInts_length]; omega
    by_cases hlt : k < pw n
    · have c1 := cA.out k hlt wr
      have c2 := cG.out k hlt wr
      have hs := bitInts_succ k (andF f g)
      obtain ⟨b, hb⟩ : ∃ b, f k = b := ⟨_, rfl⟩
      obtain ⟨d, hd⟩ : ∃ b, g k = b := ⟨_, rfl⟩
      rw [hb] at c1
      rw [hd] at c2
      simp only [andF, hb, hd] at hs
      have C1 := Lib.hid c1
      have C2 := Lib.hid c2
      have Hs := Lib.hid hs
      clear c1 c2 hs hb hd
      go_wp2_with fail
      refine C1.out.mono ?_
      rintro e w' ⟨rfl, rfl⟩
      go_wp2_with fail
      refine C2.out.mono ?_
      rintro e w' ⟨rfl, rfl⟩
      cases b <;> cases d
      all_goals
        go_wp2_with (first | ((with_reducible show wpList _ _ _ (⟨_, .buildSlice 30 1 _, _, _, _, _⟩ :: _) _ _); refine wpList_buildSlice' rfl _ _ _ rfl rfl (int_one _ _) ?_) | (at_builtin; refine wpList_int_append rfl _ _ rfl w.heap.size _ (bitInts k (andF f g)) rfl ((Hown.out.alloc _)) _ _ rfl (cell_new ?_) (by omega) (hW.alloc (by omega) _) ?_ ?_ ?_))
        · rfl
        · exact Nat.le_refl _
        · first | omega | (simp; omega)
        · intro v' w6 hown6 hB6
          have Hf := Lib.hid (show w6.ownsRow w.heap.size 3 1 v' (bitInts (k + 1) (andF f g)).length (ints (bitInts (k + 1) (andF f g))) by rw [Hs.out, List.length_append]; exact hown6)
          have HB6 := Lib.hid hB6
          clear hown6 hB6
          go_wp2_with fail
          go_roundw
          case rel => exact ⟨k + 1, by omega, by go_num, Hf.out, HB6.out⟩
          case measure => simp [intOf] <;> omega
    · obtain rfl : k = pw n := by omega
      obtain ⟨a, cp, rfl, hcp, hI⟩ := intsAt_of_own Hown.out
      have cT := Lib.hid (l1Text_any w.heap.size (pw n) a cp (andF f g) (by omega) wr hI)
      clear hI
      rw [bitInts_length]
      go_wp2_with fail
      refine cT.out.mono ?_
      rintro e w5 ⟨hW5, rfl⟩
      go_wp2_with fail
      go_ret2
      exact ⟨hW.trans (hW5.mono hws), rfl⟩
set_option maxHeartbeats 1000000 in
theorem orTables_any (n : Nat) (f g : Nat → Bool) (h1 : 1 ≤ n) (hn : n ≤ 5) (w : World) :
    Calls Tryd.prog 204 #[.string (tabText n f), .string (tabText n g)] w fun e w' => Below w.heap.size w w' ∧ e = .returned (.tuple #[.string (tabText n (orF f g)), .bool true]) := by
  have hp := pw_le hn
  have hsz := tabText_size n f
  have cV := Lib.hid (fun wx => l1Both_any n f g h1 hn wx)
  have cA := Lib.hid (fun (s : Nat) (hs : s < pw n) (wx : World) => l1At_any n f s hn hs wx)
  have cG := Lib.hid (fun (s : Nat) (hs : s < pw n) (wx : World) => l1At_any n g s hn hs wx)
  obtain ⟨t, ht⟩ : ∃ t, tabText n f = t := ⟨_, rfl⟩
  obtain ⟨u, hu⟩ : ∃ t, tabText n g = t := ⟨_, rfl⟩
  rw [ht] at hsz cA cV ⊢
  rw [hu] at cG cV ⊢
  clear ht hu
  go_enter Tryd.func204, Tryd.ntmps204
  go_wp2_with ((with_reducible show wpList _ _ _ (⟨_, .buildSlice 30 0 _, _, _, _, _⟩ :: _) _ _); refine wpList_buildSlice' rfl _ _ _ rfl rfl (int_none _) ?_)
  refine (cV.out _).mono ?_
  rintro e w' ⟨rfl, rfl⟩
  go_wp2_with fail
  go_loopw [6, 7] (fun out s wr => ∃ k : Nat, k ≤ pw n ∧ s = .int .i64 k ∧ wr.ownsRow w.heap.size 3 1 out (bitInts k (orF f g)).length (ints (bitInts k (orF f g))) ∧ Below w.heap.size w wr) (fun _ s _ => pw n - (intOf s).toNat)
  case atStart => exact ⟨0, Nat.zero_le _, rfl, World.ownsRow_made w #[] 0 (Nat.le_refl _) (by unfold maxLen; omega) rfl, (Below.refl _ _).alloc (Nat.le_refl _) _⟩
  case round =>
    obtain ⟨k, hk, rfl, hown, hW⟩ := hrel
    have Hown := Lib.hid hown
    have hws := hW.size
    clear hown
    have hbl : (bitInts k (orF f g)).length ≤ 32 := by rw [bitInts_length]; omega
    by_cases hlt : k < pw n
    · have c1 := cA.out k hlt wr
      have c2 := cG.out k hlt wr
      have hs := bitInts_succ k (orF f g)
      obtain ⟨b, hb⟩ : ∃ b, f k = b := ⟨_, rfl⟩
      obtain ⟨d, hd⟩ : ∃ b, g k = b := ⟨_, rfl⟩
      rw [hb] at c1
      rw [hd] at c2
      simp only [orF, hb, hd] at hs
      have C1 := Lib.hid c1
      have C2 := Lib.hid c2
      have Hs := Lib.hid hs
      clear c1 c2 hs hb hd
      go_wp2_with fail
      refine C1.out.mono ?_
      rintro e w' ⟨rfl, rfl⟩
      go_wp2_with fail
      refine C2.out.mono ?_
      rintro e w' ⟨rfl, rfl⟩
      cases b <;> cases d
      all_goals
        go_wp2_with (first | ((with_reducible show wpList _ _ _ (⟨_, .buildSlice 30 1 _, _, _, _, _⟩ :: _) _ _); refine wpList_buildSlice' rfl _ _ _ rfl rfl (int_one _ _) ?_) | (at_builtin; refine wpList_int_append rfl _ _ rfl w.heap.size _ (bitInts k (orF f g)) rfl ((Hown.out.alloc _)) _ _ rfl (cell_new ?_) (by omega) (hW.alloc (by omega) _) ?_ ?_ ?_))
        · rfl
        · exact Nat.le_refl _
        · first | omega | (simp; omega)
        · intro v' w6 hown6 hB6
          have Hf := Lib.hid (show w6.ownsRow w.heap.size 3 1 v' (bitInts (k + 1) (orF f g)).length (ints (bitInts (k + 1) (orF f g))) by rw [Hs.out, List.length_append]; exact hown6)
          have HB6 := Lib.hid hB6
          clear hown6 hB6
          go_wp2_with fail
          go_roundw
          case rel => exact ⟨k + 1, by omega, by go_num, Hf.out, HB6.out⟩
          case measure => simp [intOf] <;> omega
    · obtain rfl : k = pw n := by omega
      obtain ⟨a, cp, rfl, hcp, hI⟩ := intsAt_of_own Hown.out
      have cT := Lib.hid (l1Text_any w.heap.size (pw n) a cp (orF f g) (by omega) wr hI)
      clear hI
      rw [bitInts_length]
      go_wp2_with fail
      refine cT.out.mono ?_
      rintro e w5 ⟨hW5, rfl⟩
      go_wp2_with fail
      go_ret2
      exact ⟨hW.trans (hW5.mono hws), rfl⟩
end Go.Proofs.YtcddnacbjdahbaaDoor
