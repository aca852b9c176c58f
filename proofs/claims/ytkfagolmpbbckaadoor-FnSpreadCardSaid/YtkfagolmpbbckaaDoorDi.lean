/- The reference's draws for traps: a network and a term. -/
import Derived.Test.YtkfagolmpbbckaaDoorMa
import Derived.Test.YtkfagolmpbbckaaDoorSpecN
import Derived.Deep.RegionHeld3
namespace Go.Proofs.YtkfagolmpbbckaaDoor
open Go Go.RowKit Go.Sw
set_option maxRecDepth 100000
set_option linter.unusedVariables false

theorem traps_size {t x : ByteArray} (hx : x ∈ trapsL t) : x.size ≤ 1100 := by
  unfold trapsL at hx
  cases hok : netOk t
  · rw [hok] at hx; simp at hx
  · rw [hok, if_pos rfl] at hx
    unfold trapsT at hx
    obtain ⟨p, _, rfl⟩ := List.mem_map.1 hx
    rw [termT_size]
    have := netOf_ok hok
    omega
def TopTT (w w' : World) (e : Ending) : Prop := Below w.heap.size w w' ∧ ∃ t u : ByteArray, t.size ≤ 1100 ∧ u.size ≤ 1100 ∧ e = .returned (.tuple #[.string t, .string u])
def TtAt (w w' : World) (r m : Nat) (e : Ending) : Prop := Drw w w' r ∧ Rd w' r m ∧ ∃ t u : ByteArray, t.size ≤ 1100 ∧ u.size ≤ 1100 ∧ e = .returned (.tuple #[.string t, .string u])
theorem l2Term_any (r m n : Nat) (hn : n ≤ 5) (hm : m ≤ 700000) (w : World) (h : Rd w r m) :
    Calls Tryd.prog 145 #[.pointer (some ⟨r, 0, none⟩), .int .i64 n] w fun e w' => TxAt w w' r (m + 10) 10 e := by
  have H := Lib.hid h
  clear h
  go_enter Tryd.func145, Tryd.ntmps145
  go_wp2_with fail
  go_loopw [5, 6] (fun out i wr => ∃ (k : Nat) (o : ByteArray), k ≤ n ∧ i = .int .i64 k ∧ out = .string o ∧ o.size ≤ k ∧ Drw w wr r ∧ Rd wr r (m + k)) (fun _ i _ => n - (intOf i).toNat)
  case atStart => exact ⟨0, ⟨#[]⟩, Nat.zero_le _, rfl, rfl, Nat.le_refl _, Drw.refl _ _, H.out⟩
  case round =>
    obtain ⟨k, o, hk, rfl, rfl, ho, hD, hR⟩ := hrel
    have HD := Lib.hid hD
    have HR := Lib.hid hR
    clear hD hR
    by_cases hlt : k < n
    · go_wp2_with ((with_reducible show wpList _ _ _ (⟨_, .buildSlice 41 4 _, _, _, _, _⟩ :: _) _ _); refine wpList_buildSlice' rfl _ _ _ rfl rfl (texts_built4 _ _ _ _ _) ?_)
      refine (of4_any r (m + k) 1 _ _ _ _ (by omega) wr HR.out (by decide) (by decide) (by decide) (by decide)).mono ?_
      rintro e w2 ⟨hD2, hR2, u, hu, rfl⟩
      have hsz : o.size + u.size ≤ 100 := by omega
      have HD2 := Lib.hid (HD.out.trans hD2)
      have HR2 := Lib.hid hR2
      clear hD2 hR2
      go_wp2_with fail
      go_roundw
      case rel => exact ⟨k + 1, _, by omega, by go_num, rfl, by rw [ByteArray.size_append]; omega, HD2.out, HR2.out⟩
      case measure => simp [intOf] <;> omega
    · go_wp2_with fail
      go_ret
      exact ⟨HD.out, HR.out.more (by omega), o, by omega, rfl⟩
theorem l2Bad_any (r m : Nat) (t : ByteArray) (ht : t.size ≤ 500) (hm : m ≤ 700000) (w : World) (h : Rd w r m) :
    Calls Tryd.prog 144 #[.pointer (some ⟨r, 0, none⟩), .string t] w fun e w' => TxAt w w' r (m + 2) 510 e := by
  have C := Lib.hid (pick_any r m 20 (by omega) (by omega) w h)
  clear h
  go_enter Tryd.func144, Tryd.ntmps144
  go_wp2_with fail
  refine C.out.mono ?_
  rintro e w1 ⟨hD1, hR1, kk, rfl, _, _⟩
  have HD1 := Lib.hid hD1
  have HR1 := Lib.hid hR1
  clear hD1 hR1
  by_cases k0 : kk = 0
  · have e0 : ((kk : Int) == 0) = true := by rw [beq_iff_eq]; omega
    clear k0
    go_wp2_with ((with_reducible show wpList _ _ _ (⟨_, .buildSlice 41 4 _, _, _, _, _⟩ :: _) _ _); refine wpList_buildSlice' rfl _ _ _ rfl rfl (texts_built4 _ _ _ _ _) ?_)
    refine (of4_any r (m + 1) 6 _ _ _ _ (by omega) w1 HR1.out (by decide) (by decide) (by decide) (by decide)).mono ?_
    rintro e w2 ⟨hD2, hR2, u, hu, rfl⟩
    go_wp2_with fail
    go_ret
    exact ⟨HD1.out.trans hD2, hR2.more (by omega), _, by rw [ByteArray.size_append]; omega, rfl⟩
  · have e0 : ((kk : Int) == 0) = false := by rw [beq_eq_false_iff_ne]; omega
    clear k0
    go_wp2_with fail
    go_ret
    exact ⟨HD1.out, HR1.out.more (by omega), t, by omega, rfl⟩
theorem l6With_any (r m : Nat) (hm : m ≤ 500000) (w : World) (h : Rd w r m) :
    Calls Tryd.prog 96 #[.pointer (some ⟨r, 0, none⟩)] w fun e w' => TtAt w w' r (m + 240) e := by
  have c0 := Lib.hid (l5Small_any r m (by omega) w h)
  clear h
  go_enter Tryd.func96, Tryd.ntmps96
  go_wp2_with fail
  refine c0.out.mono ?_
  rintro e w1 ⟨hD1, hR1, t, i, ht, hi, rfl⟩
  have c1 := Lib.hid (sizeOf_spec t w1 (by omega))
  have HD1 := Lib.hid hD1
  have HR1 := Lib.hid hR1
  have hw1 := hD1.size
  have hr1 := hR1.lt
  have hle := szI_le t
  have hmx : ∃ k : Nat, max (szI t) 1 = (k : Int) ∧ k ≤ 5 := ⟨(max (szI t) 1).toNat, by omega, by omega⟩
  obtain ⟨k, hk, hk5⟩ := hmx
  obtain ⟨z, hz⟩ : ∃ z, szI t = z := ⟨_, rfl⟩
  rw [hz] at c1 hk
  have hmx2 : (if z ≤ 1 then 1 else z) = (k : Int) := by
    rw [← hk]; split <;> omega
  have hmx3 : (if (1 : Int) < z then z else 1) = (k : Int) := by
    rw [← hk]; split <;> omega
  clear hD1 hR1 hz hi hle
  go_wp2_with fail
  refine c1.out.mono ?_
  rintro e w2 ⟨hW2, rfl⟩
  have HD2 := Lib.hid (HD1.out.below hW2 hw1)
  have HR2 := Lib.hid (HR1.out.below hW2 hr1)
  clear hW2
  go_wp2_with fail
  refine (l2Term_any r _ k hk5 (by omega) w2 HR2.out).mono ?_
  rintro e w3 ⟨hD3, hR3, u, hu, rfl⟩
  have HD3 := Lib.hid (HD2.out.trans hD3)
  have c3 := Lib.hid (l2Bad_any r _ u (by omega) (by omega) w3 hR3)
  clear hD3 hR3
  go_wp2_with fail
  refine c3.out.mono ?_
  rintro e w4 ⟨hD4, hR4, v, hv, rfl⟩
  go_wp2_with fail
  go_ret2
  exact ⟨HD3.out.trans hD4, hR4.more (by omega), t, v, ht, by omega, rfl⟩
theorem drawSpread_any (a : Option Addr) (len cap : Nat) (hc : cap ≤ maxLen) (w : World) (h : CodeAt w a len cap) :
    Calls Tryd.prog 47 #[.slice a len cap] w fun e w' => TopTT w w' e := by
  have c0 := Lib.hid (l14Open_any a len cap hc w h)
  clear h
  go_enter Tryd.func47, Tryd.ntmps47
  go_wp2_with fail
  refine c0.out.mono ?_
  rintro e w1 ⟨hW1, rfl, hR1⟩
  have c1 := Lib.hid (l6With_any _ 0 (by omega) w1 hR1)
  have hw1 := hW1.size
  clear hR1
  go_wp2_with fail
  refine c1.out.mono ?_
  rintro e w2 ⟨hD2, hR2, t, u, ht, hu, rfl⟩
  go_wp2_with fail
  go_ret2
  exact ⟨Below.drw hW1 hD2 (Nat.le_refl _) hw1, t, u, ht, hu, rfl⟩
end Go.Proofs.YtkfagolmpbbckaaDoor
