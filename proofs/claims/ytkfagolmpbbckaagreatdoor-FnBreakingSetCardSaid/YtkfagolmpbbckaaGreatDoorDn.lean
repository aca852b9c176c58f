/- The reference's draws of a network with a sign, with two switches; of turned and of flowing networks. -/
import Derived.Test.YtkfagolmpbbckaaGreatDoorDh
namespace Go.Proofs.YtkfagolmpbbckaaGreatDoor
open Go Go.RowKit Go.Sw
set_option maxRecDepth 100000
set_option linter.unusedVariables false

def TopTTn (w w' : World) (e : Ending) : Prop := Below w.heap.size w w' ∧ ∃ t u : ByteArray, t.size ≤ 1100 ∧ u.size ≤ 1100 ∧ e = .returned (.tuple #[.string t, .string u])
def TtAtn (w w' : World) (r m : Nat) (e : Ending) : Prop := Drw w w' r ∧ Rd w' r m ∧ ∃ t u : ByteArray, t.size ≤ 1100 ∧ u.size ≤ 1100 ∧ e = .returned (.tuple #[.string t, .string u])
theorem of10_any (r m z : Nat) (x0 x1 x2 x3 x4 x5 x6 x7 x8 x9 : ByteArray) (hm : m ≤ 1000000) (w : World) (h : Rd w r m) (h0 : x0.size ≤ z) (h1 : x1.size ≤ z) (h2 : x2.size ≤ z) (h3 : x3.size ≤ z) (h4 : x4.size ≤ z) (h5 : x5.size ≤ z) (h6 : x6.size ≤ z) (h7 : x7.size ≤ z) (h8 : x8.size ≤ z) (h9 : x9.size ≤ z) :
    Calls Tryz.prog 77 #[.pointer (some ⟨r, 0, none⟩), .slice (some ⟨w.heap.size, 0, none⟩) 10 10] (w.alloc (.cells #[.string x0, .string x1, .string x2, .string x3, .string x4, .string x5, .string x6, .string x7, .string x8, .string x9] 9)) fun e w' => OfZ w w' r m z e := by
  refine (of_any r m w.heap.size (some ⟨w.heap.size, 0, none⟩) 10 [x0, x1, x2, x3, x4, x5, x6, x7, x8, x9] hm (by simp) (by simp) _ (h.alloc _) (textsAt_alloc w [x0, x1, x2, x3, x4, x5, x6, x7, x8, x9] _ _ rfl) h.lt).mono ?_
  rintro e w2 ⟨hD, hR, t, ht, rfl⟩
  refine ⟨hD.made, hR, t, ?_, rfl⟩
  simp only [List.mem_cons, List.not_mem_nil, or_false] at ht
  rcases ht with rfl | rfl | rfl | rfl | rfl | rfl | rfl | rfl | rfl | rfl <;> assumption
theorem l7With_any (r m : Nat) (hm : m ≤ 500000) (w : World) (h : Rd w r m) :
    Calls Tryz.prog 33 #[.pointer (some ⟨r, 0, none⟩)] w fun e w' => TtAtn w w' r (m + 320) e := by
  have c0 := Lib.hid (l7Open_any r m (by omega) w h)
  clear h
  go_enter Tryz.func33, Tryz.ntmps33
  go_wp2_with fail
  refine c0.out.mono ?_
  rintro e w1 ⟨hD1, hR1, t, ht, rfl⟩
  have HD1 := Lib.hid hD1
  have HR1 := Lib.hid hR1
  clear hD1 hR1
  go_wp2_with ((with_reducible show wpList _ _ _ (⟨_, .buildSlice 31 10 _, _, _, _, _⟩ :: _) _ _); refine wpList_buildSlice' rfl _ _ _ rfl rfl (texts_built10 _ _ _ _ _ _ _ _ _ _ _) ?_)
  refine (of10_any r _ 10 _ _ _ _ _ _ _ _ _ _ (by omega) w1 HR1.out (by decide) (by decide) (by decide) (by decide) (by decide) (by decide) (by decide) (by decide) (by decide) (by decide)).mono ?_
  rintro e w2 ⟨hD2, hR2, u, hu, rfl⟩
  go_wp2_with fail
  go_ret2
  exact ⟨HD1.out.trans hD2, hR2.more (by omega), t, u, ht, by omega, rfl⟩
theorem drawHas_any (a : Option Addr) (len cap : Nat) (hc : cap ≤ maxLen) (w : World) (h : CodeAt w a len cap) :
    Calls Tryz.prog 7 #[.slice a len cap] w fun e w' => TopTTn w w' e := by
  have c0 := Lib.hid (l14Open_any a len cap hc w h)
  clear h
  go_enter Tryz.func7, Tryz.ntmps7
  go_wp2_with fail
  refine c0.out.mono ?_
  rintro e w1 ⟨hW1, rfl, hR1⟩
  have c1 := Lib.hid (l7With_any _ 0 (by omega) w1 hR1)
  have hw1 := hW1.size
  clear hR1
  go_wp2_with fail
  refine c1.out.mono ?_
  rintro e w2 ⟨hD2, hR2, t, u, ht, hu, rfl⟩
  go_wp2_with fail
  go_ret2
  exact ⟨Below.drw hW1 hD2 (Nat.le_refl _) hw1, t, u, ht, hu, rfl⟩
theorem drawBreak_any (a : Option Addr) (len cap : Nat) (hc : cap ≤ maxLen) (w : World) (h : CodeAt w a len cap) :
    Calls Tryz.prog 30 #[.slice a len cap] w fun e w' => TopTTn w w' e := by
  have c0 := Lib.hid (l14Open_any a len cap hc w h)
  clear h
  go_enter Tryz.func30, Tryz.ntmps30
  go_wp2_with fail
  refine c0.out.mono ?_
  rintro e w1 ⟨hW1, rfl, hR1⟩
  have c1 := Lib.hid (l7With_any _ 0 (by omega) w1 hR1)
  have hw1 := hW1.size
  clear hR1
  go_wp2_with fail
  refine c1.out.mono ?_
  rintro e w2 ⟨hD2, hR2, t, u, ht, hu, rfl⟩
  go_wp2_with fail
  go_ret2
  exact ⟨Below.drw hW1 hD2 (Nat.le_refl _) hw1, t, u, ht, hu, rfl⟩
/-- a text, not too long -/
def TopTL (w w' : World) (e : Ending) : Prop := Below w.heap.size w w' ∧ ∃ t : ByteArray, t.size ≤ 1048576 ∧ e = .returned (.string t)
theorem drawTurns_any (a : Option Addr) (len cap : Nat) (hc : cap ≤ maxLen) (w : World) (h : CodeAt w a len cap) :
    Calls Tryz.prog 14 #[.slice a len cap] w fun e w' => TopTL w w' e := by
  have c0 := Lib.hid (l14Open_any a len cap hc w h)
  clear h
  go_enter Tryz.func14, Tryz.ntmps14
  go_wp2_with fail
  refine c0.out.mono ?_
  rintro e w1 ⟨hW1, rfl, hR1⟩
  have c1 := Lib.hid (l8Draw_any _ 0 (by omega) w1 hR1)
  have hw1 := hW1.size
  clear hR1
  go_wp2_with fail
  refine c1.out.mono ?_
  rintro e w2 ⟨hD2, hR2, t, ht, rfl⟩
  have cS := Lib.hid (sizeOf_spec t w2 (by omega))
  have HD2 := Lib.hid hD2
  have HR2 := Lib.hid hR2
  have hw2 := hD2.size
  have hle := szI_le t
  clear hR2 hD2
  go_wp2_with fail
  refine cS.out.mono ?_
  rintro e w3 ⟨hW3, rfl⟩
  have HD3 := Lib.hid (HD2.out.below hW3 hw2)
  have HR3 := Lib.hid (HR2.out.below hW3 HR2.out.lt)
  clear hW3
  by_cases hok : netOk t = true
  · have hn := netOf_ok hok
    have hsz : szI t = ((netOf t).n : Nat) := by unfold szI; rw [hok]; rfl
    rw [hsz]
    have cT := Lib.hid (fun set wx (h : set < pw (netOf t).n) => l8Turned_any t set wx (by omega) hok h)
    obtain ⟨k, hk⟩ : ∃ k, (netOf t).n = k := ⟨_, rfl⟩
    rw [hk] at hn cT ⊢
    have hpw := pw_le hn.2
    have hpc := pw_cast k
    have h2 := pow2_le k hn.2
    have hki : (0 : Int) < (k : Int) := by omega
    have C3 := Lib.hid (pick_any _ _ 3 (by omega) (by omega) w3 HR3.out)
    clear hok hsz hk
    go_wp2_with fail
    refine C3.out.mono ?_
    rintro e w4 ⟨hD4, hR4, j, rfl, _, _⟩
    have HD4 := Lib.hid (HD3.out.trans hD4)
    have HR4 := Lib.hid hR4
    clear hD4 hR4
    by_cases hj : 0 < j
    · have hj2 : (0 : Int) < (j : Int) := by omega
      have C4 := Lib.hid (pick_any _ _ (pw k) (by omega) (by omega) w4 HR4.out)
      go_wp2_with fail
      refine C4.out.mono ?_
      rintro e w5 ⟨hD5, hR5, q, rfl, _, hq⟩
      have hq := hq (by omega)
      have HB5 := Lib.hid (Below.drw hW1 (HD4.out.trans hD5) (Nat.le_refl _) hw1)
      have cT5 := Lib.hid (cT.out q w5 hq)
      clear hR5 hD5
      go_wp2_with fail
      refine cT5.out.mono ?_
      rintro e w6 ⟨hW6, t', rfl, hl⟩
      have hz := hl.1
      clear hl
      go_wp2_with fail
      go_ret
      exact ⟨HB5.out.trans (hW6.mono HB5.out.size), t', hz, rfl⟩
    · have hj2 : ¬ (0 : Int) < (j : Int) := by omega
      go_wp2_with fail
      go_ret
      exact ⟨Below.drw hW1 HD4.out (Nat.le_refl _) hw1, t, by omega, rfl⟩
  · have hsz : szI t = -1 := by
      unfold szI
      rw [if_neg hok]
    rw [hsz]
    clear hok hsz
    go_wp2_with fail
    go_ret
    exact ⟨Below.drw hW1 HD3.out (Nat.le_refl _) hw1, t, by omega, rfl⟩
end Go.Proofs.YtkfagolmpbbckaaGreatDoor
