/- The reference's draws of a network with a sign, with two switches; of turned and of flowing networks. -/
import Derived.Test.YtifallippecdmaaGreatDoorDh
namespace Go.Proofs.YtifallippecdmaaGreatDoor
open Go Go.RowKit Go.Sw
set_option maxRecDepth 100000
set_option linter.unusedVariables false

def TopTTn (w w' : World) (e : Ending) : Prop := Below w.heap.size w w' ∧ ∃ t u : ByteArray, t.size ≤ 1100 ∧ u.size ≤ 1100 ∧ e = .returned (.tuple #[.string t, .string u])
def TtAtn (w w' : World) (r m : Nat) (e : Ending) : Prop := Drw w w' r ∧ Rd w' r m ∧ ∃ t u : ByteArray, t.size ≤ 1100 ∧ u.size ≤ 1100 ∧ e = .returned (.tuple #[.string t, .string u])
theorem of10_any (r m z : Nat) (x0 x1 x2 x3 x4 x5 x6 x7 x8 x9 : ByteArray) (hm : m ≤ 1000000) (w : World) (h : Rd w r m) (h0 : x0.size ≤ z) (h1 : x1.size ≤ z) (h2 : x2.size ≤ z) (h3 : x3.size ≤ z) (h4 : x4.size ≤ z) (h5 : x5.size ≤ z) (h6 : x6.size ≤ z) (h7 : x7.size ≤ z) (h8 : x8.size ≤ z) (h9 : x9.size ≤ z) :
    Calls Tryz.prog 50 #[.pointer (some ⟨r, 0, none⟩), .slice (some ⟨w.heap.size, 0, none⟩) 10 10] (w.alloc (.cells #[.string x0, .string x1, .string x2, .string x3, .string x4, .string x5, .string x6, .string x7, .string x8, .string x9] 9)) fun e w' => OfZ w w' r m z e := by
  refine (of_any r m w.heap.size (some ⟨w.heap.size, 0, none⟩) 10 [x0, x1, x2, x3, x4, x5, x6, x7, x8, x9] hm (by simp) (by simp) _ (h.alloc _) (textsAt_alloc w [x0, x1, x2, x3, x4, x5, x6, x7, x8, x9] _ _ rfl) h.lt).mono ?_
  rintro e w2 ⟨hD, hR, t, ht, rfl⟩
  refine ⟨hD.made, hR, t, ?_, rfl⟩
  simp only [List.mem_cons, List.not_mem_nil, or_false] at ht
  rcases ht with rfl | rfl | rfl | rfl | rfl | rfl | rfl | rfl | rfl | rfl <;> assumption
theorem drawCircs_any (a : Option Addr) (len cap : Nat) (hc : cap ≤ maxLen) (w : World) (h : CodeAt w a len cap) :
    Calls Tryz.prog 4 #[.slice a len cap] w fun e w' => TopT w w' e := by
  have c0 := Lib.hid (l14Open_any a len cap hc w h)
  clear h
  go_enter Tryz.func4, Tryz.ntmps4
  go_wp2_with fail
  refine c0.out.mono ?_
  rintro e w1 ⟨hW1, rfl, hR1⟩
  have c1 := Lib.hid (l7Open_any _ 0 (by omega) w1 hR1)
  have hw1 := hW1.size
  clear hR1
  go_wp2_with fail
  refine c1.out.mono ?_
  rintro e w2 ⟨hD2, hR2, t, ht, rfl⟩
  go_wp2_with fail
  go_ret
  exact ⟨Below.drw hW1 hD2 (Nat.le_refl _) hw1, t, ht, rfl⟩
/-- a text, not too long -/
def TopTL (w w' : World) (e : Ending) : Prop := Below w.heap.size w w' ∧ ∃ t : ByteArray, t.size ≤ 1048576 ∧ e = .returned (.string t)
end Go.Proofs.YtifallippecdmaaGreatDoor
