/- The reference's turned networks, and which switches to turn. -/
import Derived.Test.YtkfagolmpbbckaaDoorSpecT
namespace Go.Proofs.YtkfagolmpbbckaaDoor
open Go Go.RowKit Go.Sw
set_option maxRecDepth 100000
set_option linter.unusedVariables false

theorem netTexts_take_succ (N : Net) (k : Nat) (h : k < N.n) : (netTexts N).take (k + 1) = (netTexts N).take k ++ [tabText N.n (N.f k)] := by
  rw [List.take_succ_eq_append_getElem (by rw [netTexts_length]; exact h), netTexts_get N k h]
theorem netTexts_size (N : Net) (h5 : N.n ≤ 5) : ∀ p ∈ netTexts N, p.size ≤ 64 := by
  intro p hp
  obtain ⟨i, _, rfl⟩ := List.mem_map.1 hp
  rw [tabText_size]
  have := pw_le h5; omega

theorem sizeOf_yes (t : ByteArray) (w : World) (hs : t.size ≤ 1048576) (hok : netOk t = true) :
    Calls Tryd.prog 120 #[.string t] w fun e w' => Below w.heap.size w w' ∧ e = .returned (.int .i64 ((netOf t).n : Nat)) := by
  have c := Lib.hid (l3Open_any t w hs)
  have Hok := Lib.hid hok
  clear hok
  go_enter Tryd.func120, Tryd.ntmps120
  go_wp2_with fail
  refine c.out.mono ?_
  rintro e w1 ⟨hW1, ⟨hbad, v, rfl⟩ | ⟨hok, b, cap, rfl, hb1, hb2, hat⟩⟩
  · rw [Hok.out] at hbad; cases hbad
  · have hn := netOf_ok hok
    clear hat hok
    go_wp2_with fail
    go_ret
    exact ⟨hW1, rfl⟩
theorem sizeOf_no (t : ByteArray) (w : World) (hs : t.size ≤ 1048576) (hok : netOk t = false) :
    Calls Tryd.prog 120 #[.string t] w fun e w' => Below w.heap.size w w' ∧ e = .returned (.int .i64 (-1)) := by
  have c := Lib.hid (l3Open_any t w hs)
  have Hok := Lib.hid hok
  clear hok
  go_enter Tryd.func120, Tryd.ntmps120
  go_wp2_with fail
  refine c.out.mono ?_
  rintro e w1 ⟨hW1, ⟨hbad, v, rfl⟩ | ⟨hok, b, cap, rfl, hb1, hb2, hat⟩⟩
  · clear hbad
    go_wp2_with fail
    go_ret
    exact ⟨hW1, rfl⟩
  · rw [Hok.out] at hok; cases hok

theorem xor_two (s i : Nat) (hs : s < 32) (hi : i < 5) : bits .xor .i64 (s : Int) ((2 : Int) ^ i) = ((s ^^^ 2 ^ i : Nat) : Int) := by
  have := pow2_leN i (by omega)
  rw [pow_cast]; exact i64_xor s (2 ^ i) (by omega) (by omega)


/-- a text is a network like another one -/
def likeT (t : ByteArray) (N : Net) : Prop := t.size ≤ 1048576 ∧ netOk t = true ∧ (netOf t).eqv N
theorem likeT_text {N : Net} (h1 : 1 ≤ N.n) (h5 : N.n ≤ 5) : likeT (netText N) N := ⟨by have := netText_size h5; omega, netOk_text h1 h5, netOf_text h1⟩


end Go.Proofs.YtkfagolmpbbckaaDoor
