/- The program's questions about circuits. -/
import Derived.Test.YtkfagolmpbbckaaGreatDoorImplI
namespace Go.Proofs.YtkfagolmpbbckaaGreatDoor
open Go Go.RowKit Go.Sw
set_option maxRecDepth 100000
set_option linter.unusedVariables false

theorem CircsAt.slice {w : World} {N : Net} {v : Value} {cs : List (List Nat)} (h : CircsAt w N v cs) : ∃ a c, v = .slice a cs.length c := by
  obtain ⟨base, xs, ho, _⟩ := h
  rcases ho.2 with ⟨rfl, hz⟩ | ⟨g, cap, cur, rfl, _⟩
  · exact ⟨none, 0, by rw [hz]⟩
  · exact ⟨_, cap, rfl⟩

theorem isFlowing_impl (t : ByteArray) (w : World) (hs : t.size ≤ 1048576) :
    Calls Tryz.prog 23 #[.string t] w fun e w' => Below w.heap.size w w' ∧ e = .returned (.bool (flowB t)) := by
  have cR := Lib.hid (readNetwork_any t w hs)
  cases hok0 : netOk t
  · have hr : flowB t = false := by rw [flowB, hok0]; rfl
    rw [hr]
    have Hok := Lib.hid hok0
    clear hr hok0
    go_enter Tryz.func23, Tryz.ntmps23
    go_wp2_with fail
    refine cR.out.mono ?_
    rintro e w1 ⟨hW1, ⟨hbad, rfl⟩ | ⟨hok, b, cap, rfl, hb1, hb2, hat⟩⟩
    · clear hbad
      go_wp2_with fail
      go_ret
      exact ⟨hW1, rfl⟩
    · rw [Hok.out] at hok; cases hok
  · have hn := netOf_ok hok0
    have hr : flowB t = decide ((circL (netOf t)).length = 0) := by
      rw [flowB, hok0, Bool.true_and]
      cases circL (netOf t) <;> rfl
    obtain ⟨N, hN⟩ : ∃ N, netOf t = N := ⟨_, rfl⟩
    rw [hN] at hr hn cR
    have Hok := Lib.hid hok0
    have Hr := Lib.hid hr
    clear hr hok0
    go_enter Tryz.func23, Tryz.ntmps23
    go_wp2_with fail
    refine cR.out.mono ?_
    rintro e w1 ⟨hW1, ⟨hbad, rfl⟩ | ⟨hok, b, cap, rfl, hb1, hb2, hat⟩⟩
    · rw [Hok.out] at hbad; cases hbad
    · have cC := Lib.hid (circuits_any b cap N hn.2 w1 hat hb2)
      clear hok hat
      go_wp2_with fail
      refine cC.out.mono ?_
      rintro e w2 ⟨hW2, v, rfl, hC⟩
      obtain ⟨a, c, rfl⟩ := hC.slice
      obtain ⟨m, hm⟩ : ∃ m, (circL N).length = m := ⟨_, rfl⟩
      rw [hm] at Hr ⊢
      clear hC
      go_wp2_with fail
      go_ret
      refine ⟨hW1.trans (hW2.mono hW1.size), ?_⟩
      have hz : ((m : Int) == 0) = decide (m = 0) := by rw [Bool.eq_iff_iff]; simp
      rw [Hr.out, ← hz]; rfl
end Go.Proofs.YtkfagolmpbbckaaGreatDoor
