/- The statement's questions about circuits: all as texts; is there one of a sign? -/
import Derived.Test.YtifallippecdmaaGreatDoorSpecH
import Derived.Test.YtifallippecdmaaGreatDoorImplK
import Derived.Test.YtifallippecdmaaGreatDoorP2
import Derived.Test.YtifallippecdmaaGreatDoorSy
namespace Go.Proofs.YtifallippecdmaaGreatDoor
open Go Go.RowKit Go.Sw
set_option maxRecDepth 100000
set_option linter.unusedVariables false

theorem circuitsOf_spec (t : ByteArray) (w : World) (hs : t.size ≤ 1048576) :
    Calls Tryz.prog 7 #[.string t] w fun e w' => Below w.heap.size w w' ∧ ∃ v, e = .returned v ∧ v ≠ .slice none 0 0 ∧ w'.ownsRow w.heap.size 9 1 v (circsL t).length (texts (circsL t)) := by
  have cO := Lib.hid (l3Open_any t w hs)
  cases hok0 : netOk t
  · have hr : circsL t = [] := by rw [circsL, hok0]; rfl
    rw [hr]
    have Hok := Lib.hid hok0
    clear hr hok0
    go_enter Tryz.func7, Tryz.ntmps7
    go_wp2_with fail
    refine cO.out.mono ?_
    rintro e w1 ⟨hW1, ⟨hbad, v, rfl⟩ | ⟨hok, b, cap, rfl, hb1, hb2, hat⟩⟩
    · clear hbad
      have hmade := Lib.hid (World.ownsRow_made (e := 9) (size := 1) (base := w.heap.size) w1 #[] 0 hW1.size (by unfold maxLen; omega) rfl)
      go_wp2_with ((with_reducible show wpList _ _ _ (⟨_, .buildSlice 24 0 _, _, _, _, _⟩ :: _) _ _); refine wpList_buildSlice' rfl _ _ _ rfl rfl (str_none _) ?_)
      go_ret
      exact ⟨hW1.alloc hW1.size _, _, rfl, (fun e => by cases e), hmade.out⟩
    · rw [Hok.out] at hok; cases hok
  · have hn := netOf_ok hok0
    have hr : circsL t = txC (netOf t) (netOf t).n := by rw [circsL, hok0, txC, circP_all]; rfl
    rw [hr]
    obtain ⟨N, hN⟩ : ∃ N, netOf t = N := ⟨_, rfl⟩
    rw [hN] at hn cO ⊢
    have Hok := Lib.hid hok0
    clear hr hok0 hN
    go_enter Tryz.func7, Tryz.ntmps7
    go_wp2_with fail
    refine cO.out.mono ?_
    rintro e w1 ⟨hW1, ⟨hbad, v, rfl⟩ | ⟨hok, b, cap, rfl, hb1, hb2, hat⟩⟩
    · rw [Hok.out] at hbad; cases hbad
    · have cC := Lib.hid (l7Circuits_any b cap N hn.2 w1 hat hb2)
      clear hok hat
      go_wp2_with fail
      refine cC.out.mono ?_
      rintro e w2 ⟨hW2, v, rfl, hv, hC⟩
      have Hv := Lib.hid hv
      have HC := Lib.hid hC
      clear hv hC
      go_wp2_with fail
      go_ret
      refine ⟨hW1.trans (hW2.mono hW1.size), v, rfl, Hv.out, ?_⟩
      have ho := HC.out
      refine ⟨ho.1, ?_⟩
      rcases ho.2 with h | ⟨q, cp, cur, h1, h2, h3⟩
      · exact .inl h
      · exact .inr ⟨q, cp, cur, h1, by have := hW1.size; omega, h3⟩

/-- the sign that a circuit's text ends with -/
theorem circT_size (N : Net) (c : List Nat) : (circT N c).size = c.length + 1 := by
  rw [← digW_close]
  show (digW c ++ bs [signT (circC N c)]).size = _
  rw [ByteArray.size_append, digW_size]; rfl
theorem circT_end (N : Net) (c : List Nat) : (circT N c).extract ((circT N c).size - 1) (circT N c).size = bs [signT (circC N c)] := by
  rw [circT_size]
  apply ba_ext
  rw [ByteArray.data_extract, Array.toList_extract]
  show List.extract (bs (digT c ++ [signT (circC N c)])).data.toList _ _ = _
  rw [bs_data, bs_data, List.extract_eq_take_drop, Nat.add_sub_cancel]
  have : (digT c).length = c.length := by simp [digT]
  rw [← this, List.drop_left]; simp

theorem circsL_yes {t : ByteArray} (h : netOk t = true) : circsL t = (circL (netOf t)).map (circT (netOf t)) := by rw [circsL, h]; rfl
theorem hasB_texts (t sign : ByteArray) : hasB t sign = (plusB sign && (netOk t && (circL (netOf t)).any fun c => isC (circC (netOf t) c) sign)) := by
  unfold hasB
  cases netOk t <;> cases plusB sign <;> rfl
end Go.Proofs.YtifallippecdmaaGreatDoor
