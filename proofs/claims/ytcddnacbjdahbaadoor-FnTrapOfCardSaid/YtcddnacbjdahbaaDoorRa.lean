/- The program's states that single steps lead to. -/
import Derived.Test.YtcddnacbjdahbaaDoorIv
import Derived.Test.YtcddnacbjdahbaaDoorImplB
namespace Go.Proofs.YtcddnacbjdahbaaDoor
open Go Go.RowKit Go.Sw
set_option maxRecDepth 100000
set_option linter.unusedVariables false

theorem reachableFrom1_any (bv bm n s : Nat) (S : Nat → Bool) (hs : s < 32) (w : World) (hbv : bv < w.heap.size) (hc : w.cell? ⟨bv, 0, none⟩ = some (.map (some bm))) (hM : SetM w bm n S) :
    Calls Tryd.prog 126 #[.int .i64 s, .pointer (some ⟨bv, 0, none⟩)] w fun e w' => Below w.heap.size w w' ∧ e = .returned (.bool (S s)) := by
  have HM := Lib.hid hM
  clear hM
  go_enter Tryd.func126, Tryd.ntmps126
  go_wp2_with (at_lookup; refine wpList_lookup_setM _ rfl _ _ rfl bm n S rfl HM.out s hs rfl ?_)
  go_ret
  exact ⟨Below.refl _ _, rfl⟩
theorem reachableFrom_impl (t : ByteArray) (s : Nat) (w : World) (hs : t.size ≤ 1048576) (hok : netOk t = true) (hx : s < pw (netOf t).n) :
    Calls Tryd.prog 53 #[.string t, .int .i64 s] w fun e w' => Below w.heap.size w w' ∧ ∃ a c, e = .returned (.slice a (stR (netOf t) s).length c) ∧ IntsAt w' w.heap.size a (nats (stR (netOf t) s)) := by
  have h : stB t s = true := by
    unfold stB
    rw [hok, Bool.true_and, decide_eq_true (by omega), decide_eq_true (by omega)]; rfl
  have hn := netOf_ok hok
  have hpw := pw_le hn.2
  have c := Lib.hid (stateOf_yes t s w hs h)
  clear h hok
  go_enter Tryd.func53, Tryd.ntmps53
  go_wp2_with fail
  refine c.out.mono ?_
  rintro e w1 ⟨hW1, b, cap, rfl, hb1, hb2, hat⟩
  have cR := Lib.hid (reach_any b cap s (netOf t) hn.2 hx w1 hat hb2)
  have hW1s := hW1.size
  clear hat
  go_wp2_with fail
  refine cR.out.mono ?_
  rintro e w2 ⟨hW2, nS, rfl, hM⟩
  have hltM := hM.lt
  have hB3 : Below w2.heap.size w2 (w2.alloc (.cells #[.map (some w1.heap.size)] 100)) := (Below.refl _ _).alloc (Nat.le_refl _) _
  have hM3 := hM.below hB3
  have hcell : (w2.alloc (.cells #[.map (some w1.heap.size)] 100)).cell? ⟨w2.heap.size, 0, none⟩ = some (.map (some w1.heap.size)) := by
    rw [cell_of_row _ _ 0 _ _ (0, 0) (heap_alloc_last _ _)]; rfl
  have hsz : (w2.alloc (.cells #[.map (some w1.heap.size)] 100)).heap.size = w2.heap.size + 1 := by simp
  have cW := Lib.hid (which_any b cap (netOf t) hn.2 126 #[.pointer (some ⟨w2.heap.size, 0, none⟩)] (arB (netOf t) s) (w2.alloc (.cells #[.map (some w1.heap.size)] 100)) (fun _ _ => rfl) (fun x wx hx hwx => by
    have hwxs := hwx.size
    exact reachableFrom1_any w2.heap.size w1.heap.size nS x _ (by omega) wx (by omega) ((hwx.cell (by rw [hsz]; exact Nat.lt_succ_self _)).trans hcell) (hM3.below hwx)))
  have hW2s := hW2.size
  clear hM hM3 hcell
  go_wp2_with fail
  refine cW.out.mono ?_
  rintro e w4 ⟨hW4, a, c4, rfl, hI⟩
  have HI := Lib.hid hI
  clear hI
  go_wp2_with fail
  go_ret
  exact ⟨(hW1.trans (hW2.mono hW1s)).trans ((hB3.trans (hW4.mono (by omega))).mono (by omega)), a, c4, rfl, HI.out.mono (by omega)⟩
end Go.Proofs.YtcddnacbjdahbaaDoor
