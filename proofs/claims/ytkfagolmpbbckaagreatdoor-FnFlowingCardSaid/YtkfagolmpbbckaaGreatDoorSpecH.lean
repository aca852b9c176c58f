/- The statement's circuits, all; flowing networks. -/
import Derived.Test.YtkfagolmpbbckaaGreatDoorSpecG
import Derived.Test.YtkfagolmpbbckaaGreatDoorImplI
namespace Go.Proofs.YtkfagolmpbbckaaGreatDoor
open Go Go.RowKit Go.Sw
set_option maxRecDepth 100000
set_option linter.unusedVariables false

/-- the texts of the circuits told so far -/
def txC (N : Net) (k : Nat) : List ByteArray := (circP N k).map (circT N)
theorem txC_succ (N : Net) (k : Nat) : txC N (k + 1) = txC N k ++ txW N N.n [k] := by unfold txC txW; rw [circP_succ, List.map_append]
theorem txC_length {N : Net} (hn : N.n ≤ 5) (k : Nat) : (txC N k).length ≤ k * 6 ^ N.n := by
  unfold txC
  rw [List.length_map]; exact circP_length hn k

set_option maxHeartbeats 2000000 in
theorem l7Circuits_any (b cap : Nat) (N : Net) (hn : N.n ≤ 5) (w : World) (hat : StrsAt w b (netTexts N)) (hb : b < w.heap.size) :
    Calls Tryz.prog 66 #[.slice (some ⟨b, 0, none⟩) N.n cap] w fun e w' => Below w.heap.size w w' ∧ ∃ v, e = .returned v ∧ v ≠ .slice none 0 0 ∧ w'.ownsRow w.heap.size 9 1 v (txC N N.n).length (texts (txC N N.n)) := by
  have cW := Lib.hid (fun k (hk : k < N.n) wx (hx : Below w.heap.size w wx) => by
    have c := l7Walk_any b cap N hn N.n [k] wx (WayOk.one hk) (by simp; omega) (hat.below hx hb) (Nat.lt_of_lt_of_le hb hx.size)
    rw [wayC_one, ← digW_one] at c
    exact c)
  have cD := Lib.hid (fun k (hk : k < N.n) wx => l14Dec_any k (by omega) wx)
  have hpow : 6 ^ N.n ≤ 7776 := Nat.pow_le_pow_right (by omega) hn
  clear hat
  go_enter Tryz.func66, Tryz.ntmps66
  go_wp2_with ((with_reducible show wpList _ _ _ (⟨_, .buildSlice 31 0 _, _, _, _, _⟩ :: _) _ _); refine wpList_buildSlice' rfl _ _ _ rfl rfl (str_none _) ?_)
  have hmade : (w.alloc (.cells #[] 9)).ownsRow w.heap.size 9 1 (.slice (some ⟨w.heap.size, 0, none⟩) 0 0) 0 [] := World.ownsRow_made w #[] 0 (Nat.le_refl _) (by unfold maxLen; omega) rfl
  have Hmade := Lib.hid hmade
  clear hmade
  go_loopw [3, 4] (fun out j wr => ∃ k : Nat, k ≤ N.n ∧ j = .int .i64 k ∧ out ≠ .slice none 0 0 ∧ wr.ownsRow w.heap.size 9 1 out (txC N k).length (texts (txC N k)) ∧ Below w.heap.size w wr) (fun _ j _ => N.n - (intOf j).toNat)
  case atStart => exact ⟨0, Nat.zero_le _, rfl, (fun e => by cases e), Hmade.out, (Below.refl _ _).alloc (Nat.le_refl _) _⟩
  case round =>
    obtain ⟨k, hk, rfl, hnil, hown, hW⟩ := hrel
    have Hown := Lib.hid hown
    have Hnil := Lib.hid hnil
    have hl1 := txC_length hn k
    have hl2 : k * 6 ^ N.n ≤ 5 * 7776 := Nat.mul_le_mul (by omega) hpow
    have hlen1 : (txC N k).length ≤ 40000 := by omega
    have hlen2 := txW_length hn N.n [k]
    have hWs := hW.size
    clear hown hnil hl1 hl2
    by_cases hlt : k < N.n
    · have hkn : (k : Int) < (N.n : Int) := by omega
      have cD1 := Lib.hid (fun wx => cD.out k hlt wx)
      have cW1 := Lib.hid (fun wx hx => cW.out k hlt wx hx)
      go_wp2_with fail
      refine (cD1.out _).mono ?_
      rintro e w3 ⟨hW3, rfl⟩
      go_wp2_with fail
      refine (cW1.out w3 (hW.trans (hW3.mono hWs))).mono ?_
      rintro e w4 ⟨hW4, v5, rfl, hn5, hown5⟩
      have hB34 := hW3.trans (hW4.mono hW3.size)
      have HB4 := Lib.hid (hW.trans (hB34.mono hWs))
      have Hown4 := Lib.hid (own_below Hown.out hB34)
      have Hown5 := Lib.hid hown5
      have Hn5 := Lib.hid hn5
      clear hown5 hn5 hB34
      go_wp2_with (at_builtin; refine wpList_texts_append rfl _ _ rfl w.heap.size _ (txC N k) rfl Hown4.out Hnil.out _ _ (txW N N.n [k]) rfl Hown5.out Hn5.out (by omega) HB4.out (Nat.le_refl _) HB4.out.size ?_)
      intro v' w5 ho6 hn6 hB6
      have ho7 : w5.ownsRow w.heap.size 9 1 v' (txC N (k + 1)).length (texts (txC N (k + 1))) := by
        rw [txC_succ, List.length_append]; exact ho6
      have Ho7 := Lib.hid ho7
      have Hn6 := Lib.hid hn6
      have HB6 := Lib.hid hB6
      clear ho6 ho7 hn6 hB6
      go_wp2_with fail
      go_roundw
      case rel => exact ⟨k + 1, by omega, by go_num, Hn6.out, Ho7.out, HB6.out⟩
      case measure => simp [intOf] <;> omega
    · obtain rfl : k = N.n := by omega
      go_wp2_with fail
      go_ret
      exact ⟨hW, _, rfl, Hnil.out, Hown.out⟩

theorem ownsRow_slice {w : World} {base e size n : Nat} {v : Value} {xs : List Value} (h : w.ownsRow base e size v n xs) : ∃ a c, v = .slice a n c := by
  rcases h.2 with ⟨rfl, hz⟩ | ⟨g, cap, cur, rfl, _⟩
  · exact ⟨none, 0, by rw [hz]⟩
  · exact ⟨_, cap, rfl⟩
theorem isFlowing_spec (t : ByteArray) (w : World) (hs : t.size ≤ 1048576) :
    Calls Tryz.prog 24 #[.string t] w fun e w' => Below w.heap.size w w' ∧ e = .returned (.bool (flowB t)) := by
  have cO := Lib.hid (l3Open_any t w hs)
  cases hok0 : netOk t
  · have hr : flowB t = false := by rw [flowB, hok0]; rfl
    rw [hr]
    have Hok := Lib.hid hok0
    clear hr hok0
    go_enter Tryz.func24, Tryz.ntmps24
    go_wp2_with fail
    refine cO.out.mono ?_
    rintro e w1 ⟨hW1, ⟨hbad, v, rfl⟩ | ⟨hok, b, cap, rfl, hb1, hb2, hat⟩⟩
    · clear hbad
      go_wp2_with fail
      go_ret
      exact ⟨hW1, rfl⟩
    · rw [Hok.out] at hok; cases hok
  · have hn := netOf_ok hok0
    have hr : flowB t = decide ((txC (netOf t) (netOf t).n).length = 0) := by
      rw [flowB, hok0, Bool.true_and, txC, List.length_map, circP_all]
      cases circL (netOf t) <;> rfl
    obtain ⟨N, hN⟩ : ∃ N, netOf t = N := ⟨_, rfl⟩
    rw [hN] at hr hn cO
    have Hok := Lib.hid hok0
    have Hr := Lib.hid hr
    clear hr hok0
    go_enter Tryz.func24, Tryz.ntmps24
    go_wp2_with fail
    refine cO.out.mono ?_
    rintro e w1 ⟨hW1, ⟨hbad, v, rfl⟩ | ⟨hok, b, cap, rfl, hb1, hb2, hat⟩⟩
    · rw [Hok.out] at hbad; cases hbad
    · have cC := Lib.hid (l7Circuits_any b cap N hn.2 w1 hat hb2)
      clear hok hat
      go_wp2_with fail
      refine cC.out.mono ?_
      rintro e w2 ⟨hW2, v, rfl, hv, hC⟩
      obtain ⟨a, c, rfl⟩ := ownsRow_slice hC
      obtain ⟨m, hm⟩ : ∃ m, (txC N N.n).length = m := ⟨_, rfl⟩
      rw [hm] at Hr ⊢
      clear hC hv
      go_wp2_with fail
      go_ret
      refine ⟨hW1.trans (hW2.mono hW1.size), ?_⟩
      have hz : ((m : Int) == 0) = decide (m = 0) := by rw [Bool.eq_iff_iff]; simp
      rw [Hr.out, ← hz]; rfl
end Go.Proofs.YtkfagolmpbbckaaGreatDoor
