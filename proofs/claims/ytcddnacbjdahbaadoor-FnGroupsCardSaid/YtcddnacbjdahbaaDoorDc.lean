/- The reference's draws of networks, and of texts that are sometimes none. -/
import Derived.Test.YtcddnacbjdahbaaDoorDb
import Derived.Test.YtcddnacbjdahbaaDoorSpecU
namespace Go.Proofs.YtcddnacbjdahbaaDoor
open Go Go.RowKit Go.Sw
set_option maxRecDepth 100000
set_option linter.unusedVariables false

/-- texts of tables of n inputs -/
def tabsL (n k : Nat) (F : Nat → Nat → Bool) : List ByteArray := (List.range k).map fun i => tabText n (F i)
theorem tabsL_length (n k : Nat) (F : Nat → Nat → Bool) : (tabsL n k F).length = k := by simp [tabsL]
theorem tabsL_put (n k : Nat) (F : Nat → Nat → Bool) (f : Nat → Bool) : tabsL n (k + 1) (fun i => if i = k then f else F i) = tabsL n k F ++ [tabText n f] := by
  unfold tabsL
  rw [List.range_succ, List.map_append]
  congr 1
  · refine List.map_congr_left fun i hi => ?_
    have := List.mem_range.1 hi
    show tabText n (if i = k then f else F i) = _
    rw [if_neg (by omega)]
  · simp
structure L3D (w wr : World) (r m n k : Nat) (out : Value) (F : Nat → Nat → Bool) : Prop where
  own : wr.ownsRow w.heap.size 9 1 out (tabsL n k F).length (texts (tabsL n k F))
  drw : Drw w wr r
  rd : Rd wr r m
theorem L3D.step {w wr w4 : World} {r m m' n k : Nat} {out : Value} {F : Nat → Nat → Bool} (h : L3D w wr r m n k out F) (hr : r < w.heap.size) (hd : Drw wr w4 r) (hR : Rd w4 r m') : L3D w w4 r m' n k out F :=
  ⟨own_same h.own fun q hq => hd.block q (own_blt h.own hq) (by have := own_ge h.own hq; omega), h.drw.trans hd, hR⟩
/-- what a draw of a network leaves -/
def NwAt (w w' : World) (r m n : Nat) (e : Ending) : Prop := Drw w w' r ∧ Rd w' r m ∧ ∃ N : Net, N.n = n ∧ e = .returned (.string (netText N))
set_option maxHeartbeats 1000000 in
theorem l3Draw_any (r m n : Nat) (h1 : 1 ≤ n) (hn : n ≤ 5) (hm : m ≤ 800000) (w : World) (h : Rd w r m) :
    Calls Tryd.prog 149 #[.pointer (some ⟨r, 0, none⟩), .int .i64 n] w fun e w' => NwAt w w' r (m + 200) n e := by
  have hrw := h.lt
  have C := Lib.hid (fun (wx : World) (m' : Nat) (hx : Rd wx r m') (h2 : m' ≤ 900000) => l1Draw_any r m' n h1 hn h2 wx hx)
  have H := Lib.hid h
  clear h
  go_enter Tryd.func149, Tryd.ntmps149
  go_wp2_with ((with_reducible show wpList _ _ _ (⟨_, .buildSlice 26 0 _, _, _, _, _⟩ :: _) _ _); refine wpList_buildSlice' rfl _ _ _ rfl rfl (str_none _) ?_)
  go_loopw [5, 6] (fun out s wr => ∃ (k : Nat) (F : Nat → Nat → Bool), k ≤ n ∧ s = .int .i64 k ∧ L3D w wr r (m + 40 * k) n k out F) (fun _ s _ => n - (intOf s).toNat)
  case atStart => exact ⟨0, fun _ _ => false, Nat.zero_le _, rfl, World.ownsRow_made w #[] 0 (Nat.le_refl _) (by unfold maxLen; omega) rfl, (Drw.refl _ _).below ((Below.refl _ _).alloc (Nat.le_refl _) _) (Nat.le_refl _), H.out.alloc _⟩
  case round =>
    obtain ⟨k, F, hk, rfl, hL⟩ := hrel
    have HL := Lib.hid hL
    have hws := hL.drw.size
    clear hL
    have hbl : (tabsL n k F).length ≤ 5 := by rw [tabsL_length]; omega
    by_cases hlt : k < n
    · go_wp2_with fail
      refine (C.out wr (m + 40 * k) HL.out.rd (by omega)).mono ?_
      rintro e w5 ⟨hD5, hR5, f, rfl⟩
      have HL5 := Lib.hid (HL.out.step hrw hD5 hR5)
      have hws5 := hD5.size
      clear hD5 hR5
      obtain ⟨tt, htt⟩ : ∃ t, tabText n f = t := ⟨_, rfl⟩
      have Hput := Lib.hid (tabsL_put n k F f)
      rw [htt] at Hput ⊢
      clear htt
      go_wp2_with (first | ((with_reducible show wpList _ _ _ (⟨_, .buildSlice 26 1 _, _, _, _, _⟩ :: _) _ _); refine wpList_buildSlice' rfl _ _ _ rfl rfl (str_one _ _) ?_) | (at_builtin; refine wpList_text_appendK rfl _ _ rfl w.heap.size _ (tabsL n k F) rfl ((HL5.out.own.alloc _)) _ _ rfl (cell_new ?_) (by omega) ((Below.refl w.heap.size w5).alloc (by omega) _) ?_ ?_ ?_))
      · first | rfl | simp
      · exact Nat.le_refl _
      · first | omega | (simp; omega)
      · intro v' w6 hown6 hB6 _
        have Hf := Lib.hid (show L3D w w6 r (m + 40 * (k + 1)) n (k + 1) v' (fun i => if i = k then f else F i) from
          ⟨by rw [Hput.out, List.length_append]; exact hown6, HL5.out.drw.below hB6 (Nat.le_refl _), (HL5.out.rd.below hB6 hrw).more (by omega)⟩)
        clear hown6 hB6
        go_wp2_with fail
        go_roundw
        case rel => exact ⟨k + 1, _, by omega, by go_num, Hf.out⟩
        case measure => simp [intOf] <;> omega
    · obtain rfl : k = n := by omega
      obtain ⟨b, cap, rfl, _, _⟩ := own_slice HL.out.own (by rw [tabsL_length]; omega)
      have hcells : StrsAt wr b (tabsL k k F) := strsAt_of_own HL.out.own
      have hN : netTexts ⟨k, F⟩ = tabsL k k F := rfl
      have hsz : ∀ p ∈ tabsL k k F, p.size ≤ 64 := fun p hp => by
        obtain ⟨i, _, rfl⟩ := List.mem_map.1 hp
        rw [tabText_size]; have := pw_le hn; omega
      have cT := Lib.hid (l3Text_any b cap (tabsL k k F) (by omega) hsz wr hcells)
      have hfin : netText ⟨k, F⟩ = bs (joinL ((tabsL k k F).map (·.data.toList))) := rfl
      rw [← hfin] at cT
      clear hcells hsz hfin hN
      go_wp2_with fail
      refine cT.out.mono ?_
      rintro e w5 ⟨rfl, rfl⟩
      go_wp2_with fail
      go_ret
      exact ⟨HL.out.drw, HL.out.rd.more (by omega), ⟨k, F⟩, rfl, rfl⟩
end Go.Proofs.YtcddnacbjdahbaaDoor
