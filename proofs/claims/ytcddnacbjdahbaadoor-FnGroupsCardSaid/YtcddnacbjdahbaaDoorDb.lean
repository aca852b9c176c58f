/- The reference's draws of tables and networks. -/
import Derived.Test.YtcddnacbjdahbaaDoorDr
import Derived.Test.YtcddnacbjdahbaaDoorSpecT
import Derived.Test.YtcddnacbjdahbaaDoorAp
namespace Go.Proofs.YtcddnacbjdahbaaDoor
open Go Go.RowKit Go.Sw
set_option maxRecDepth 100000
set_option linter.unusedVariables false

theorem bool_xor (a b : Bool) : bits .xor .i64 ((a.toNat : Nat) : Int) ((b.toNat : Nat) : Int) = (((a ^^ b).toNat : Nat) : Int) := by cases a <;> cases b <;> decide
theorem bool_and (a b : Bool) : bits .and .i64 ((a.toNat : Nat) : Int) ((b.toNat : Nat) : Int) = (((a && b).toNat : Nat) : Int) := by cases a <;> cases b <;> decide
theorem bool_or (a b : Bool) : bits .or .i64 ((a.toNat : Nat) : Int) ((b.toNat : Nat) : Int) = (((a || b).toNat : Nat) : Int) := by cases a <;> cases b <;> decide
theorem nat_bool {k : Nat} (h : k < 2) : ∃ b : Bool, k = b.toNat := by
  have : k = 0 ∨ k = 1 := by omega
  rcases this with rfl | rfl
  · exact ⟨false, rfl⟩
  · exact ⟨true, rfl⟩
theorem bitInts_congr {m : Nat} {v u : Nat → Bool} (h : ∀ i, i < m → v i = u i) : bitInts m v = bitInts m u := by
  unfold bitInts
  exact List.map_congr_left fun i hi => by rw [h i (List.mem_range.1 hi)]
theorem bitInts_put (m : Nat) (v : Nat → Bool) (b : Bool) : bitInts (m + 1) (fun i => if i = m then b else v i) = bitInts m v ++ [((b.toNat : Nat) : Int)] := by
  rw [bitInts_succ, if_pos rfl, bitInts_congr (u := v) fun i hi => if_neg (by omega)]
/-- what a draw of a table of n inputs leaves -/
def TbAt (w w' : World) (r m n : Nat) (e : Ending) : Prop := Drw w w' r ∧ Rd w' r m ∧ ∃ f, e = .returned (.string (tabText n f))
structure L1D (w wr : World) (r m k : Nat) (out : Value) (v : Nat → Bool) : Prop where
  own : wr.ownsRow w.heap.size 3 1 out (bitInts k v).length (ints (bitInts k v))
  drw : Drw w wr r
  rd : Rd wr r m
theorem L1D.snoc {w wr w4 : World} {r m m' k : Nat} {out v' : Value} {v : Nat → Bool} (h : L1D w wr r m k out v) (b : Bool) (hr : r < w.heap.size) (hb : Below w.heap.size wr w4) (hm : m ≤ m')
    (hown : w4.ownsRow w.heap.size 3 1 v' ((bitInts k v).length + 1) (ints (bitInts k v ++ [((b.toNat : Nat) : Int)]))) : L1D w w4 r m' (k + 1) v' (fun i => if i = k then b else v i) :=
  ⟨by rw [bitInts_put, List.length_append]; exact hown, h.drw.below hb (Nat.le_refl _), (h.rd.below hb hr).more hm⟩
theorem L1D.step {w wr w4 : World} {r m m' k : Nat} {out : Value} {v : Nat → Bool} (h : L1D w wr r m k out v) (hr : r < w.heap.size) (hd : Drw wr w4 r) (hR : Rd w4 r m') : L1D w w4 r m' k out v :=
  ⟨own_same h.own fun q hq => hd.block q (own_blt h.own hq) (by have := own_ge h.own hq; omega), h.drw.trans hd, hR⟩
set_option maxHeartbeats 2000000 in
theorem l1Draw_any (r m n : Nat) (h1 : 1 ≤ n) (hn : n ≤ 5) (hm : m ≤ 900000) (w : World) (h : Rd w r m) :
    Calls Tryd.prog 193 #[.pointer (some ⟨r, 0, none⟩), .int .i64 n] w fun e w' => TbAt w w' r (m + 40) n e := by
  have hp := pw_le hn
  have h2 := pow2_le n hn
  have hpc := pw_cast n
  have hrw := h.lt
  have C := Lib.hid (fun (wx : World) (m' k : Nat) (hx : Rd wx r m') (h1 : m' ≤ 1000000) (h2 : k ≤ 2000000) => pick_any r m' k h1 h2 wx hx)
  have H := Lib.hid h
  have cB := Lib.hid (fun (s i : Nat) (hs : s < 32) (hi : i < 5) (wx : World) => l1Bit_any s i (by omega) (by omega) wx)
  clear h
  go_enter Tryd.func193, Tryd.ntmps193
  go_wp2_with ((with_reducible show wpList _ _ _ (⟨_, .buildSlice 30 0 _, _, _, _, _⟩ :: _) _ _); refine wpList_buildSlice' rfl _ _ _ rfl rfl (int_none _) ?_)
  refine (C.out _ m n (H.out.alloc _) (by omega) (by omega)).mono ?_
  rintro e w1 ⟨hD1, hR1, ka, rfl, _, hka⟩
  have hka := hka (by omega)
  go_wp2_with fail
  refine (C.out _ (m + 1) n hR1 (by omega) (by omega)).mono ?_
  rintro e w2 ⟨hD2, hR2, kb, rfl, _, hkb⟩
  have hkb := hkb (by omega)
  go_wp2_with fail
  refine (C.out _ (m + 2) 7 hR2 (by omega) (by omega)).mono ?_
  rintro e w3 ⟨hD3, hR3, kk, rfl, _, hkk⟩
  have hkk := hkk (by omega)
  go_wp2_with fail
  refine (C.out _ (m + 3) 2 hR3 (by omega) (by omega)).mono ?_
  rintro e w4 ⟨hD4, hR4, sg0, rfl, _, hsg⟩
  obtain ⟨sb, rfl⟩ := nat_bool (hsg (by omega))
  have hini : L1D w w4 r (m + 4) 0 (.slice (some ⟨w.heap.size, 0, none⟩) 0 0) (fun _ => false) :=
    ⟨own_same (World.ownsRow_made w #[] 0 (Nat.le_refl _) (by unfold maxLen; omega) rfl) (fun q hq => by
      have e : w.heap.size = q := Option.some.inj hq
      subst e
      have k1 := hD1.size
      have k2 := hD2.size
      have k3 := hD3.size
      have ka : (w.alloc (.cells #[] 3)).heap.size = w.heap.size + 1 := by simp
      rw [hD4.block _ (by omega) (by omega), hD3.block _ (by omega) (by omega), hD2.block _ (by omega) (by omega), hD1.block _ (by omega) (by omega)]), ((hD1.trans hD2).trans (hD3.trans hD4)).made, hR4⟩
  have Hini := Lib.hid hini
  clear hD1 hD2 hD3 hD4 hR1 hR2 hR3 hR4 hini hsg
  go_wp2_with fail
  go_loopw [5, 10, 11, 12, 13, 43, 46, 51, 56, 61] (fun out s _ _ _ _ _ _ _ _ wr => ∃ (k : Nat) (v : Nat → Bool), k ≤ pw n ∧ s = .int .i64 k ∧ L1D w wr r (m + 4 + k) k out v) (fun _ s _ _ _ _ _ _ _ _ _ => pw n - (intOf s).toNat)
  case atStart => exact ⟨0, _, Nat.zero_le _, rfl, Hini.out⟩
  case round =>
    obtain ⟨k, v, hk, rfl, hL⟩ := hrel
    have HL := Lib.hid hL
    have hws := hL.drw.size
    clear hL
    have hbl : (bitInts k v).length ≤ 32 := by rw [bitInts_length]; omega
    by_cases hlt : k < pw n
    · have c1 := cB.out k ka (by omega) (by omega) wr
      have c2 := cB.out k kb (by omega) (by omega) wr
      obtain ⟨xa, hxa⟩ : ∃ x, k.testBit ka = x := ⟨_, rfl⟩
      obtain ⟨yb, hyb⟩ : ∃ x, k.testBit kb = x := ⟨_, rfl⟩
      rw [hxa] at c1
      rw [hyb] at c2
      have C1 := Lib.hid c1
      have C2 := Lib.hid c2
      have q1 := bool_xor xa sb
      obtain ⟨xv, hxv⟩ : ∃ x, (xa ^^ sb) = x := ⟨_, rfl⟩
      rw [hxv] at q1
      have q2 := bool_and xv yb
      have q3 := bool_or xv yb
      have q4 := bool_xor xv yb
      clear c1 c2 hxa hyb hxv
      go_wp2_with fail
      refine C1.out.mono ?_
      rintro e w' ⟨rfl, rfl⟩
      go_wp2_with fail
      refine C2.out.mono ?_
      rintro e w' ⟨rfl, rfl⟩
      have hkk7 : kk = 0 ∨ kk = 1 ∨ kk = 2 ∨ kk = 3 ∨ kk = 4 ∨ kk = 5 ∨ kk = 6 := by omega
      rcases hkk7 with hq | hq | hq | hq | hq | hq | hq
      · have g0 : ((kk : Int) == 0) = true := by rw [beq_iff_eq]; omega
        clear hq
        go_wp2_with (first | ((with_reducible show wpList _ _ _ (⟨_, .buildSlice 30 1 _, _, _, _, _⟩ :: _) _ _); refine wpList_buildSlice' rfl _ _ _ rfl rfl (int_one _ _) ?_) | (at_builtin; refine wpList_int_append rfl _ _ rfl w.heap.size _ (bitInts k v) rfl ((HL.out.own.alloc _)) _ _ rfl (cell_new ?_) (by omega) ((Below.refl w.heap.size wr).alloc (by omega) _) ?_ ?_ ?_))
        · rfl
        · exact Nat.le_refl _
        · first | omega | (simp; omega)
        · intro v' w6 hown6 hB6
          have Hf := Lib.hid (HL.out.snoc (m' := m + 4 + (k + 1)) xv hrw hB6 (by omega) hown6)
          clear hown6 hB6
          go_wp2_with fail
          go_roundw
          case rel => exact ⟨k + 1, _, by omega, by go_num, Hf.out⟩
          case measure => simp [intOf] <;> omega
      · have g0 : ((kk : Int) == 0) = false := by rw [beq_eq_false_iff_ne]; omega
        have g1 : ((kk : Int) == 1) = true := by rw [beq_iff_eq]; omega
        clear hq
        go_wp2_with (first | ((with_reducible show wpList _ _ _ (⟨_, .buildSlice 30 1 _, _, _, _, _⟩ :: _) _ _); refine wpList_buildSlice' rfl _ _ _ rfl rfl (int_one _ _) ?_) | (at_builtin; refine wpList_int_append rfl _ _ rfl w.heap.size _ (bitInts k v) rfl ((HL.out.own.alloc _)) _ _ rfl (cell_new ?_) (by omega) ((Below.refl w.heap.size wr).alloc (by omega) _) ?_ ?_ ?_))
        · rfl
        · exact Nat.le_refl _
        · first | omega | (simp; omega)
        · intro v' w6 hown6 hB6
          have Hf := Lib.hid (HL.out.snoc (m' := m + 4 + (k + 1)) (xv && yb) hrw hB6 (by omega) hown6)
          clear hown6 hB6
          go_wp2_with fail
          go_roundw
          case rel => exact ⟨k + 1, _, by omega, by go_num, Hf.out⟩
          case measure => simp [intOf] <;> omega
      · have g0 : ((kk : Int) == 0) = false := by rw [beq_eq_false_iff_ne]; omega
        have g1 : ((kk : Int) == 1) = false := by rw [beq_eq_false_iff_ne]; omega
        have g2 : ((kk : Int) == 2) = true := by rw [beq_iff_eq]; omega
        clear hq
        go_wp2_with (first | ((with_reducible show wpList _ _ _ (⟨_, .buildSlice 30 1 _, _, _, _, _⟩ :: _) _ _); refine wpList_buildSlice' rfl _ _ _ rfl rfl (int_one _ _) ?_) | (at_builtin; refine wpList_int_append rfl _ _ rfl w.heap.size _ (bitInts k v) rfl ((HL.out.own.alloc _)) _ _ rfl (cell_new ?_) (by omega) ((Below.refl w.heap.size wr).alloc (by omega) _) ?_ ?_ ?_))
        · rfl
        · exact Nat.le_refl _
        · first | omega | (simp; omega)
        · intro v' w6 hown6 hB6
          have Hf := Lib.hid (HL.out.snoc (m' := m + 4 + (k + 1)) (xv || yb) hrw hB6 (by omega) hown6)
          clear hown6 hB6
          go_wp2_with fail
          go_roundw
          case rel => exact ⟨k + 1, _, by omega, by go_num, Hf.out⟩
          case measure => simp [intOf] <;> omega
      · have g0 : ((kk : Int) == 0) = false := by rw [beq_eq_false_iff_ne]; omega
        have g1 : ((kk : Int) == 1) = false := by rw [beq_eq_false_iff_ne]; omega
        have g2 : ((kk : Int) == 2) = false := by rw [beq_eq_false_iff_ne]; omega
        have g3 : ((kk : Int) == 3) = true := by rw [beq_iff_eq]; omega
        clear hq
        go_wp2_with (first | ((with_reducible show wpList _ _ _ (⟨_, .buildSlice 30 1 _, _, _, _, _⟩ :: _) _ _); refine wpList_buildSlice' rfl _ _ _ rfl rfl (int_one _ _) ?_) | (at_builtin; refine wpList_int_append rfl _ _ rfl w.heap.size _ (bitInts k v) rfl ((HL.out.own.alloc _)) _ _ rfl (cell_new ?_) (by omega) ((Below.refl w.heap.size wr).alloc (by omega) _) ?_ ?_ ?_))
        · rfl
        · exact Nat.le_refl _
        · first | omega | (simp; omega)
        · intro v' w6 hown6 hB6
          have Hf := Lib.hid (HL.out.snoc (m' := m + 4 + (k + 1)) (xv ^^ yb) hrw hB6 (by omega) hown6)
          clear hown6 hB6
          go_wp2_with fail
          go_roundw
          case rel => exact ⟨k + 1, _, by omega, by go_num, Hf.out⟩
          case measure => simp [intOf] <;> omega
      · have g0 : ((kk : Int) == 0) = false := by rw [beq_eq_false_iff_ne]; omega
        have g1 : ((kk : Int) == 1) = false := by rw [beq_eq_false_iff_ne]; omega
        have g2 : ((kk : Int) == 2) = false := by rw [beq_eq_false_iff_ne]; omega
        have g3 : ((kk : Int) == 3) = false := by rw [beq_eq_false_iff_ne]; omega
        have g4 : ((kk : Int) == 4) = true := by rw [beq_iff_eq]; omega
        clear hq
        go_wp2_with (first | ((with_reducible show wpList _ _ _ (⟨_, .buildSlice 30 1 _, _, _, _, _⟩ :: _) _ _); refine wpList_buildSlice' rfl _ _ _ rfl rfl (int_one _ _) ?_) | (at_builtin; refine wpList_int_append rfl _ _ rfl w.heap.size _ (bitInts k v) rfl ((HL.out.own.alloc _)) _ _ rfl (cell_new ?_) (by omega) ((Below.refl w.heap.size wr).alloc (by omega) _) ?_ ?_ ?_))
        · rfl
        · exact Nat.le_refl _
        · first | omega | (simp; omega)
        · intro v' w6 hown6 hB6
          have Hf := Lib.hid (HL.out.snoc (m' := m + 4 + (k + 1)) sb hrw hB6 (by omega) hown6)
          clear hown6 hB6
          go_wp2_with fail
          go_roundw
          case rel => exact ⟨k + 1, _, by omega, by go_num, Hf.out⟩
          case measure => simp [intOf] <;> omega
      · have g0 : ((kk : Int) == 0) = false := by rw [beq_eq_false_iff_ne]; omega
        have g1 : ((kk : Int) == 1) = false := by rw [beq_eq_false_iff_ne]; omega
        have g2 : ((kk : Int) == 2) = false := by rw [beq_eq_false_iff_ne]; omega
        have g3 : ((kk : Int) == 3) = false := by rw [beq_eq_false_iff_ne]; omega
        have g4 : ((kk : Int) == 4) = false := by rw [beq_eq_false_iff_ne]; omega
        clear hq
        go_wp2_with fail
        refine (C.out wr (m + 4 + k) 2 HL.out.rd (by omega) (by omega)).mono ?_
        rintro e w5 ⟨hD5, hR5, bk, rfl, _, hbk⟩
        obtain ⟨bb, rfl⟩ := nat_bool (hbk (by omega))
        have HL5 := Lib.hid (HL.out.step hrw hD5 hR5)
        have hws5 := hD5.size
        clear hbk hD5 hR5
        go_wp2_with (first | ((with_reducible show wpList _ _ _ (⟨_, .buildSlice 30 1 _, _, _, _, _⟩ :: _) _ _); refine wpList_buildSlice' rfl _ _ _ rfl rfl (int_one _ _) ?_) | (at_builtin; refine wpList_int_append rfl _ _ rfl w.heap.size _ (bitInts k v) rfl ((HL5.out.own.alloc _)) _ _ rfl (cell_new ?_) (by omega) ((Below.refl w.heap.size w5).alloc (by omega) _) ?_ ?_ ?_))
        · rfl
        · exact Nat.le_refl _
        · first | omega | (simp; omega)
        · intro v' w6 hown6 hB6
          have Hf := Lib.hid (HL5.out.snoc (m' := m + 4 + (k + 1)) bb hrw hB6 (by omega) hown6)
          clear hown6 hB6
          go_wp2_with fail
          go_roundw
          case rel => exact ⟨k + 1, _, by omega, by go_num, Hf.out⟩
          case measure => simp [intOf] <;> omega
      · have g0 : ((kk : Int) == 0) = false := by rw [beq_eq_false_iff_ne]; omega
        have g1 : ((kk : Int) == 1) = false := by rw [beq_eq_false_iff_ne]; omega
        have g2 : ((kk : Int) == 2) = false := by rw [beq_eq_false_iff_ne]; omega
        have g3 : ((kk : Int) == 3) = false := by rw [beq_eq_false_iff_ne]; omega
        have g4 : ((kk : Int) == 4) = false := by rw [beq_eq_false_iff_ne]; omega
        clear hq
        go_wp2_with fail
        refine (C.out wr (m + 4 + k) 2 HL.out.rd (by omega) (by omega)).mono ?_
        rintro e w5 ⟨hD5, hR5, bk, rfl, _, hbk⟩
        obtain ⟨bb, rfl⟩ := nat_bool (hbk (by omega))
        have HL5 := Lib.hid (HL.out.step hrw hD5 hR5)
        have hws5 := hD5.size
        clear hbk hD5 hR5
        go_wp2_with (first | ((with_reducible show wpList _ _ _ (⟨_, .buildSlice 30 1 _, _, _, _, _⟩ :: _) _ _); refine wpList_buildSlice' rfl _ _ _ rfl rfl (int_one _ _) ?_) | (at_builtin; refine wpList_int_append rfl _ _ rfl w.heap.size _ (bitInts k v) rfl ((HL5.out.own.alloc _)) _ _ rfl (cell_new ?_) (by omega) ((Below.refl w.heap.size w5).alloc (by omega) _) ?_ ?_ ?_))
        · rfl
        · exact Nat.le_refl _
        · first | omega | (simp; omega)
        · intro v' w6 hown6 hB6
          have Hf := Lib.hid (HL5.out.snoc (m' := m + 4 + (k + 1)) bb hrw hB6 (by omega) hown6)
          clear hown6 hB6
          go_wp2_with fail
          go_roundw
          case rel => exact ⟨k + 1, _, by omega, by go_num, Hf.out⟩
          case measure => simp [intOf] <;> omega
    · obtain rfl : k = pw n := by omega
      obtain ⟨a, cp, rfl, hcp, hI⟩ := intsAt_of_own HL.out.own
      have HI := Lib.hid hI
      have cT := Lib.hid (l1Text_any w.heap.size (pw n) a cp v (by omega) wr hI)
      clear hI
      rw [bitInts_length]
      go_wp2_with fail
      refine cT.out.mono ?_
      rintro e w5 ⟨hW5, rfl⟩
      go_wp2_with fail
      go_ret
      exact ⟨HL.out.drw.below hW5 hws, (HL.out.rd.below hW5 HL.out.rd.lt).more (by omega), v, rfl⟩
end Go.Proofs.YtcddnacbjdahbaaDoor
