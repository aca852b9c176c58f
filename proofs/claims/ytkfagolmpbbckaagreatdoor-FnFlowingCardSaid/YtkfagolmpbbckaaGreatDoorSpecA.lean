/- The reference's first functions: bits of states, tables as texts, networks as lists of texts, steps. -/
import Derived.Test.YtkfagolmpbbckaaGreatDoorProg
import Derived.Test.YtkfagolmpbbckaaGreatDoorP1
namespace Go.Proofs.YtkfagolmpbbckaaGreatDoor
open Go Go.RowKit Go.Sw
set_option maxRecDepth 100000
set_option linter.unusedVariables false

theorem l1In_b (n lo hi : Int) (b : Bool) (hb : inI n lo hi = b) (w : World) :
    Calls Tryz.prog 130 #[.int .i64 n, .int .i64 lo, .int .i64 hi] w fun e w' => e = .returned (.bool b) ∧ w = w' := by
  subst hb
  unfold inI
  by_cases h1 : lo ≤ n <;> by_cases h2 : n ≤ hi <;> simp only [h1, h2]
  all_goals
    go_enter Tryz.func130, Tryz.ntmps130
    go_wp2
    go_ret
    exact ⟨rfl, rfl⟩

theorem l1Bit_any (s i : Nat) (hs : s < 2 ^ 60) (hi : i < 60) (w : World) :
    Calls Tryz.prog 92 #[.int .i64 s, .int .i64 i] w fun e w' => e = .returned (.int .i64 (s.testBit i).toNat) ∧ w = w' := by
  go_enter Tryz.func92, Tryz.ntmps92
  go_wp2
  go_ret
  exact ⟨rfl, rfl⟩

theorem l1Set_any (s i : Nat) (v : Bool) (hs : s < 32) (hi : i < 5) (w : World) :
    Calls Tryz.prog 110 #[.int .i64 s, .int .i64 i, .int .i64 v.toNat] w fun e w' => e = .returned (.int .i64 (setN s i v)) ∧ w = w' := by
  have h2 := pow2_le i (by omega)
  obtain ⟨h3, h4⟩ := set_facts s i v hs hi
  have h5 : (0 : Int) ≤ ((v.toNat : Nat) : Int) * 2 ^ i ∧ ((v.toNat : Nat) : Int) * 2 ^ i ≤ 32 := by cases v <;> simp <;> omega
  go_enter Tryz.func110, Tryz.ntmps110
  go_wp2
  go_ret
  exact ⟨rfl, rfl⟩

theorem l1At_any (n : Nat) (f : Nat → Bool) (s : Nat) (hn : n ≤ 5) (hs : s < pw n) (w : World) :
    Calls Tryz.prog 109 #[.string (tabText n f), .int .i64 s] w fun e w' => e = .returned (.int .i64 (f s).toNat) ∧ w = w' := by
  obtain ⟨t, ht⟩ : ∃ t, tabText n f = t := ⟨_, rfl⟩
  have hsz : s < t.size := by rw [← ht, tabText_size]; exact hs
  have hv : t[s] = if f s then 49 else 48 := by subst ht; exact tabText_get n f s hs
  have hp := pw_le hn
  have hsz2 : t.size ≤ 32 := by rw [← ht, tabText_size]; omega
  rw [ht]
  have hv2 : ((t[s].toNat : Nat) : Int) - 48 = (f s).toNat := by rw [hv]; cases f s <;> rfl
  have hv3 : 48 ≤ t[s].toNat ∧ t[s].toNat ≤ 49 := by rw [hv]; cases f s <;> decide
  have Hv2 := Lib.hid hv2
  clear hv2 hv ht
  go_enter Tryz.func109, Tryz.ntmps109
  go_wp2
  go_ret
  exact ⟨ret_int Hv2.out, rfl⟩

theorem l1Inputs_any (m : Nat) (w : World) (hm : m ≤ 1048576) :
    Calls Tryz.prog 99 #[.int .i64 m] w fun e w' => e = .returned (.int .i64 (lnI m)) ∧ w = w' := by
  go_enter Tryz.func99, Tryz.ntmps99
  go_wp2_with fail
  go_loop [3] (fun n => ∃ k : Nat, 1 ≤ k ∧ k ≤ 6 ∧ n = .int .i64 k ∧ (0 < logN m → k ≤ logN m)) (fun n => 6 - (intOf n).toNat)
  case atStart => exact ⟨1, by omega, by omega, rfl, fun h => by omega⟩
  case round =>
    obtain ⟨k, h1, h6, rfl, hk⟩ := hrel
    by_cases hlt : k ≤ 5
    · have h2 := pow2_le k hlt
      by_cases he : m = pw k
      · have hne : ((m : Int) == 2 ^ k) = true := by rw [he, ← pw_cast]; simp
        have hres : lnI m = (k : Int) := by rw [lnI, he, logN_pw h1 hlt, if_pos (by omega)]
        have Hres := Lib.hid hres
        clear hres hk he
        go_wp2_with fail
        go_ret
        exact ⟨ret_int Hres.out.symm, rfl⟩
      · have hne : ((m : Int) == 2 ^ k) = false := by
          rw [pw_cast, beq_eq_false_iff_ne]; omega
        have hk' : 0 < logN m → k + 1 ≤ logN m := fun h => by
          have := hk h
          by_cases e : k = logN m
          · rcases logN_spec m with h0 | h0
            · omega
            · exact absurd (e ▸ h0.2.2) he
          · omega
        have Hk' := Lib.hid hk'
        clear hk hk'
        go_wp2_with fail
        go_round
        case rel => exact ⟨k + 1, by omega, by omega, by go_num, Hk'.out⟩
        case measure => simp [intOf] <;> omega
    · have hres : lnI m = -1 := by
        rw [lnI, if_neg]; intro h; have := hk h; rcases logN_spec m with h0 | h0 <;> omega
      have Hres := Lib.hid hres
      clear hres hk
      go_wp2_with fail
      go_ret
      exact ⟨ret_int Hres.out.symm, rfl⟩

theorem tableValid_any (f : ByteArray) (w : World) (hm : f.size ≤ 1048576) :
    Calls Tryz.prog 98 #[.string f] w fun e w' => e = .returned (.bool (tabOk f)) ∧ w = w' := by
  go_enter Tryz.func98, Tryz.ntmps98
  go_wp2_with fail
  go_loop [3] (fun i => ∃ j : Nat, j ≤ f.size ∧ i = .int .i64 j ∧ ∀ m (hm : m < f.size), m < j → isBit f[m] = true) (fun i => f.size - (intOf i).toNat)
  case atStart => exact ⟨0, Nat.zero_le _, rfl, fun m hm h => absurd h (Nat.not_lt_zero _)⟩
  case round =>
    obtain ⟨j, hj, rfl, hall⟩ := hrel
    have Hall := Lib.hid hall
    clear hall
    by_cases hjl : j < f.size
    · obtain ⟨v, hv⟩ : ∃ v, f[j] = v := ⟨_, rfl⟩
      cases hb : isBit v
      · have hbad : tabOk f = false := tab_bad f j hjl (by rw [hv]; exact hb)
        have Hbad := Lib.hid hbad
        clear hbad
        obtain ⟨e1, e2⟩ := bit_no v hb
        clear hb
        go_wp2_with fail
        go_ret
        exact ⟨by rw [Hbad.out]; rfl, rfl⟩
      · obtain ⟨hb1, hb2⟩ | ⟨hb1, hb2⟩ := bit_yes v hb
        all_goals
          have hall' : ∀ m (hm : m < f.size), m < j + 1 → isBit f[m] = true := fun m hm hlt' => by
            by_cases e : m = j
            · subst e; rw [hv]; exact hb
            · exact Hall.out m hm (by omega)
          have Hall' := Lib.hid hall'
          clear hall' hb
          go_wp2_with fail
          go_round
          case rel => exact ⟨j + 1, by omega, by go_num, Hall'.out⟩
          case measure => simp [intOf] <;> omega
    · obtain rfl : j = f.size := by omega
      cases hl : decide (0 < logN f.size)
      · have hbad : tabOk f = false := by rw [tabOk, hl]; rfl
        have hln : lnI f.size = -1 := by rw [lnI, if_neg (by simpa using hl)]
        have Hbad := Lib.hid hbad
        clear hbad hl
        go_wp2_with (go_at_call 99; refine (l1Inputs_any f.size _ hm).mono ?_; rintro e w' ⟨rfl, rfl⟩)
        go_ret
        exact ⟨by rw [Hbad.out]; rfl, rfl⟩
      · have hl0 : 0 < logN f.size := by simpa using hl
        have hok : tabOk f = true := tab_good f hl0 (fun m hm => Hall.out m hm hm)
        have hln : lnI f.size = (logN f.size : Int) := by rw [lnI, if_pos hl0]
        have Hok := Lib.hid hok
        clear hok hl
        go_wp2_with (go_at_call 99; refine (l1Inputs_any f.size _ hm).mono ?_; rintro e w' ⟨rfl, rfl⟩)
        go_ret
        exact ⟨by rw [Hok.out]; rfl, rfl⟩

theorem str_row : (Tryz.prog.info? 9).map (fun i => (i.zero, i.size, i.bytes)) = some (some (.string ByteArray.empty), 1, 16) := by kernel_rfl
theorem str_one (s : ByteArray) (w : World) : (Instr.buildSlice 31 1 [(0, .string s)].toArray).run Tryz.prog w =
    .ok (.slice (some ⟨w.heap.size, 0, none⟩) 1 1) (w.alloc (.cells #[.string s] 9)) := by kernel_rfl
theorem str_none (w : World) : (Instr.buildSlice 31 0 [].toArray).run Tryz.prog w =
    .ok (.slice (some ⟨w.heap.size, 0, none⟩) 0 0) (w.alloc (.cells #[] 9)) := by kernel_rfl
/-- append of a text to a list of texts that the call owns -/
theorem wpList_str_append {ops : Array Oper} {rest : List Oper} {o : Oper} {a : Act} {w : World} {Q : Exit → Act → World → Prop} (hgd : o.guard = none) (s x : Operand)
    (ho : o.op = .call { callee := .builtin .append, args := #[s, x], argTypes := #[31, 31] })
    (base : Nat) (v : Value) (k : Nat) (xs : List Value) (hs : a.eval s = v) (hown : w.ownsRow base 9 1 v k xs)
    (b : Nat) (p : ByteArray) (hx : a.eval x = .slice (some ⟨b, 0, none⟩) 1 1) (hc : w.cell? ⟨b, 0, none⟩ = some (.string p)) (hk : k ≤ 4000000) {B : Nat} {w0 : World} (hW : Below B w0 w) (hB : B ≤ base) (hB0 : base ≤ w.heap.size)
    (h : ∀ v' w', w'.ownsRow base 9 1 v' (k + 1) (xs ++ [.string p]) → Below B w0 w' → wpList Tryz.prog ops Q rest (a.put o.dst v') w') : wpList Tryz.prog ops Q (o :: rest) a w := by
  obtain ⟨i0, hi, hz0, hz1, hz2⟩ := info_parts str_row
  refine wpList_append_own _ hgd s x 31 ho base 9 i0 (.string ByteArray.empty) 1 16 Tryz.underlying31 hi hz0 hz1 hz2 rfl (by decide) v k xs hs hown ⟨b, 0, none⟩ 1 1 [.string p] hx rfl
    (fun j u hu => by
      rcases j with _ | j
      · simp at hu; subst hu; simpa [Addr.add] using hc
      · simp at hu) (fun u hu => by simp at hu; subst hu; rfl) (by unfold maxLen; omega) (by omega) hB0 ?_
  intro v' w' h1 h2 _
  exact h v' w' h1 (hW.grown h2 (by omega) fun g hg => Nat.le_trans hB (own_ge hown hg))

/-- the values of texts -/
def strs (ps : List (List UInt8)) : List Value := ps.map fun l => .string (bs l)
theorem strs_snoc (ps : List (List UInt8)) (l : List UInt8) : strs (ps ++ [l]) = strs ps ++ [.string (bs l)] := by simp [strs]
theorem strs_length (ps : List (List UInt8)) : (strs ps).length = ps.length := by simp [strs]

/-- how far the reference's cutting has come: the pieces that are done, and where the next one begins -/
def CutSt (l : List UInt8) (i fr : Nat) (D : List (List UInt8)) : Prop :=
  D.length ≤ i ∧ (i ≤ l.length → fr ≤ i ∧ (∀ j (h : j < l.length), fr ≤ j → j < i → l[j] ≠ 44) ∧ cuts 44 l = D ++ cuts 44 (l.drop fr)) ∧ (i = l.length + 1 → cuts 44 l = D)
theorem cutSt_zero (l : List UInt8) : CutSt l 0 0 [] := ⟨by simp, fun _ => ⟨by omega, fun j _ _ h => by omega, rfl⟩, fun h => by omega⟩
theorem cutSt_on {l : List UInt8} {i fr : Nat} {D : List (List UInt8)} (h : CutSt l i fr D) (hi : i < l.length) (hb : l[i] ≠ 44) : CutSt l (i + 1) fr D := by
  obtain ⟨h1, h2, h3⟩ := h
  obtain ⟨h4, h5, h6⟩ := h2 (by omega)
  refine ⟨by omega, fun _ => ⟨by omega, fun j hj ha hb' => ?_, h6⟩, fun e => by omega⟩
  by_cases e : j = i
  · subst e; exact hb
  · exact h5 j hj ha (by omega)
theorem cutSt_piece {l : List UInt8} {i fr : Nat} (h : ∀ j (h : j < l.length), fr ≤ j → j < i → l[j] ≠ 44) : ∀ b ∈ (l.drop fr).take (i - fr), b ≠ 44 := by
  intro b hb
  obtain ⟨m, hm, rfl⟩ := List.getElem_of_mem hb
  simp only [List.length_take, List.length_drop] at hm
  simp only [List.getElem_take, List.getElem_drop]
  exact h _ _ (by omega) (by omega)
theorem cutSt_cut {l : List UInt8} {i fr : Nat} {D : List (List UInt8)} (h : CutSt l i fr D) (hi : i < l.length) (hb : l[i] = 44) : CutSt l (i + 1) (i + 1) (D ++ [(l.drop fr).take (i - fr)]) := by
  obtain ⟨h1, h2, h3⟩ := h
  obtain ⟨h4, h5, h6⟩ := h2 (by omega)
  refine ⟨by simp; omega, fun _ => ⟨by omega, fun j hj ha hb' => by omega, ?_⟩, fun e => by omega⟩
  have e1 : l.drop fr = (l.drop fr).take (i - fr) ++ 44 :: l.drop (i + 1) := by
    conv => lhs; rw [← List.take_append_drop (i - fr) (l.drop fr)]
    rw [List.drop_drop, show fr + (i - fr) = i by omega, List.drop_eq_getElem_cons hi, hb]
  rw [h6, e1, cuts_append 44 _ _ (cutSt_piece h5), ← e1]; simp
theorem cutSt_end {l : List UInt8} {fr : Nat} {D : List (List UInt8)} (h : CutSt l l.length fr D) (fr' : Nat) : CutSt l (l.length + 1) fr' (D ++ [(l.drop fr).take (l.length - fr)]) := by
  obtain ⟨h1, h2, h3⟩ := h
  obtain ⟨h4, h5, h6⟩ := h2 (by omega)
  refine ⟨by simp; omega, fun h => by omega, fun _ => ?_⟩
  have e1 : (l.drop fr).take (l.length - fr) = l.drop fr := List.take_of_length_le (by simp)
  have h7 := cutSt_piece h5
  rw [e1] at h7 ⊢
  rw [h6, cuts_none 44 _ h7]

theorem l14Cut_any (s : ByteArray) (w : World) (hs : s.size ≤ 1048576) :
    Calls Tryz.prog 97 #[.string s, .int .u8 44] w fun e w' => Below w.heap.size w w' ∧ ∃ v, e = .returned v ∧ w'.ownsRow w.heap.size 9 1 v (partsOf s).length ((partsOf s).map Value.string) := by
  go_enter Tryz.func97, Tryz.ntmps97
  go_wp2_with ((with_reducible show wpList _ _ _ (⟨_, .buildSlice 31 0 _, _, _, _, _⟩ :: _) _ _); refine wpList_buildSlice' rfl _ _ _ rfl rfl (str_none _) ?_)
  go_loopw [5, 6, 7] (fun out fr i wr => ∃ i' fr' : Nat, ∃ D : List (List UInt8), i' ≤ s.size + 1 ∧ i = .int .i64 i' ∧ fr = .int .i64 fr' ∧ CutSt s.data.toList i' fr' D ∧
    wr.ownsRow w.heap.size 9 1 out D.length (strs D) ∧ Below w.heap.size w wr) (fun _ _ i _ => s.size + 1 - (intOf i).toNat)
  case atStart => exact ⟨0, 0, [], by omega, rfl, rfl, cutSt_zero _, World.ownsRow_made w #[] 0 (Nat.le_refl _) (by simp [maxLen]) rfl, (Below.refl _ _).alloc (Nat.le_refl _) _⟩
  case round =>
    obtain ⟨i, fr, D, hi, rfl, rfl, hst, hown, hW⟩ := hrel
    have hll : s.data.toList.length = s.size := by simp
    by_cases hlt : i < s.size
    · obtain ⟨v, hv⟩ : ∃ v, s[i] = v := ⟨_, rfl⟩
      have hne : ((i : Int) == (s.size : Int)) = false := by rw [beq_eq_false_iff_ne]; omega
      have hv2 : s.data.toList[i]'(by simpa using hlt) = v := by rw [byte_at s i hlt]; exact hv
      have hfr := (hst.2.1 (by omega)).1
      have hD := hst.1
      have Hst := Lib.hid hst
      have Hown := Lib.hid hown
      have Hv2 := Lib.hid hv2
      have Hll := Lib.hid hll
      clear hst hown hv2 hll
      by_cases hb : v = 44
      · have hc : ((v.toNat : Int) == 44) = true := by rw [hb]; rfl
        have Hb := Lib.hid hb
        clear hb
        go_wp2_with (first | ((with_reducible show wpList _ _ _ (⟨_, .buildSlice 31 1 _, _, _, _, _⟩ :: _) _ _); refine wpList_buildSlice' rfl _ _ _ rfl rfl (str_one (s.extract fr i) _) ?_) | (at_builtin; refine wpList_str_append rfl _ _ rfl w.heap.size _ D.length _ rfl (Hown.out.alloc _) _ _ rfl (cell_new ?_) (by omega) (hW.alloc hW.size _) (Nat.le_refl _) ?_ ?_))
        · rfl
        · exact Nat.le_trans hW.size (by simp)
        · intro v' w2 hown2 hW2
          have hown3 : w2.ownsRow w.heap.size 9 1 v' (D ++ [(s.data.toList.drop fr).take (i - fr)]).length (strs (D ++ [(s.data.toList.drop fr).take (i - fr)])) := by
            rw [strs_snoc, List.length_append, ← Lib.extract_data, bs_of]; exact hown2
          have Hown3 := Lib.hid hown3
          have HW2 := Lib.hid hW2
          clear hown2 hown3 hW2
          go_wp2_with fail
          go_roundw
          case rel => exact ⟨i + 1, i + 1, _, by omega, by go_num, by go_num, cutSt_cut Hst.out (by rw [Hll.out]; exact hlt) (by rw [Hv2.out]; exact Hb.out), Hown3.out, HW2.out⟩
          case measure => simp [intOf] <;> omega
      · have hc : ((v.toNat : Int) == 44) = false := by
          rw [beq_eq_false_iff_ne]; intro e; exact hb (UInt8.toNat_inj.1 (by have : (44 : UInt8).toNat = 44 := rfl; omega))
        have Hb := Lib.hid hb
        clear hb
        go_wp2_with fail
        go_roundw
        case rel => exact ⟨i + 1, fr, D, by omega, by go_num, rfl, cutSt_on Hst.out (by rw [Hll.out]; exact hlt) (by rw [Hv2.out]; exact Hb.out), Hown.out, hW⟩
        case measure => simp [intOf] <;> omega
    · by_cases he : i = s.size
      · subst he
        have hfr := (hst.2.1 (by omega)).1
        have hD := hst.1
        have Hst := Lib.hid hst
        have Hown := Lib.hid hown
        have Hll := Lib.hid hll
        clear hst hown hll
        go_wp2_with (first | ((with_reducible show wpList _ _ _ (⟨_, .buildSlice 31 1 _, _, _, _, _⟩ :: _) _ _); refine wpList_buildSlice' rfl _ _ _ rfl rfl (str_one (s.extract fr s.size) _) ?_) | (at_builtin; refine wpList_str_append rfl _ _ rfl w.heap.size _ D.length _ rfl (Hown.out.alloc _) _ _ rfl (cell_new ?_) (by omega) (hW.alloc hW.size _) (Nat.le_refl _) ?_ ?_))
        · rfl
        · exact Nat.le_trans hW.size (by simp)
        · intro v' w2 hown2 hW2
          have hown3 : w2.ownsRow w.heap.size 9 1 v' (D ++ [(s.data.toList.drop fr).take (s.data.toList.length - fr)]).length (strs (D ++ [(s.data.toList.drop fr).take (s.data.toList.length - fr)])) := by
            rw [strs_snoc, List.length_append, Hll.out, ← Lib.extract_data, bs_of]; exact hown2
          have Hown3 := Lib.hid hown3
          have HW2 := Lib.hid hW2
          have hst2 : CutSt s.data.toList (s.size + 1) (s.size + 1) (D ++ [(s.data.toList.drop fr).take (s.data.toList.length - fr)]) := by
            have := Hst.out; rw [← Hll.out] at this ⊢; exact cutSt_end this _
          have Hst2 := Lib.hid hst2
          clear hown2 hown3 hW2 hst2
          go_wp2_with fail
          go_roundw
          case rel => exact ⟨s.size + 1, s.size + 1, _, by omega, by go_num, by go_num, Hst2.out, Hown3.out, HW2.out⟩
          case measure => simp [intOf] <;> omega
      · obtain rfl : i = s.size + 1 := by omega
        have hfin : cuts 44 s.data.toList = D := hst.2.2 (by omega)
        have hres : wr.ownsRow w.heap.size 9 1 u5 (partsOf s).length ((partsOf s).map Value.string) := by
          have e : (partsOf s).map Value.string = strs D := by rw [partsOf, hfin]; simp [strs]
          rw [e, show (partsOf s).length = D.length by rw [partsOf, hfin]; simp]; exact hown
        have Hres := Lib.hid hres
        clear hres hown hst hfin hll
        go_wp2_with fail
        go_ret
        exact ⟨hW, _, rfl, Hres.out⟩

/-- texts lie in block b -/
def StrsAt (w : World) (b : Nat) (ps : List ByteArray) : Prop := ∀ i (h : i < ps.length), w.cell? ⟨b, i, none⟩ = some (.string ps[i])
theorem StrsAt.below {w w' : World} {b B : Nat} {ps : List ByteArray} (h : StrsAt w b ps) (hb : Below B w w') (hlt : b < B) : StrsAt w' b ps :=
  fun i hi => by rw [hb.cell hlt]; exact h i hi
theorem StrsAt.same {w w' : World} {b : Nat} {ps : List ByteArray} (h : StrsAt w b ps) (hb : w'.heap[b]? = w.heap[b]?) : StrsAt w' b ps :=
  fun i hi => by rw [World.cell?_of_block (w := w) (a := ⟨b, i, none⟩) hb]; exact h i hi
theorem strsAt_of_own {w : World} {base e b cap n : Nat} {ps : List ByteArray} (h : w.ownsRow base e 1 (.slice (some ⟨b, 0, none⟩) n cap) n (ps.map Value.string)) : StrsAt w b ps := by
  intro i hi
  have := h.cells (g := b) rfl i (.string ps[i]) (by simp [hi])
  rw [show (⟨b, 0, none⟩ : Addr).add i = ⟨b, i, none⟩ by unfold Addr.add; split <;> simp_all] at this
  exact this

theorem l3Open_any (s : ByteArray) (w : World) (hs : s.size ≤ 1048576) :
    Calls Tryz.prog 54 #[.string s] w fun e w' => Below w.heap.size w w' ∧
      ((netOk s = false ∧ ∃ v, e = .returned (.tuple #[.slice v 0 0, .bool false])) ∨
       (netOk s = true ∧ ∃ b cap, e = .returned (.tuple #[.slice (some ⟨b, 0, none⟩) (netOf s).n cap, .bool true]) ∧ w.heap.size ≤ b ∧ b < w'.heap.size ∧ StrsAt w' b (netTexts (netOf s)))) := by
  go_enter Tryz.func54, Tryz.ntmps54
  go_wp2_with fail
  refine (l14Cut_any s w hs).mono ?_
  rintro e w1 ⟨hW1, v, rfl, hown⟩
  obtain ⟨b, cap, rfl, hb1, hb2⟩ := own_slice hown (parts_pos s)
  have hlen : (partsOf s).length ≤ 1048577 := by
    rw [partsOf_length]; have := List.count_le_length (a := (44 : UInt8)) (l := s.data.toList); have h2 : s.data.toList.length = s.size := by simp
    omega
  have hat : StrsAt w1 b (partsOf s) := strsAt_of_own hown
  have Hat := Lib.hid hat
  have Hown := Lib.hid hown
  clear hat hown
  go_wp2_with fail
  go_loopw [5] (fun i wr => (∃ k : Nat, k ≤ (partsOf s).length ∧ i = .int .i64 k ∧ ∀ j (hj : j < (partsOf s).length), j < k → partOk (partsOf s).length (partsOf s)[j] = true) ∧ wr = w1) (fun i _ => (partsOf s).length - (intOf i).toNat)
  case atStart => exact ⟨⟨0, Nat.zero_le _, rfl, fun j hj h => absurd h (Nat.not_lt_zero _)⟩, rfl⟩
  case round =>
    obtain ⟨⟨k, hk, rfl, hall⟩, rfl⟩ := hrel
    have Hall := Lib.hid hall
    clear hall
    by_cases hlt : k < (partsOf s).length
    · obtain ⟨p, hp⟩ : ∃ p, (partsOf s)[k] = p := ⟨_, rfl⟩
      have hps : p.size ≤ 1048576 := Nat.le_trans (parts_le s p (by rw [← hp]; exact List.getElem_mem _)) hs
      have hcell : wr.cell? ⟨b, k, none⟩ = some (.string p) := by rw [← hp]; exact Hat.out k hlt
      have Hp := Lib.hid hp
      clear hp
      cases hpo : partOk (partsOf s).length p
      · have hbad : netOk s = false := by
          unfold netOk; rw [List.all_eq_false]
          exact ⟨p, by rw [← Hp.out]; exact List.getElem_mem _, by rw [hpo]; decide⟩
        have Hbad := Lib.hid hbad
        clear hbad
        have hco := tableValid_any p wr hps
        cases hto : tabOk p
        · rw [hto] at hco
          have Hco := Lib.hid hco
          clear hco hto hpo
          go_wp2_with (first | (go_at_call 98; refine Hco.out.mono ?_; rintro e w' ⟨rfl, rfl⟩) | ((with_reducible show wpList _ _ _ (⟨_, .buildSlice 31 0 _, _, _, _, _⟩ :: _) _ _); refine wpList_buildSlice' rfl _ _ _ rfl rfl (str_none _) ?_))
          go_ret2
          exact ⟨hW1.alloc hW1.size _, .inl ⟨Hbad.out, _, rfl⟩⟩
        · rw [hto] at hco
          have hne : (lnI p.size != ((partsOf s).length : Int)) = true := by
            have h1 := tabOk_pos hto
            rw [lnI, if_pos (by omega)]
            simp only [bne_iff_ne, ne_eq, Int.natCast_inj]
            intro e
            rw [(partOk_iff _ _).2 ⟨hto, e⟩] at hpo
            exact absurd hpo (by decide)
          have Hco := Lib.hid hco
          clear hco hto hpo
          go_wp2_with (first | (go_at_call 98; refine Hco.out.mono ?_; rintro e w' ⟨rfl, rfl⟩) | (go_at_call 99; refine (l1Inputs_any p.size _ hps).mono ?_; rintro e w' ⟨rfl, rfl⟩) | ((with_reducible show wpList _ _ _ (⟨_, .buildSlice 31 0 _, _, _, _, _⟩ :: _) _ _); refine wpList_buildSlice' rfl _ _ _ rfl rfl (str_none _) ?_))
          go_ret2
          exact ⟨hW1.alloc hW1.size _, .inl ⟨Hbad.out, _, rfl⟩⟩
      · obtain ⟨hto, hlog⟩ := (partOk_iff _ _).1 hpo
        have hne : (lnI p.size != ((partsOf s).length : Int)) = false := by
          have h1 := tabOk_pos hto
          rw [lnI, if_pos (by omega), hlog]; simp
        have hco := tableValid_any p wr hps
        rw [hto] at hco
        have Hco := Lib.hid hco
        have hall' : ∀ j (hj : j < (partsOf s).length), j < k + 1 → partOk (partsOf s).length (partsOf s)[j] = true := fun j hj h => by
          by_cases e : j = k
          · subst e; rw [Hp.out]; exact hpo
          · exact Hall.out j hj (by omega)
        have Hall' := Lib.hid hall'
        clear hco hto hpo hlog hall'
        go_wp2_with (first | (go_at_call 98; refine Hco.out.mono ?_; rintro e w' ⟨rfl, rfl⟩) | (go_at_call 99; refine (l1Inputs_any p.size _ hps).mono ?_; rintro e w' ⟨rfl, rfl⟩))
        go_roundw
        case rel => exact ⟨⟨k + 1, by omega, by go_num, Hall'.out⟩, trivial⟩
        case measure => simp [intOf] <;> omega
    · obtain rfl : k = (partsOf s).length := by omega
      have hok : netOk s = true := by
        unfold netOk; rw [List.all_eq_true]
        intro p hp
        obtain ⟨j, hj, rfl⟩ := List.getElem_of_mem hp
        exact Hall.out j hj hj
      have hnet : StrsAt wr b (netTexts (netOf s)) := by
        rw [netTexts_of hok]; exact Hat.out
      have Hnet := Lib.hid hnet
      have Hok := Lib.hid hok
      clear hnet hok
      go_wp2_with fail
      go_ret2
      exact ⟨hW1, .inr ⟨Hok.out, b, cap, rfl, hb1, hb2, Hnet.out⟩⟩

theorem l3All_any (a : Option Addr) (n cap : Nat) (hn : n ≤ 5) (w : World) :
    Calls Tryz.prog 55 #[.slice a n cap] w fun e w' => e = .returned (.int .i64 (pw n - 1 : Nat)) ∧ w = w' := by
  have h2 := pow2_le n hn
  have h3 : ((2 : Int) ^ n - 1) = ((pw n - 1 : Nat) : Int) := by rw [pw_cast]; have := pw_le hn; omega
  have H3 := Lib.hid h3
  clear h3
  go_enter Tryz.func55, Tryz.ntmps55
  go_wp2
  go_ret
  exact ⟨ret_int H3.out, rfl⟩





end Go.Proofs.YtkfagolmpbbckaaGreatDoor
