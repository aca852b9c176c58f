/- The reference's draws: out of short lists; texts that are sometimes no network; a network and a state. -/
import Derived.Test.YtcddnacbjdahbaaDoorDc
import Derived.Deep.RegionHeld3
namespace Go.Proofs.YtcddnacbjdahbaaDoor
open Go Go.RowKit Go.Sw
set_option maxRecDepth 100000
set_option linter.unusedVariables false

theorem wf_nat {q : Nat} (h : q ≤ 100) : (Lit.int .i64 (q : Int)).wf = true := by
  have h1 : IntKind.i64.min = -9223372036854775808 := rfl
  have h2 : IntKind.i64.max = 9223372036854775807 := rfl
  simp only [Lit.wf, Bool.and_eq_true, decide_eq_true_eq]
  omega
theorem netText_pos {N : Net} (h : 1 ≤ N.n) : 1 ≤ (netText N).size := by
  have e : netTexts N ≠ [] := by
    intro e
    have := netTexts_length N
    rw [e] at this; simp at this; omega
  obtain ⟨p, r, hp⟩ : ∃ p r, netTexts N = p :: r := by
    cases hq : netTexts N with
    | nil => exact absurd hq e
    | cons p r => exact ⟨p, r, rfl⟩
  have h0 : p = tabText N.n (N.f 0) := by
    have := netTexts_get N 0 (by omega)
    simpa [hp] using this
  have hs : 1 ≤ p.size := by rw [h0, tabText_size]; exact Nat.two_pow_pos _
  unfold netText
  rw [hp]
  have hl : p.data.toList.length = p.size := rfl
  cases r with
  | nil => simp only [List.map_cons, List.map_nil, joinL, bs_size]; omega
  | cons q r => simp only [List.map_cons, joinL, bs_size, List.length_append]; omega
def OfZ (w w' : World) (r m z : Nat) (e : Ending) : Prop := Drw w w' r ∧ Rd w' r (m + 1) ∧ ∃ t : ByteArray, t.size ≤ z ∧ e = .returned (.string t)
def NumZ (w w' : World) (r m : Nat) (P : Int → Prop) (e : Ending) : Prop := Drw w w' r ∧ Rd w' r (m + 1) ∧ ∃ t : Int, P t ∧ e = .returned (.int .i64 t)
theorem of3_any (r m z : Nat) (x0 x1 x2 : ByteArray) (hm : m ≤ 1000000) (w : World) (h : Rd w r m) (hx0 : x0.size ≤ z) (hx1 : x1.size ≤ z) (hx2 : x2.size ≤ z) :
    Calls Tryd.prog 192 #[.pointer (some ⟨r, 0, none⟩), .slice (some ⟨w.heap.size, 0, none⟩) 3 3] (w.alloc (.cells #[.string x0, .string x1, .string x2] 9)) fun e w' => OfZ w w' r m z e := by
  refine (of_any r m w.heap.size (some ⟨w.heap.size, 0, none⟩) 3 [x0, x1, x2] hm (by simp) (by simp) _ (h.alloc _) (textsAt_alloc w [x0, x1, x2] _ _ rfl) h.lt).mono ?_
  rintro e w2 ⟨hD, hR, t, ht, rfl⟩
  refine ⟨hD.made, hR, t, ?_, rfl⟩
  simp only [List.mem_cons, List.not_mem_nil, or_false] at ht
  rcases ht with rfl | rfl | rfl <;> assumption
theorem of4_any (r m z : Nat) (x0 x1 x2 x3 : ByteArray) (hm : m ≤ 1000000) (w : World) (h : Rd w r m) (hx0 : x0.size ≤ z) (hx1 : x1.size ≤ z) (hx2 : x2.size ≤ z) (hx3 : x3.size ≤ z) :
    Calls Tryd.prog 192 #[.pointer (some ⟨r, 0, none⟩), .slice (some ⟨w.heap.size, 0, none⟩) 4 4] (w.alloc (.cells #[.string x0, .string x1, .string x2, .string x3] 9)) fun e w' => OfZ w w' r m z e := by
  refine (of_any r m w.heap.size (some ⟨w.heap.size, 0, none⟩) 4 [x0, x1, x2, x3] hm (by simp) (by simp) _ (h.alloc _) (textsAt_alloc w [x0, x1, x2, x3] _ _ rfl) h.lt).mono ?_
  rintro e w2 ⟨hD, hR, t, ht, rfl⟩
  refine ⟨hD.made, hR, t, ?_, rfl⟩
  simp only [List.mem_cons, List.not_mem_nil, or_false] at ht
  rcases ht with rfl | rfl | rfl | rfl <;> assumption
theorem num2_any (P : Int → Prop) (r m : Nat) (x0 x1 : Int) (hm : m ≤ 1000000) (w : World) (h : Rd w r m) (hx0 : P x0) (hx1 : P x1) :
    Calls Tryd.prog 90 #[.pointer (some ⟨r, 0, none⟩), .slice (some ⟨w.heap.size, 0, none⟩) 2 2] (w.alloc (.cells #[.int .i64 x0, .int .i64 x1] 3)) fun e w' => NumZ w w' r m P e := by
  refine (num_any r m w.heap.size (some ⟨w.heap.size, 0, none⟩) 2 [x0, x1] hm (by simp) (by simp) _ (h.alloc _) (intsAt_alloc w [x0, x1] _ _ rfl) h.lt).mono ?_
  rintro e w2 ⟨hD, hR, t, ht, rfl⟩
  refine ⟨hD.made, hR, t, ?_, rfl⟩
  simp only [List.mem_cons, List.not_mem_nil, or_false] at ht
  rcases ht with rfl | rfl <;> assumption
theorem num3_any (P : Int → Prop) (r m : Nat) (x0 x1 x2 : Int) (hm : m ≤ 1000000) (w : World) (h : Rd w r m) (hx0 : P x0) (hx1 : P x1) (hx2 : P x2) :
    Calls Tryd.prog 90 #[.pointer (some ⟨r, 0, none⟩), .slice (some ⟨w.heap.size, 0, none⟩) 3 3] (w.alloc (.cells #[.int .i64 x0, .int .i64 x1, .int .i64 x2] 3)) fun e w' => NumZ w w' r m P e := by
  refine (num_any r m w.heap.size (some ⟨w.heap.size, 0, none⟩) 3 [x0, x1, x2] hm (by simp) (by simp) _ (h.alloc _) (intsAt_alloc w [x0, x1, x2] _ _ rfl) h.lt).mono ?_
  rintro e w2 ⟨hD, hR, t, ht, rfl⟩
  refine ⟨hD.made, hR, t, ?_, rfl⟩
  simp only [List.mem_cons, List.not_mem_nil, or_false] at ht
  rcases ht with rfl | rfl | rfl <;> assumption
theorem num4_any (P : Int → Prop) (r m : Nat) (x0 x1 x2 x3 : Int) (hm : m ≤ 1000000) (w : World) (h : Rd w r m) (hx0 : P x0) (hx1 : P x1) (hx2 : P x2) (hx3 : P x3) :
    Calls Tryd.prog 90 #[.pointer (some ⟨r, 0, none⟩), .slice (some ⟨w.heap.size, 0, none⟩) 4 4] (w.alloc (.cells #[.int .i64 x0, .int .i64 x1, .int .i64 x2, .int .i64 x3] 3)) fun e w' => NumZ w w' r m P e := by
  refine (num_any r m w.heap.size (some ⟨w.heap.size, 0, none⟩) 4 [x0, x1, x2, x3] hm (by simp) (by simp) _ (h.alloc _) (intsAt_alloc w [x0, x1, x2, x3] _ _ rfl) h.lt).mono ?_
  rintro e w2 ⟨hD, hR, t, ht, rfl⟩
  refine ⟨hD.made, hR, t, ?_, rfl⟩
  simp only [List.mem_cons, List.not_mem_nil, or_false] at ht
  rcases ht with rfl | rfl | rfl | rfl <;> assumption
theorem num5_any (P : Int → Prop) (r m : Nat) (x0 x1 x2 x3 x4 : Int) (hm : m ≤ 1000000) (w : World) (h : Rd w r m) (hx0 : P x0) (hx1 : P x1) (hx2 : P x2) (hx3 : P x3) (hx4 : P x4) :
    Calls Tryd.prog 90 #[.pointer (some ⟨r, 0, none⟩), .slice (some ⟨w.heap.size, 0, none⟩) 5 5] (w.alloc (.cells #[.int .i64 x0, .int .i64 x1, .int .i64 x2, .int .i64 x3, .int .i64 x4] 3)) fun e w' => NumZ w w' r m P e := by
  refine (num_any r m w.heap.size (some ⟨w.heap.size, 0, none⟩) 5 [x0, x1, x2, x3, x4] hm (by simp) (by simp) _ (h.alloc _) (intsAt_alloc w [x0, x1, x2, x3, x4] _ _ rfl) h.lt).mono ?_
  rintro e w2 ⟨hD, hR, t, ht, rfl⟩
  refine ⟨hD.made, hR, t, ?_, rfl⟩
  simp only [List.mem_cons, List.not_mem_nil, or_false] at ht
  rcases ht with rfl | rfl | rfl | rfl | rfl <;> assumption
theorem num6_any (P : Int → Prop) (r m : Nat) (x0 x1 x2 x3 x4 x5 : Int) (hm : m ≤ 1000000) (w : World) (h : Rd w r m) (hx0 : P x0) (hx1 : P x1) (hx2 : P x2) (hx3 : P x3) (hx4 : P x4) (hx5 : P x5) :
    Calls Tryd.prog 90 #[.pointer (some ⟨r, 0, none⟩), .slice (some ⟨w.heap.size, 0, none⟩) 6 6] (w.alloc (.cells #[.int .i64 x0, .int .i64 x1, .int .i64 x2, .int .i64 x3, .int .i64 x4, .int .i64 x5] 3)) fun e w' => NumZ w w' r m P e := by
  refine (num_any r m w.heap.size (some ⟨w.heap.size, 0, none⟩) 6 [x0, x1, x2, x3, x4, x5] hm (by simp) (by simp) _ (h.alloc _) (intsAt_alloc w [x0, x1, x2, x3, x4, x5] _ _ rfl) h.lt).mono ?_
  rintro e w2 ⟨hD, hR, t, ht, rfl⟩
  refine ⟨hD.made, hR, t, ?_, rfl⟩
  simp only [List.mem_cons, List.not_mem_nil, or_false] at ht
  rcases ht with rfl | rfl | rfl | rfl | rfl | rfl <;> assumption
theorem num10_any (P : Int → Prop) (r m : Nat) (x0 x1 x2 x3 x4 x5 x6 x7 x8 x9 : Int) (hm : m ≤ 1000000) (w : World) (h : Rd w r m) (hx0 : P x0) (hx1 : P x1) (hx2 : P x2) (hx3 : P x3) (hx4 : P x4) (hx5 : P x5) (hx6 : P x6) (hx7 : P x7) (hx8 : P x8) (hx9 : P x9) :
    Calls Tryd.prog 90 #[.pointer (some ⟨r, 0, none⟩), .slice (some ⟨w.heap.size, 0, none⟩) 10 10] (w.alloc (.cells #[.int .i64 x0, .int .i64 x1, .int .i64 x2, .int .i64 x3, .int .i64 x4, .int .i64 x5, .int .i64 x6, .int .i64 x7, .int .i64 x8, .int .i64 x9] 3)) fun e w' => NumZ w w' r m P e := by
  refine (num_any r m w.heap.size (some ⟨w.heap.size, 0, none⟩) 10 [x0, x1, x2, x3, x4, x5, x6, x7, x8, x9] hm (by simp) (by simp) _ (h.alloc _) (intsAt_alloc w [x0, x1, x2, x3, x4, x5, x6, x7, x8, x9] _ _ rfl) h.lt).mono ?_
  rintro e w2 ⟨hD, hR, t, ht, rfl⟩
  refine ⟨hD.made, hR, t, ?_, rfl⟩
  simp only [List.mem_cons, List.not_mem_nil, or_false] at ht
  rcases ht with rfl | rfl | rfl | rfl | rfl | rfl | rfl | rfl | rfl | rfl <;> assumption
theorem of3g_any (r m z b : Nat) (x0 x1 x2 : ByteArray) (hm : m ≤ 1000000) (w : World) (h : Rd w r m) (hT : TextsAt w b (some ⟨b, 0, none⟩) [x0, x1, x2]) (hr : r < b) (hx0 : x0.size ≤ z) (hx1 : x1.size ≤ z) (hx2 : x2.size ≤ z) :
    Calls Tryd.prog 192 #[.pointer (some ⟨r, 0, none⟩), .slice (some ⟨b, 0, none⟩) 3 3] w fun e w' => OfZ w w' r m z e := by
  refine (of_any r m b (some ⟨b, 0, none⟩) 3 [x0, x1, x2] hm (by simp) (by simp) _ h hT hr).mono ?_
  rintro e w2 ⟨hD, hR, t, ht, rfl⟩
  refine ⟨hD, hR, t, ?_, rfl⟩
  simp only [List.mem_cons, List.not_mem_nil, or_false] at ht
  rcases ht with rfl | rfl | rfl <;> assumption
theorem TextsAt.drew {w : World} {B : Nat} {a : Option Addr} {L : List ByteArray} (h : TextsAt w B a L) : TextsAt w.drew B a L := h.below ((Below.refl _ _).drew)
theorem Rd.drew {w : World} {r m : Nat} (h : Rd w r m) : Rd w.drew r m := h.below ((Below.refl w.heap.size w).drew) h.lt
theorem Drw.drew {w w2 : World} {r : Nat} (h : Drw w.drew w2 r) : Drw w w2 r := (Drw.refl w r).below ((Below.refl w.heap.size w).drew) (Nat.le_refl _) |>.trans h
/-- what a draw of a text leaves -/
def TxAt (w w' : World) (r m z : Nat) (e : Ending) : Prop := Drw w w' r ∧ Rd w' r m ∧ ∃ t : ByteArray, t.size ≤ z ∧ e = .returned (.string t)
set_option maxHeartbeats 1000000 in
theorem l3Bad_any (r m : Nat) (t : ByteArray) (h1 : 1 ≤ t.size) (hz : t.size ≤ 500) (hm : m ≤ 900000) (w : World) (h : Rd w r m) :
    Calls Tryd.prog 148 #[.pointer (some ⟨r, 0, none⟩), .string t] w fun e w' => TxAt w w' r (m + 3) 1100 e := by
  have H := Lib.hid h
  have C := Lib.hid (fun (wx : World) (m' k : Nat) (hx : Rd wx r m') (h1 : m' ≤ 1000000) (h2 : k ≤ 2000000) => pick_any r m' k h1 h2 wx hx)
  clear h
  go_enter Tryd.func148, Tryd.ntmps148
  go_wp2_with fail
  refine (C.out w m 30 H.out (by omega) (by omega)).mono ?_
  rintro e w1 ⟨hD1, hR1, kk, rfl, _, _⟩
  have HD1 := Lib.hid hD1
  have HR1 := Lib.hid hR1
  clear hD1 hR1
  by_cases k0 : kk = 0
  · have e0 : ((kk : Int) == 0) = true := by rw [beq_iff_eq]; omega
    clear k0
    go_wp2_with ((with_reducible show wpList _ _ _ (⟨_, .buildSlice 26 4 _, _, _, _, _⟩ :: _) _ _); refine wpList_buildSlice' rfl _ _ _ rfl rfl (texts_built4 _ _ _ _ _) ?_)
    refine (of4_any r (m + 1) 6 _ _ _ _ (by omega) w1 HR1.out (by decide) (by decide) (by decide) (by decide)).mono ?_
    rintro e w2 ⟨hD2, hR2, u, hu, rfl⟩
    go_wp2_with fail
    go_ret
    exact ⟨HD1.out.trans hD2, hR2.more (by omega), _, by rw [ByteArray.size_append]; omega, rfl⟩
  · have e0 : ((kk : Int) == 0) = false := by rw [beq_eq_false_iff_ne]; omega
    by_cases k1 : kk = 1
    · have e1 : ((kk : Int) == 1) = true := by rw [beq_iff_eq]; omega
      clear k0 k1
      go_wp2_with fail
      refine (C.out w1 (m + 1) t.size HR1.out (by omega) (by omega)).mono ?_
      rintro e w2 ⟨hD2, hR2, j, rfl, _, hj⟩
      have hj := hj (by omega)
      have hz1 : (t.extract 0 j).size ≤ 500 := by rw [ByteArray.size_extract]; omega
      have hz2 : (t.extract (j + 1) t.size).size ≤ 500 := by rw [ByteArray.size_extract]; omega
      have hD12 := HD1.out.trans hD2
      have hrw := hR2.lt
      have HR2 := Lib.hid hR2
      have HD12 := Lib.hid hD12
      have f1 : (0 : Int) ≤ (j : Int) + 1 := by omega
      have f2 : (j : Int) + 1 ≤ (t.size : Int) := by omega
      have f3 : (0 : Int) ≤ (j : Int) := by omega
      have f4 : (j : Int) ≤ (t.size : Int) := by omega
      have f5 : IntKind.i64.wrap ((j : Int) + 1) = (j : Int) + 1 := wraps_i64 _ (by omega) (by omega)
      have f6 : ((j : Int) + 1).toNat = j + 1 := by omega
      clear hR2 hD2 hD12
      go_wp2_with fail
      go_region_held3 (fun _ => True)
        (first | trivial)
        (first
          | (go_at_call 192; refine Calls.mono (of3g_any r (m + 1 + 1) 6 w2.heap.size _ _ _ (by omega) _ ((HR2.out.alloc _).drew) ((textsAt_alloc w2 [_, _, _] _ _ rfl).drew) hrw (by decide) (by decide) (by decide)) ?_; rintro e w3 ⟨hD3, hR3, u, hu, rfl⟩; have hz3 : ¬ 9223372036854775807 < j + u.size := (by omega); have hz4 : ¬ 9223372036854775807 < j + u.size + (t.size - (j + 1)) := (by omega)))
      go_wp2_with fail
      go_ret
      refine ⟨HD12.out.trans ?_, hR3.more (by omega), _, by simp only [ByteArray.size_append]; omega, rfl⟩
      first | exact hD3.made | exact (Drw.drew hD3).made
    · have e1 : ((kk : Int) == 1) = false := by rw [beq_eq_false_iff_ne]; omega
      clear k0 k1
      go_wp2_with fail
      go_ret
      exact ⟨HD1.out, HR1.out.more (by omega), t, by omega, rfl⟩
def szI (t : ByteArray) : Int := if netOk t then ((netOf t).n : Nat) else -1
theorem szI_le (t : ByteArray) : -1 ≤ szI t ∧ szI t ≤ 5 := by
  unfold szI
  cases h : netOk t
  · rw [if_neg (by decide)]; omega
  · have := netOf_ok h
    rw [if_pos rfl]; omega
theorem sizeOf_spec (t : ByteArray) (w : World) (hs : t.size ≤ 1048576) :
    Calls Tryd.prog 150 #[.string t] w fun e w' => Below w.heap.size w w' ∧ e = .returned (.int .i64 (szI t)) := by
  unfold szI
  cases h : netOk t
  · exact sizeOf_no t w hs h
  · exact sizeOf_yes t w hs h
/-- what a draw of a text and a number leaves -/
def TiAt (w w' : World) (r m z : Nat) (e : Ending) : Prop := Drw w w' r ∧ Rd w' r m ∧ ∃ (t : ByteArray) (i : Int), t.size ≤ z ∧ (Lit.int .i64 i).wf = true ∧ e = .returned (.tuple #[.string t, .int .i64 i])
theorem pow_small {n : Nat} (hn : n ≤ 5) : ((pw n : Nat) : Int) ≤ 32 := by have := pw_le hn; omega
set_option maxHeartbeats 1000000 in
theorem l5Small_any (r m : Nat) (hm : m ≤ 700000) (w : World) (h : Rd w r m) :
    Calls Tryd.prog 81 #[.pointer (some ⟨r, 0, none⟩)] w fun e w' => TiAt w w' r (m + 220) 1100 e := by
  have H := Lib.hid h
  have hrw := h.lt
  have C := Lib.hid (fun (wx : World) (m' k : Nat) (hx : Rd wx r m') (h1 : m' ≤ 1000000) (h2 : k ≤ 2000000) => pick_any r m' k h1 h2 wx hx)
  clear h
  go_enter Tryd.func81, Tryd.ntmps81
  go_wp2_with ((with_reducible show wpList _ _ _ (⟨_, .buildSlice 30 5 _, _, _, _, _⟩ :: _) _ _); refine wpList_buildSlice' rfl _ _ _ rfl rfl (ints_built5 _ _ _ _ _ _) ?_)
  refine (num5_any (fun v => 1 ≤ v ∧ v ≤ 5) r m _ _ _ _ _ (by omega) w H.out (by decide) (by decide) (by decide) (by decide) (by decide)).mono ?_
  rintro e w1 ⟨hD1, hR1, v, hv, rfl⟩
  obtain ⟨k, rfl⟩ : ∃ k : Nat, v = (k : Int) := ⟨v.toNat, by omega⟩
  have hk1 : 1 ≤ k := by omega
  have hk5 : k ≤ 5 := by omega
  clear hv
  go_wp2_with fail
  refine (l3Draw_any r (m + 1) k hk1 hk5 (by omega) w1 hR1).mono ?_
  rintro e w2 ⟨hD2, hR2, N, hN, rfl⟩
  have hz := netText_size (N := N) (by omega)
  have hz1 : 1 ≤ (netText N).size := netText_pos (by omega)
  obtain ⟨t, ht⟩ : ∃ t, netText N = t := ⟨_, rfl⟩
  rw [ht] at hz hz1 ⊢
  clear ht hN
  go_wp2_with fail
  refine (l3Bad_any r (m + 1 + 200) t hz1 (by omega) (by omega) w2 hR2).mono ?_
  rintro e w3 ⟨hD3, hR3, u, hu, rfl⟩
  have hD123 := (hD1.trans hD2).trans hD3
  have cS := Lib.hid (sizeOf_spec u w3 (by omega))
  have HD := Lib.hid hD123
  have HR3 := Lib.hid hR3
  have hw3 := hD123.size
  clear hD1 hD2 hD3 hD123 hR1 hR2 hR3 hz hz1
  go_wp2_with fail
  refine cS.out.mono ?_
  rintro e w4 ⟨hW4, rfl⟩
  have hR4 := Lib.hid (HR3.out.below hW4 HR3.out.lt)
  have hD4 := Lib.hid (HD.out.below hW4 hw3)
  have hle := szI_le u
  obtain ⟨n, hn⟩ : ∃ n, szI u = n := ⟨_, rfl⟩
  rw [hn] at hle ⊢
  clear hn hW4
  by_cases hpos : 0 < n
  · obtain ⟨k2, rfl⟩ : ∃ k : Nat, n = (k : Int) := ⟨n.toNat, by omega⟩
    have hk25 : k2 ≤ 5 := by omega
    have hpw := pw_le hk25
    have hpc := pw_cast k2
    have h2 := pow2_le k2 hk25
    go_wp2_with fail
    refine (C.out w4 _ 16 hR4.out (by omega) (by omega)).mono ?_
    rintro e w5 ⟨hD5, hR5, j, rfl, _, _⟩
    have HD5 := Lib.hid (hD4.out.trans hD5)
    have HR5 := Lib.hid hR5
    clear hD5 hR5
    by_cases hj : 0 < j
    · have hj2 : (0 : Int) < (j : Int) := by omega
      go_wp2_with fail
      refine (C.out w5 _ (pw k2) HR5.out (by omega) (by omega)).mono ?_
      rintro e w6 ⟨hD6, hR6, q, rfl, hq, _⟩
      go_wp2_with fail
      go_ret2
      exact ⟨HD5.out.trans hD6, hR6.more (by omega), u, _, hu, wf_nat (by omega), rfl⟩
    · have hj2 : ¬ (0 : Int) < (j : Int) := by omega
      go_wp2_with ((with_reducible show wpList _ _ _ (⟨_, .buildSlice 30 4 _, _, _, _, _⟩ :: _) _ _); refine wpList_buildSlice' rfl _ _ _ rfl rfl (ints_built4 _ _ _ _ _) ?_)
      refine (num4_any (fun v => (Lit.int .i64 v).wf = true) r _ _ _ _ _ (by omega) w5 HR5.out (by decide) (by decide) (by decide) (by decide)).mono ?_
      rintro e w6 ⟨hD6, hR6, v, hv, rfl⟩
      go_wp2_with fail
      go_ret2
      exact ⟨HD5.out.trans hD6, hR6.more (by omega), u, _, hu, hv, rfl⟩
  · go_wp2_with ((with_reducible show wpList _ _ _ (⟨_, .buildSlice 30 4 _, _, _, _, _⟩ :: _) _ _); refine wpList_buildSlice' rfl _ _ _ rfl rfl (ints_built4 _ _ _ _ _) ?_)
    refine (num4_any (fun v => (Lit.int .i64 v).wf = true) r _ _ _ _ _ (by omega) w4 hR4.out (by decide) (by decide) (by decide) (by decide)).mono ?_
    rintro e w6 ⟨hD6, hR6, v, hv, rfl⟩
    go_wp2_with fail
    go_ret2
    exact ⟨hD4.out.trans hD6, hR6.more (by omega), u, _, hu, hv, rfl⟩
end Go.Proofs.YtcddnacbjdahbaaDoor
