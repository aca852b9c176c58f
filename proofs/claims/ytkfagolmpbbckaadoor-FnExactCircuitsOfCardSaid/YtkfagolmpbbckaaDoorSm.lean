/- The laws' marks of texts: written into a slice of texts, and found there. -/
import Derived.Test.YtkfagolmpbbckaaDoorSx
import Derived.Laws.BytesArg
import Derived.Deep.RegionWith
import Derived.OwnWalk
namespace Go.Proofs.YtkfagolmpbbckaaDoor
open Go Go.RowKit Go.Sw
set_option maxRecDepth 100000
set_option linter.unusedVariables false

theorem digs_zero (f : Nat) : digs f 0 = [] := by cases f <;> rfl
theorem digs_step {f m : Nat} (h : 0 < m) : digs (f + 1) m = digs f (m / 10) ++ [UInt8.ofNat (48 + m % 10)] := by
  rw [digs, if_neg (by omega)]
/-- one digit's text -/
def dig1 (d : Nat) : ByteArray := bs [UInt8.ofNat (48 + d)]
/-- what stands behind k's mark while it is reckoned -/
def dgAt (k m : Nat) (out : ByteArray) : Prop := ∃ F l, digs 20 k = digs F m ++ l ∧ out = bs l ∧ m < 10 ^ F ∧ l.length + F = 20
theorem dgAt_start {k : Nat} (h : k ≤ 9000000) : dgAt k k (bs []) := ⟨20, [], by simp, rfl, by omega, rfl⟩
theorem dgAt_size {k m : Nat} {out : ByteArray} (h : dgAt k m out) : out.size ≤ 20 := by
  obtain ⟨F, l, _, rfl, _, h4⟩ := h
  rw [bs_size]; omega
theorem dgAt_step {k m : Nat} {out : ByteArray} (h : dgAt k m out) (hm : 0 < m) : dgAt k (m / 10) (dig1 (m % 10) ++ out) := by
  obtain ⟨F, l, h1, rfl, h3, h4⟩ := h
  rcases F with _ | F
  · simp at h3; omega
  · refine ⟨F, UInt8.ofNat (48 + m % 10) :: l, ?_, ?_, ?_, ?_⟩
    · rw [h1, digs_step hm, List.append_assoc]; rfl
    · apply ba_ext
      simp [dig1, ByteArray.data_append, bs_data]
    · rw [Nat.pow_succ] at h3; omega
    · simp only [List.length_cons]; omega
theorem dgAt_end {k : Nat} {out : ByteArray} (h : dgAt k 0 out) : (⟨#[109]⟩ : ByteArray) ++ out = markT k := by
  obtain ⟨F, l, h1, rfl, _⟩ := h
  rw [digs_zero, List.nil_append] at h1
  apply ba_ext
  unfold markT
  rw [h1]
  simp [ByteArray.data_append, bs_data]
theorem markT_size (k : Nat) : (markT k).size ≤ 21 := by
  have h : ∀ f k, (digs f k).length ≤ f := by
    intro f
    induction f with
    | zero => intro k; exact Nat.le_refl _
    | succ f ih =>
      intro k
      rw [digs]
      split
      · simp
      · have := ih (k / 10); rw [List.length_append]; simp; omega
  unfold markT
  rw [bs_size]
  have := h 20 k
  simp only [List.length_cons]; omega
theorem markText_any (k : Nat) (h1 : 1 ≤ k) (hk : k ≤ 9000000) (w : World) :
    Calls Tryd.prog 115 #[.int .i64 k] w fun e w' => Below w.heap.size w w' ∧ e = .returned (.string (markT k)) := by
  have hcv := fun (d : Nat) (wx : World) => run_convert_bytes_arg (P := Tryd.prog) (wx.alloc (.cells #[.int .u8 (48 + (d : Int))] 5)) 22 5 Tryd.underlying22 Tryd.underlying5 wx.heap.size 0 1 1 [48 + (d : Int)] rfl (fun i hi => by
      obtain rfl : i = 0 := by omega
      rw [cell_of_row _ _ _ _ _ _ (heap_alloc_last _ _)]; rfl) 9 Tryd.underlying9
  have hs1 : ∀ d : Nat, strOfNums [48 + (d : Int)] = dig1 d := by
    intro d
    apply ba_ext
    simp only [strOfNums, dig1, bs_data, List.map_cons, List.map_nil]
    congr 2
  simp only [hs1] at hcv
  clear hs1
  have Hcv := Lib.hid hcv
  clear hcv
  have Hs := Lib.hid (dgAt_start hk)
  have Hend := Lib.hid (fun out (h : dgAt k 0 out) => dgAt_end h)
  go_enter Tryd.func115, Tryd.ntmps115
  go_wp2_with fail
  go_loopw [0, 3] (fun x out wr => ∃ (m : Nat) (o : ByteArray), m ≤ k ∧ x = .int .i64 m ∧ out = .string o ∧ dgAt k m o ∧ Below w.heap.size w wr) (fun x _ _ => (intOf x).toNat)
  case atStart => exact ⟨k, ⟨#[]⟩, Nat.le_refl _, rfl, rfl, Hs.out, Below.refl _ _⟩
  case round =>
    obtain ⟨m, o, hm, rfl, rfl, hd, hW⟩ := hrel
    have hsz := dgAt_size hd
    have hWs := hW.size
    by_cases h0 : 0 < m
    · have Hd := Lib.hid (dgAt_step hd h0)
      have hcv1 := Hcv.out (m % 10) wr
      have em : ((m : Int) % 10) = ((m % 10 : Nat) : Int) := by omega
      have em2 : ((m : Int) / 10) = ((m / 10 : Nat) : Int) := by omega
      have hd1 : (dig1 (m % 10)).size = 1 := rfl
      have hd9 : m % 10 ≤ 9 := by omega
      obtain ⟨d, hdd⟩ : ∃ d, m % 10 = d := ⟨_, rfl⟩
      obtain ⟨q, hq⟩ : ∃ q, m / 10 = q := ⟨_, rfl⟩
      have hqm : q < m := by omega
      rw [hdd] at hcv1 em hd1 Hd hd9
      rw [hq] at em2 Hd
      obtain ⟨t, ht⟩ : ∃ t, dig1 d = t := ⟨_, rfl⟩
      rw [ht] at hcv1 hd1 Hd
      have ht2 : t.size ≤ 1 := by omega
      clear hdd hq ht hd hd1
      go_wp2_with fail
      refine ⟨⟨q, _, by omega, rfl, rfl, Hd.out, hW.alloc hWs _⟩, ?_⟩
      show q < m
      exact hqm
    · obtain rfl : m = 0 := by omega
      have He := Lib.hid (Hend.out o hd)
      clear hd
      go_wp2_with fail
      go_ret
      exact ⟨hW, by rw [← He.out]; rfl⟩
theorem markStringS_any (B n q : Nat) (a : Option Addr) (ca : Nat) (xs : List ByteArray) (w : World) (h1 : TextsAt w B a xs) (hn : xs.length = n) (hn1 : n ≤ 4000000) (hq1 : 1 ≤ q) (hq : q ≤ 4000000) :
    Calls Tryd.prog 61 #[.slice a n ca, .int .i64 q] w fun e w' => (Below B w w' ∧ TextsAt w' B a (tmarks q n)) ∧ e = .returned (.int .i64 ((q + n : Nat) : Int)) := by
  have H1 := Lib.hid h1.at'
  have Hn := Lib.hid hn
  clear h1 hn
  by_cases h0 : n = 0
  · subst h0
    go_enter Tryd.func61, Tryd.ntmps61
    go_wp2_with fail
    go_loop [1, 5] (fun m i => m = .int .i64 ((q + 0 : Nat) : Int) ∧ i = .int .i64 0) (fun _ _ => 0)
    case atStart => exact ⟨rfl, rfl⟩
    case round =>
      obtain ⟨rfl, rfl⟩ := hrel
      go_wp2_with fail
      go_ret
      exact ⟨⟨Below.refl _ _, textsAt_nil _ _ _⟩, rfl⟩
  · obtain ⟨g, cur, t, rfl, hB, hc, hsz, _⟩ := H1.out (by rw [Hn.out]; omega)
    have hsz' : n ≤ cur.size := by rw [← Hn.out]; exact hsz
    have Hc := Lib.hid hc
    have hgw := block_lt hc
    clear hc hsz
    go_enter Tryd.func61, Tryd.ntmps61
    go_wp2_with fail
    go_loopw [1, 5] (fun m i wr => ∃ k : Nat, k ≤ n ∧ i = .int .i64 k ∧ m = .int .i64 ((q + k : Nat) : Int) ∧ (∃ cur', wr.heap[g]? = some (.cells cur' t (0, 0)) ∧ n ≤ cur'.size ∧ ∀ j, j < k → cur'[j]? = some (.string (markT (q + j)))) ∧ Below B w wr) (fun _ i _ => n - (intOf i).toNat)
    case atStart => exact ⟨0, Nat.zero_le _, rfl, rfl, ⟨cur, Hc.out, hsz', fun j h => absurd h (Nat.not_lt_zero _)⟩, Below.refl _ _⟩
    case round =>
      obtain ⟨k, hk, rfl, rfl, hst, hW⟩ := hrel
      have Hst := Lib.hid hst
      obtain ⟨cur', hc', hs', hj'⟩ := hst
      by_cases hlt : k < n
      · have hcell : ∃ u, wr.cell? ⟨g, k, none⟩ = some u := by
          rw [cell_of_row wr _ _ _ _ _ hc']
          exact ⟨_, Array.getElem?_eq_getElem (show k < cur'.size by omega)⟩
        obtain ⟨u, hu⟩ := hcell
        have hf : wr.frozen? ⟨g, k, none⟩ = false := frozen_of_row wr _ _ _ _ hc'
        have hgr := block_lt hc'
        have Hc' := Lib.hid hc'
        have Hj' := Lib.hid hj'
        have cM := Lib.hid (markText_any (q + k) (by omega) (by omega) wr)
        have Hu := Lib.hid hu
        have Hf := Lib.hid hf
        obtain ⟨mt, hmt⟩ : ∃ mt, markT (q + k) = mt := ⟨_, rfl⟩
        rw [hmt] at cM
        have Hmt := Lib.hid hmt
        have eqk : ((q + k : Nat) : Int) = (q : Int) + (k : Int) := by omega
        clear hc' hj' hu hf hmt
        go_wp2_with fail
        rw [eqk] at cM
        refine cM.out.mono ?_
        rintro e w2 ⟨hW2, rfl⟩
        have Hc2 := Lib.hid ((hW2.block g hgr).trans Hc'.out)
        have hu2 : w2.cell? ⟨g, k, none⟩ = some u := (hW2.cell hgr).trans Hu.out
        have hf2 : w2.frozen? ⟨g, k, none⟩ = false := frozen_of_row w2 _ _ _ _ Hc2.out
        have hB2 : Below B w w2 := hW.trans (hW2.mono (by omega))
        go_wp2_with fail
        go_roundw
        case rel =>
          refine ⟨k + 1, by omega, by go_num, by go_num, ⟨cur'.setIfInBounds k (.string mt), heap_setCell_same _ _ _ _ _ _ Hc2.out, by simpa using hs', fun j hj => ?_⟩, hB2.setCell hB _⟩
          by_cases e : j = k
          · subst e; rw [Array.getElem?_setIfInBounds_self_of_lt (by omega), Hmt.out]
          · rw [Array.getElem?_setIfInBounds_ne (fun h => e h.symm)]; exact Hj'.out j (by omega)
        case measure => simp [intOf] <;> omega
      · obtain rfl : k = n := by omega
        clear hc' hj'
        go_wp2_with fail
        go_ret
        refine ⟨⟨hW, ⟨fun _ => ?_⟩⟩, rfl⟩
        obtain ⟨cur', hc', hs', hj'⟩ := Hst.out
        exact ⟨g, cur', t, rfl, hB, hc', by rw [tmarks_length]; exact hs', fun j hj => by
          rw [tmarks_length] at hj
          rw [tmarks_get q k j hj]; exact hj' j hj⟩
theorem heldStringS_any (B n q : Nat) (a : Option Addr) (ca : Nat) (w : World) (h1 : TextsAt w B a (tmarks q n)) (hn1 : n ≤ 4000000) (hq1 : 1 ≤ q) (hq : q ≤ 4000000) :
    Calls Tryd.prog 62 #[.slice a n ca, .int .i64 q] w fun e w' => e = .returned (.int .i64 ((q + n : Nat) : Int)) ∧ Below w.heap.size w w' := by
  have H1 := Lib.hid h1
  clear h1
  go_enter Tryd.func62, Tryd.ntmps62
  go_wp2_with fail
  go_loopw [1, 5] (fun m i wr => ∃ k : Nat, k ≤ n ∧ i = .int .i64 k ∧ m = .int .i64 ((q + k : Nat) : Int) ∧ Below w.heap.size w wr) (fun _ i _ => n - (intOf i).toNat)
  case atStart => exact ⟨0, Nat.zero_le _, rfl, rfl, Below.refl _ _⟩
  case round =>
    obtain ⟨k, hk, rfl, rfl, hW⟩ := hrel
    by_cases hlt : k < n
    · obtain ⟨g, cur, t, rfl, _, hc, _, hj⟩ := (H1.out.below hW).at' (by rw [tmarks_length]; omega)
      have hj2 := hj k (by rw [tmarks_length]; exact hlt)
      rw [tmarks_get q n k hlt] at hj2
      have hu : wr.cell? ⟨g, k, none⟩ = some (.string (markT (q + k))) := by rw [cell_of_row wr _ _ _ _ _ hc]; exact hj2
      have hgr := block_lt hc
      have cM := Lib.hid (fun wx => markText_any (q + k) (by omega) (by omega) wx)
      obtain ⟨mt, hmt⟩ : ∃ mt, markT (q + k) = mt := ⟨_, rfl⟩
      rw [hmt] at cM hu
      have hne : (mt.toList != mt.toList) = false := by simp
      have eqk : ((q + k : Nat) : Int) = (q : Int) + (k : Int) := by omega
      rw [eqk] at cM
      clear hc hj hj2 hmt
      go_wp2_with fail
      go_region_with (first | (refine Calls.mono (cM.out _) ?_; rintro e w' ⟨hbx, rfl⟩; have hu2 : w'.cell? ⟨g, k, none⟩ = some (.string mt) := (hbx.cell hgr).trans hu))
      all_goals
        have hB2 : Below w.heap.size w w' := hW.trans ((Below.refl wr.heap.size wr).drew.trans hbx |>.mono hW.size)
        go_wp2_with fail
        go_roundw
        case rel => exact ⟨k + 1, by omega, by go_num, by go_num, hB2⟩
        case measure => simp [intOf] <;> omega
    · obtain rfl : k = n := by omega
      go_wp2_with fail
      go_ret
      exact ⟨rfl, hW⟩
end Go.Proofs.YtkfagolmpbbckaaDoor
