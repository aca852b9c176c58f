/- The reference's source of draws: what it lies on, and one draw. -/
import Derived.Test.YtcddnacbjdahbaaDoorProg
import Derived.Test.YtcddnacbjdahbaaDoorSl
namespace Go.Proofs.YtcddnacbjdahbaaDoor
open Go Go.RowKit Go.Sw
set_option maxRecDepth 100000
set_option linter.unusedVariables false

/-- all blocks but r are as they were -/
structure Drw (w w' : World) (r : Nat) : Prop where
  os : w'.os = w.os
  tape : w'.tape = w.tape
  output : w'.output = w.output
  size : w.heap.size ≤ w'.heap.size
  block : ∀ k, k < w.heap.size → k ≠ r → w'.heap[k]? = w.heap[k]?
theorem Drw.refl (w : World) (r : Nat) : Drw w w r := ⟨rfl, rfl, rfl, Nat.le_refl _, fun _ _ _ => rfl⟩
theorem Drw.trans {a b c : World} {r : Nat} (h : Drw a b r) (k : Drw b c r) : Drw a c r :=
  ⟨k.os.trans h.os, k.tape.trans h.tape, k.output.trans h.output, Nat.le_trans h.size k.size, fun i hi hr => (k.block i (Nat.lt_of_lt_of_le hi h.size) hr).trans (h.block i hi hr)⟩
theorem Drw.below {a b c : World} {r B : Nat} (h : Drw a b r) (k : Below B b c) (hB : a.heap.size ≤ B) : Drw a c r :=
  ⟨k.os.trans h.os, k.tape.trans h.tape, k.output.trans h.output, Nat.le_trans h.size k.size, fun i hi hr => (k.block i (Nat.lt_of_lt_of_le hi hB)).trans (h.block i hi hr)⟩
theorem Below.drw {B r : Nat} {a w w' : World} (h : Below B a w) (hd : Drw w w' r) (hr : B ≤ r) (hB : B ≤ w.heap.size) : Below B a w' :=
  h.trans ⟨hd.os, hd.tape, hd.output, hd.size, fun k hk => hd.block k (by omega) (by omega)⟩
/-- a slice of bytes that was there before -/
def CodeAt (w : World) (a : Option Addr) (len cap : Nat) : Prop :=
  len ≤ cap ∧ ∃ x : Nat → Nat, (∀ i, x i < 256) ∧ (0 < len → ∃ b o, a = some ⟨b, o, none⟩ ∧ b < w.heap.size ∧ ∀ i, i < len → w.cell? ⟨b, o + i, none⟩ = some (.int .u8 (x i)))
/-- block r holds the source: its bytes lie below, m draws were made at most -/
structure Rd (w : World) (r m : Nat) : Prop where
  at' : ∃ (a : Option Addr) (len cap p : Nat) (t : TypeId) (x : Nat → Nat), w.heap[r]? = some (.cells #[.slice a len cap, .int .i64 p] t (0, 0)) ∧ p ≤ m ∧ len ≤ 2000 ∧ (∀ i, x i < 256) ∧
    (0 < len → ∃ b o, a = some ⟨b, o, none⟩ ∧ b < r ∧ ∀ i, i < len → w.cell? ⟨b, o + i, none⟩ = some (.int .u8 (x i)))
theorem Rd.lt {w : World} {r m : Nat} (h : Rd w r m) : r < w.heap.size := by
  obtain ⟨a, len, cap, p, t, x, h1, _⟩ := h.at'
  exact block_lt h1
theorem Rd.keep {w w' : World} {r m m' : Nat} (h : Rd w r m) (hs : ∀ k, k ≤ r → w'.heap[k]? = w.heap[k]?) (hm : m ≤ m') : Rd w' r m' := by
  obtain ⟨a, len, cap, p, t, x, h1, h2, h3, h4, h5⟩ := h.at'
  refine ⟨a, len, cap, p, t, x, (hs r (Nat.le_refl _)).trans h1, by omega, h3, h4, fun h0 => ?_⟩
  obtain ⟨b, o, k1, k2, k3⟩ := h5 h0
  exact ⟨b, o, k1, k2, fun i hi => (World.cell?_of_block (hs b (by omega))).trans (k3 i hi)⟩
theorem Rd.below {w w' : World} {r m B : Nat} (h : Rd w r m) (hb : Below B w w') (hr : r < B) : Rd w' r m := h.keep (fun k hk => hb.block k (by omega)) (Nat.le_refl _)
theorem Rd.more {w : World} {r m m' : Nat} (h : Rd w r m) (hm : m ≤ m') : Rd w r m' := h.keep (fun _ _ => rfl) hm
theorem cell_row (w : World) (b j : Nat) {cur : Array Value} {t : TypeId} {v : Value} (h : w.heap[b]? = some (.cells cur t (0, 0))) (hv : cur[j]? = some v) : w.cell? ⟨b, j, none⟩ = some v := by
  rw [cell_of_row w _ _ _ _ _ h]; exact hv
/-- what a draw of a number below n leaves -/
def PkAt (w w' : World) (r m n : Nat) (e : Ending) : Prop := Drw w w' r ∧ Rd w' r (m + 1) ∧ ∃ k : Nat, e = .returned (.int .i64 k) ∧ k ≤ n ∧ (0 < n → k < n)
set_option maxHeartbeats 1000000 in
theorem pick_any (r m n : Nat) (hm : m ≤ 1000000) (hn : n ≤ 2000000) (w : World) (h : Rd w r m) :
    Calls Tryd.prog 91 #[.pointer (some ⟨r, 0, none⟩), .int .i64 n] w fun e w' => PkAt w w' r m n e := by
  obtain ⟨a, len, cap, p, t, x, h1, hp, hl, hx, hcode⟩ := h.at'
  have hc0 : w.cell? ⟨r, 0, none⟩ = some (.slice a len cap) := cell_row w r 0 h1 rfl
  have hc1 : w.cell? ⟨r, 1, none⟩ = some (.int .i64 (p : Int)) := cell_row w r 1 h1 rfl
  have hfr : w.frozen? ⟨r, 1, none⟩ = false := frozen_of_row w _ _ _ _ h1
  have hfin : Drw w (w.setCell ⟨r, 1, none⟩ (.int .i64 ((p : Int) + 1))) r ∧ Rd (w.setCell ⟨r, 1, none⟩ (.int .i64 ((p : Int) + 1))) r (m + 1) := by
    refine ⟨⟨rfl, rfl, rfl, by simp [World.setCell], fun k hk hr => Below.heap_setCell _ _ _ _ hr⟩, ⟨a, len, cap, p + 1, t, x, ?_, by omega, hl, hx, fun h0 => ?_⟩⟩
    · rw [heap_setCell_same _ _ _ _ _ _ h1]; simp
    · obtain ⟨b, o, k1, k2, k3⟩ := hcode h0
      exact ⟨b, o, k1, k2, fun i hi => (World.cell?_of_block (Below.heap_setCell _ _ _ _ (by show b ≠ r; omega))).trans (k3 i hi)⟩
  have Hfin := Lib.hid hfin
  have Hcode := Lib.hid hcode
  have Hx := Lib.hid hx
  clear h hfin hcode h1 hx
  by_cases hn0 : n = 0
  · subst hn0
    go_enter Tryd.func91, Tryd.ntmps91
    go_wp2_with fail
    go_ret
    exact ⟨Hfin.out.1, Hfin.out.2, 0, rfl, Nat.zero_le _, fun h => h⟩
  · have hn1 : 0 < n := by omega
    by_cases hl0 : len = 0
    · subst hl0
      go_enter Tryd.func91, Tryd.ntmps91
      go_wp2_with fail
      go_ret
      exact ⟨Hfin.out.1, Hfin.out.2, 0, rfl, Nat.zero_le _, fun h => h⟩
    · have hl1 : 0 < len := by omega
      have hl2 : ((len : Int) == 0) = false := by rw [beq_eq_false_iff_ne]; omega
      obtain ⟨b, o, rfl, hbr, hcell⟩ := Hcode.out hl1
      have Hcell := Lib.hid hcell
      clear hcell
      by_cases hpl : p < len
      · have hb := Hcell.out p hpl
        have hxp := Hx.out p
        have hne : b ≠ r := by omega
        go_enter Tryd.func91, Tryd.ntmps91
        go_wp2_with fail
        go_ret
        refine ⟨Hfin.out.1, Hfin.out.2, x p % n, by first | rfl | (simp; done) | skip, ?_, ?_⟩
        · exact Nat.le_of_lt (Nat.mod_lt _ hn1)
        · exact fun h => Nat.mod_lt _ h
      · have hne : b ≠ r := by omega
        have h1l : p % len < len := Nat.mod_lt _ hl1
        have h2l : (p * 7 + 3) % len < len := Nat.mod_lt _ hl1
        have hb1 := Hcell.out _ h1l
        have hb2 := Hcell.out _ h2l
        have hx1 := Hx.out (p % len)
        have hx2 := Hx.out ((p * 7 + 3) % len)
        have e1 : (p : Int).tmod (len : Int) = ((p % len : Nat) : Int) := (Int.ofNat_tmod p len).symm
        have e2 : ((p : Int) * 7 + 3).tmod (len : Int) = (((p * 7 + 3) % len : Nat) : Int) := by
          rw [show ((p : Int) * 7 + 3) = ((p * 7 + 3 : Nat) : Int) by omega]; exact (Int.ofNat_tmod _ len).symm
        have e3 : (p : Int).tdiv (len : Int) = ((p / len : Nat) : Int) := (Int.ofNat_tdiv p len).symm
        have hq : p / len ≤ p := Nat.div_le_self _ _
        obtain ⟨i1, hi1⟩ : ∃ i, p % len = i := ⟨_, rfl⟩
        obtain ⟨i2, hi2⟩ : ∃ i, (p * 7 + 3) % len = i := ⟨_, rfl⟩
        obtain ⟨q, hq0⟩ : ∃ i, p / len = i := ⟨_, rfl⟩
        rw [hi1] at h1l hb1 hx1 e1
        rw [hi2] at h2l hb2 hx2 e2
        rw [hq0] at e3 hq
        obtain ⟨y1, hy1⟩ : ∃ y, x i1 = y := ⟨_, rfl⟩
        obtain ⟨y2, hy2⟩ : ∃ y, x i2 = y := ⟨_, rfl⟩
        rw [hy1] at hb1 hx1
        rw [hy2] at hb2 hx2
        clear hi1 hi2 hq0 hy1 hy2
        have v1 : IntKind.i64.wrap ((p : Int) * 7) = (p : Int) * 7 := wraps_i64 _ (by omega) (by omega)
        have v2 : IntKind.i64.wrap ((p : Int) * 7 + 3) = (p : Int) * 7 + 3 := wraps_i64 _ (by omega) (by omega)
        have v3 : IntKind.i64.wrap ((y1 : Int) * 131) = (y1 : Int) * 131 := wraps_i64 _ (by omega) (by omega)
        have v4 : IntKind.i64.wrap ((y2 : Int) * 1117) = (y2 : Int) * 1117 := wraps_i64 _ (by omega) (by omega)
        have v5 : IntKind.i64.wrap ((y1 : Int) * 131 + (y2 : Int) * 1117) = (y1 : Int) * 131 + (y2 : Int) * 1117 := wraps_i64 _ (by omega) (by omega)
        have v6 : IntKind.i64.wrap ((p : Int) * 29) = (p : Int) * 29 := wraps_i64 _ (by omega) (by omega)
        have v7 : IntKind.i64.wrap ((y1 : Int) * 131 + (y2 : Int) * 1117 + (p : Int) * 29) = (y1 : Int) * 131 + (y2 : Int) * 1117 + (p : Int) * 29 := wraps_i64 _ (by omega) (by omega)
        have v8 : IntKind.i64.wrap ((q : Int) * 53) = (q : Int) * 53 := wraps_i64 _ (by omega) (by omega)
        have v9 : IntKind.i64.wrap ((y1 : Int) * 131 + (y2 : Int) * 1117 + (p : Int) * 29 + (q : Int) * 53) = (y1 : Int) * 131 + (y2 : Int) * 1117 + (p : Int) * 29 + (q : Int) * 53 := wraps_i64 _ (by omega) (by omega)
        go_enter Tryd.func91, Tryd.ntmps91
        go_wp2_with fail
        (refine wp_region_quiet_lit (by kernel_rfl) (by kernel_rfl) ?_; (repeat ((with_reducible refine wpQuiet_step ?_); intro K hK; go_simp; first | ((with_reducible refine hK _ ?_); clear hK K) | (rw [if_neg (by decide)]; (with_reducible refine hK _ ?_); clear hK K) | (apply Exists.intro; refine ⟨fun _ => ?_, hK _ ?_⟩; (fail); clear hK K))); (with_reducible refine wpQuiet_nil ?_); intro _ hw'; obtain ⟨nq, hw''⟩ := hw'; subst hw'')
        go_wp2_with fail
        go_ret
        have ex : bits .xor .i64 ((y1 : Int) * 131 + (y2 : Int) * 1117 + (p : Int) * 29 + (q : Int) * 53) (((y1 : Int) * 131 + (y2 : Int) * 1117 + (p : Int) * 29 + (q : Int) * 53) / 64) = (((y1 * 131 + y2 * 1117 + p * 29 + q * 53) ^^^ ((y1 * 131 + y2 * 1117 + p * 29 + q * 53) / 64) : Nat) : Int) := by
          rw [← i64_xor _ _ (by omega) (by omega)]
          congr 1 <;> omega
        refine ⟨Hfin.out.1.below (below_drewN (Below.refl _ _) nq) (by have := Hfin.out.1.size; omega), Hfin.out.2.below (below_drewN (Below.refl _ _) nq) Hfin.out.2.lt, ((y1 * 131 + y2 * 1117 + p * 29 + q * 53) ^^^ ((y1 * 131 + y2 * 1117 + p * 29 + q * 53) / 64)) % n, ?_, Nat.le_of_lt (Nat.mod_lt _ hn1), fun h => Nat.mod_lt _ h⟩
        show Ending.returned (.int .i64 _) = _
        rw [ex]
        exact ret_int (Int.ofNat_tmod _ n).symm
end Go.Proofs.YtcddnacbjdahbaaDoor
