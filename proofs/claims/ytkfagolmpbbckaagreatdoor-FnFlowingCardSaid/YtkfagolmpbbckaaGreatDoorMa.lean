/- The reference's source of draws: what it lies on, and one draw. The reference's draws out of lists, and the opening of its source. The reference's draws of tables and networks. The reference's draws of networks, and of texts that are sometimes none. The reference's tables of an input, of a negation, of two tables. The reference's draws: out of short lists; texts that are sometimes no network; a network and a state. The reference's draws of networks in which few switches act on each one. The reference's draws for removing and for reaching: a network and a switch, a state. -/
import Derived.Test.YtkfagolmpbbckaaGreatDoorProg
import Derived.Test.YtkfagolmpbbckaaGreatDoorSl
import Derived.Test.YtkfagolmpbbckaaGreatDoorSx
import Derived.Test.YtkfagolmpbbckaaGreatDoorSpecT
import Derived.Test.YtkfagolmpbbckaaGreatDoorAp
import Derived.Test.YtkfagolmpbbckaaGreatDoorSpecU
import Derived.Deep.RegionHeld3
import Derived.Test.YtkfagolmpbbckaaGreatDoorSpec9
namespace Go.Proofs.YtkfagolmpbbckaaGreatDoor
open Go Go.RowKit Go.Sw
set_option maxRecDepth 100000
set_option linter.unusedVariables false

/-- all blocks but r are as they were -/
structure Drw (w w' : World) (r : Nat) : Prop where
  os : w'.os = w.os
  tape : w'.tape = w.tape
  output : w'.output = w.output
  size : w.heap.size ≤ w'.heap.size
  block : ∀ k, k < w.heap.size → k ≠ r → w'.heap[k]? = w.heap[k]?
theorem Drw.refl (w : World) (r : Nat) : Drw w w r := ⟨rfl, rfl, rfl, Nat.le_refl _, fun _ _ _ => rfl⟩
theorem Drw.trans {a b c : World} {r : Nat} (h : Drw a b r) (k : Drw b c r) : Drw a c r :=
  ⟨k.os.trans h.os, k.tape.trans h.tape, k.output.trans h.output, Nat.le_trans h.size k.size, fun i hi hr => (k.block i (Nat.lt_of_lt_of_le hi h.size) hr).trans (h.block i hi hr)⟩
theorem Drw.below {a b c : World} {r B : Nat} (h : Drw a b r) (k : Below B b c) (hB : a.heap.size ≤ B) : Drw a c r :=
  ⟨k.os.trans h.os, k.tape.trans h.tape, k.output.trans h.output, Nat.le_trans h.size k.size, fun i hi hr => (k.block i (Nat.lt_of_lt_of_le hi hB)).trans (h.block i hi hr)⟩
theorem Below.drw {B r : Nat} {a w w' : World} (h : Below B a w) (hd : Drw w w' r) (hr : B ≤ r) (hB : B ≤ w.heap.size) : Below B a w' :=
  h.trans ⟨hd.os, hd.tape, hd.output, hd.size, fun k hk => hd.block k (by omega) (by omega)⟩
/-- a slice of bytes that was there before -/
def CodeAt (w : World) (a : Option Addr) (len cap : Nat) : Prop :=
  len ≤ cap ∧ ∃ x : Nat → Nat, (∀ i, x i < 256) ∧ (0 < len → ∃ b o, a = some ⟨b, o, none⟩ ∧ b < w.heap.size ∧ ∀ i, i < len → w.cell? ⟨b, o + i, none⟩ = some (.int .u8 (x i)))
/-- block r holds the source: its bytes lie below, m draws were made at most -/
structure Rd (w : World) (r m : Nat) : Prop where
  at' : ∃ (a : Option Addr) (len cap p : Nat) (t : TypeId) (x : Nat → Nat), w.heap[r]? = some (.cells #[.slice a len cap, .int .i64 p] t (0, 0)) ∧ p ≤ m ∧ len ≤ 2000 ∧ (∀ i, x i < 256) ∧
    (0 < len → ∃ b o, a = some ⟨b, o, none⟩ ∧ b < r ∧ ∀ i, i < len → w.cell? ⟨b, o + i, none⟩ = some (.int .u8 (x i)))
theorem Rd.lt {w : World} {r m : Nat} (h : Rd w r m) : r < w.heap.size := by
  obtain ⟨a, len, cap, p, t, x, h1, _⟩ := h.at'
  exact block_lt h1
theorem Rd.keep {w w' : World} {r m m' : Nat} (h : Rd w r m) (hs : ∀ k, k ≤ r → w'.heap[k]? = w.heap[k]?) (hm : m ≤ m') : Rd w' r m' := by
  obtain ⟨a, len, cap, p, t, x, h1, h2, h3, h4, h5⟩ := h.at'
  refine ⟨a, len, cap, p, t, x, (hs r (Nat.le_refl _)).trans h1, by omega, h3, h4, fun h0 => ?_⟩
  obtain ⟨b, o, k1, k2, k3⟩ := h5 h0
  exact ⟨b, o, k1, k2, fun i hi => (World.cell?_of_block (hs b (by omega))).trans (k3 i hi)⟩
theorem Rd.below {w w' : World} {r m B : Nat} (h : Rd w r m) (hb : Below B w w') (hr : r < B) : Rd w' r m := h.keep (fun k hk => hb.block k (by omega)) (Nat.le_refl _)
theorem Rd.more {w : World} {r m m' : Nat} (h : Rd w r m) (hm : m ≤ m') : Rd w r m' := h.keep (fun _ _ => rfl) hm
theorem cell_row (w : World) (b j : Nat) {cur : Array Value} {t : TypeId} {v : Value} (h : w.heap[b]? = some (.cells cur t (0, 0))) (hv : cur[j]? = some v) : w.cell? ⟨b, j, none⟩ = some v := by
  rw [cell_of_row w _ _ _ _ _ h]; exact hv
/-- what a draw of a number below n leaves -/
def PkAt (w w' : World) (r m n : Nat) (e : Ending) : Prop := Drw w w' r ∧ Rd w' r (m + 1) ∧ ∃ k : Nat, e = .returned (.int .i64 k) ∧ k ≤ n ∧ (0 < n → k < n)
set_option maxHeartbeats 1000000 in
theorem pick_any (r m n : Nat) (hm : m ≤ 1000000) (hn : n ≤ 2000000) (w : World) (h : Rd w r m) :
    Calls Tryz.prog 49 #[.pointer (some ⟨r, 0, none⟩), .int .i64 n] w fun e w' => PkAt w w' r m n e := by
  obtain ⟨a, len, cap, p, t, x, h1, hp, hl, hx, hcode⟩ := h.at'
  have hc0 : w.cell? ⟨r, 0, none⟩ = some (.slice a len cap) := cell_row w r 0 h1 rfl
  have hc1 : w.cell? ⟨r, 1, none⟩ = some (.int .i64 (p : Int)) := cell_row w r 1 h1 rfl
  have hfr : w.frozen? ⟨r, 1, none⟩ = false := frozen_of_row w _ _ _ _ h1
  have hfin : Drw w (w.setCell ⟨r, 1, none⟩ (.int .i64 ((p : Int) + 1))) r ∧ Rd (w.setCell ⟨r, 1, none⟩ (.int .i64 ((p : Int) + 1))) r (m + 1) := by
    refine ⟨⟨rfl, rfl, rfl, by simp [World.setCell], fun k hk hr => Below.heap_setCell _ _ _ _ hr⟩, ⟨a, len, cap, p + 1, t, x, ?_, by omega, hl, hx, fun h0 => ?_⟩⟩
    · rw [heap_setCell_same _ _ _ _ _ _ h1]; simp
    · obtain ⟨b, o, k1, k2, k3⟩ := hcode h0
      exact ⟨b, o, k1, k2, fun i hi => (World.cell?_of_block (Below.heap_setCell _ _ _ _ (by show b ≠ r; omega))).trans (k3 i hi)⟩
  have Hfin := Lib.hid hfin
  have Hcode := Lib.hid hcode
  have Hx := Lib.hid hx
  clear h hfin hcode h1 hx
  by_cases hn0 : n = 0
  · subst hn0
    go_enter Tryz.func49, Tryz.ntmps49
    go_wp2_with fail
    go_ret
    exact ⟨Hfin.out.1, Hfin.out.2, 0, rfl, Nat.zero_le _, fun h => h⟩
  · have hn1 : 0 < n := by omega
    by_cases hl0 : len = 0
    · subst hl0
      go_enter Tryz.func49, Tryz.ntmps49
      go_wp2_with fail
      go_ret
      exact ⟨Hfin.out.1, Hfin.out.2, 0, rfl, Nat.zero_le _, fun h => h⟩
    · have hl1 : 0 < len := by omega
      have hl2 : ((len : Int) == 0) = false := by rw [beq_eq_false_iff_ne]; omega
      obtain ⟨b, o, rfl, hbr, hcell⟩ := Hcode.out hl1
      have Hcell := Lib.hid hcell
      clear hcell
      by_cases hpl : p < len
      · have hb := Hcell.out p hpl
        have hxp := Hx.out p
        have hne : b ≠ r := by omega
        go_enter Tryz.func49, Tryz.ntmps49
        go_wp2_with fail
        go_ret
        refine ⟨Hfin.out.1, Hfin.out.2, x p % n, by first | rfl | (simp; done) | skip, ?_, ?_⟩
        · exact Nat.le_of_lt (Nat.mod_lt _ hn1)
        · exact fun h => Nat.mod_lt _ h
      · have hne : b ≠ r := by omega
        have h1l : p % len < len := Nat.mod_lt _ hl1
        have h2l : (p * 7 + 3) % len < len := Nat.mod_lt _ hl1
        have hb1 := Hcell.out _ h1l
        have hb2 := Hcell.out _ h2l
        have hx1 := Hx.out (p % len)
        have hx2 := Hx.out ((p * 7 + 3) % len)
        have e1 : (p : Int).tmod (len : Int) = ((p % len : Nat) : Int) := (Int.ofNat_tmod p len).symm
        have e2 : ((p : Int) * 7 + 3).tmod (len : Int) = (((p * 7 + 3) % len : Nat) : Int) := by
          rw [show ((p : Int) * 7 + 3) = ((p * 7 + 3 : Nat) : Int) by omega]; exact (Int.ofNat_tmod _ len).symm
        have e3 : (p : Int).tdiv (len : Int) = ((p / len : Nat) : Int) := (Int.ofNat_tdiv p len).symm
        have hq : p / len ≤ p := Nat.div_le_self _ _
        obtain ⟨i1, hi1⟩ : ∃ i, p % len = i := ⟨_, rfl⟩
        obtain ⟨i2, hi2⟩ : ∃ i, (p * 7 + 3) % len = i := ⟨_, rfl⟩
        obtain ⟨q, hq0⟩ : ∃ i, p / len = i := ⟨_, rfl⟩
        rw [hi1] at h1l hb1 hx1 e1
        rw [hi2] at h2l hb2 hx2 e2
        rw [hq0] at e3 hq
        obtain ⟨y1, hy1⟩ : ∃ y, x i1 = y := ⟨_, rfl⟩
        obtain ⟨y2, hy2⟩ : ∃ y, x i2 = y := ⟨_, rfl⟩
        rw [hy1] at hb1 hx1
        rw [hy2] at hb2 hx2
        clear hi1 hi2 hq0 hy1 hy2
        have v1 : IntKind.i64.wrap ((p : Int) * 7) = (p : Int) * 7 := wraps_i64 _ (by omega) (by omega)
        have v2 : IntKind.i64.wrap ((p : Int) * 7 + 3) = (p : Int) * 7 + 3 := wraps_i64 _ (by omega) (by omega)
        have v3 : IntKind.i64.wrap ((y1 : Int) * 131) = (y1 : Int) * 131 := wraps_i64 _ (by omega) (by omega)
        have v4 : IntKind.i64.wrap ((y2 : Int) * 1117) = (y2 : Int) * 1117 := wraps_i64 _ (by omega) (by omega)
        have v5 : IntKind.i64.wrap ((y1 : Int) * 131 + (y2 : Int) * 1117) = (y1 : Int) * 131 + (y2 : Int) * 1117 := wraps_i64 _ (by omega) (by omega)
        have v6 : IntKind.i64.wrap ((p : Int) * 29) = (p : Int) * 29 := wraps_i64 _ (by omega) (by omega)
        have v7 : IntKind.i64.wrap ((y1 : Int) * 131 + (y2 : Int) * 1117 + (p : Int) * 29) = (y1 : Int) * 131 + (y2 : Int) * 1117 + (p : Int) * 29 := wraps_i64 _ (by omega) (by omega)
        have v8 : IntKind.i64.wrap ((q : Int) * 53) = (q : Int) * 53 := wraps_i64 _ (by omega) (by omega)
        have v9 : IntKind.i64.wrap ((y1 : Int) * 131 + (y2 : Int) * 1117 + (p : Int) * 29 + (q : Int) * 53) = (y1 : Int) * 131 + (y2 : Int) * 1117 + (p : Int) * 29 + (q : Int) * 53 := wraps_i64 _ (by omega) (by omega)
        go_enter Tryz.func49, Tryz.ntmps49
        go_wp2_with fail
        (refine wp_region_quiet_lit (by kernel_rfl) (by kernel_rfl) ?_; (repeat ((with_reducible refine wpQuiet_step ?_); intro K hK; go_simp; first | ((with_reducible refine hK _ ?_); clear hK K) | (rw [if_neg (by decide)]; (with_reducible refine hK _ ?_); clear hK K) | (apply Exists.intro; refine ⟨fun _ => ?_, hK _ ?_⟩; (fail); clear hK K))); (with_reducible refine wpQuiet_nil ?_); intro _ hw'; obtain ⟨nq, hw''⟩ := hw'; subst hw'')
        go_wp2_with fail
        go_ret
        have ex : bits .xor .i64 ((y1 : Int) * 131 + (y2 : Int) * 1117 + (p : Int) * 29 + (q : Int) * 53) (((y1 : Int) * 131 + (y2 : Int) * 1117 + (p : Int) * 29 + (q : Int) * 53) / 64) = (((y1 * 131 + y2 * 1117 + p * 29 + q * 53) ^^^ ((y1 * 131 + y2 * 1117 + p * 29 + q * 53) / 64) : Nat) : Int) := by
          rw [← i64_xor _ _ (by omega) (by omega)]
          congr 1 <;> omega
        refine ⟨Hfin.out.1.below (below_drewN (Below.refl _ _) nq) (by have := Hfin.out.1.size; omega), Hfin.out.2.below (below_drewN (Below.refl _ _) nq) Hfin.out.2.lt, ((y1 * 131 + y2 * 1117 + p * 29 + q * 53) ^^^ ((y1 * 131 + y2 * 1117 + p * 29 + q * 53) / 64)) % n, ?_, Nat.le_of_lt (Nat.mod_lt _ hn1), fun h => Nat.mod_lt _ h⟩
        show Ending.returned (.int .i64 _) = _
        rw [ex]
        exact ret_int (Int.ofNat_tmod _ n).symm
end Go.Proofs.YtkfagolmpbbckaaGreatDoor
namespace Go.Proofs.YtkfagolmpbbckaaGreatDoor
open Go Go.RowKit Go.Sw
set_option maxRecDepth 100000
set_option linter.unusedVariables false

/-- what a draw out of a list of texts leaves -/
def OfAt (w w' : World) (r m : Nat) (L : List ByteArray) (e : Ending) : Prop := Drw w w' r ∧ Rd w' r (m + 1) ∧ ∃ t, t ∈ L ∧ e = .returned (.string t)
theorem of_any (r m B : Nat) (a : Option Addr) (cap : Nat) (L : List ByteArray) (hm : m ≤ 1000000) (h0 : 0 < L.length) (hL : L.length ≤ 1000) (w : World) (h : Rd w r m) (hT : TextsAt w B a L) (hB : r < B) :
    Calls Tryz.prog 77 #[.pointer (some ⟨r, 0, none⟩), .slice a L.length cap] w fun e w' => OfAt w w' r m L e := by
  have c := Lib.hid (pick_any r m L.length hm (by omega) w h)
  obtain ⟨g, cur, t, rfl, hBg, hcur, hcs, hcells⟩ := hT.at' h0
  have hgl := block_lt hcur
  have Hcur := Lib.hid hcur
  have Hcells := Lib.hid hcells
  clear hT h hcells hcur
  go_enter Tryz.func77, Tryz.ntmps77
  go_wp2_with fail
  refine c.out.mono ?_
  rintro e w2 ⟨hD, hR, k, rfl, _, hk⟩
  have hk2 := hk h0
  have hcell := cell_row w2 g k ((hD.block g hgl (by omega)).trans Hcur.out) (Hcells.out k hk2)
  clear hk
  go_wp2_with fail
  go_ret
  exact ⟨hD, hR, _, List.getElem_mem hk2, rfl⟩
def NumAt (w w' : World) (r m : Nat) (L : List Int) (e : Ending) : Prop := Drw w w' r ∧ Rd w' r (m + 1) ∧ ∃ t, t ∈ L ∧ e = .returned (.int .i64 t)
theorem num_any (r m B : Nat) (a : Option Addr) (cap : Nat) (L : List Int) (hm : m ≤ 1000000) (h0 : 0 < L.length) (hL : L.length ≤ 1000) (w : World) (h : Rd w r m) (hT : IntsAt w B a L) (hB : r < B) :
    Calls Tryz.prog 90 #[.pointer (some ⟨r, 0, none⟩), .slice a L.length cap] w fun e w' => NumAt w w' r m L e := by
  have c := Lib.hid (pick_any r m L.length hm (by omega) w h)
  obtain ⟨g, cur, t, rfl, hBg, hcur, hcs, hcells⟩ := hT.at' h0
  have hgl := block_lt hcur
  have Hcur := Lib.hid hcur
  have Hcells := Lib.hid hcells
  clear hT h hcells hcur
  go_enter Tryz.func90, Tryz.ntmps90
  go_wp2_with fail
  refine c.out.mono ?_
  rintro e w2 ⟨hD, hR, k, rfl, _, hk⟩
  have hk2 := hk h0
  have hcell := cell_row w2 g k ((hD.block g hgl (by omega)).trans Hcur.out) (Hcells.out k hk2)
  clear hk
  go_wp2_with fail
  go_ret
  exact ⟨hD, hR, _, List.getElem_mem hk2, rfl⟩
theorem textsAt_alloc (w : World) (L : List ByteArray) (cs : Array Value) (t : TypeId) (h : cs = (texts L).toArray) : TextsAt (w.alloc (.cells cs t)) w.heap.size (some ⟨w.heap.size, 0, none⟩) L := by
  subst h
  exact ⟨fun h0 => ⟨_, _, t, rfl, Nat.le_refl _, heap_alloc_last _ _, by simp [texts], fun j hj => by simp [texts, hj]⟩⟩
theorem intsAt_alloc (w : World) (L : List Int) (cs : Array Value) (t : TypeId) (h : cs = (ints L).toArray) : IntsAt (w.alloc (.cells cs t)) w.heap.size (some ⟨w.heap.size, 0, none⟩) L := by
  subst h
  exact ⟨fun h0 => ⟨_, _, t, rfl, Nat.le_refl _, heap_alloc_last _ _, by simp [ints], fun j hj => by simp [ints, hj]⟩⟩
/-- the world behind a list that was made for one draw -/
theorem Drw.made {w w2 : World} {r : Nat} {o : Obj} (h : Drw (w.alloc o) w2 r) : Drw w w2 r := (Drw.refl w r).below ((Below.refl w.heap.size w).alloc (Nat.le_refl _) o) (Nat.le_refl _) |>.trans h
theorem Rd.alloc {w : World} {r m : Nat} (h : Rd w r m) (o : Obj) : Rd (w.alloc o) r m := h.below ((Below.refl w.heap.size w).alloc (Nat.le_refl _) o) h.lt
theorem ints_built2 (x0 x1 : Int) (w : World) : (Instr.buildSlice 27 2 [(0, .int .i64 x0), (1, .int .i64 x1)].toArray).run Tryz.prog w =
    .ok (.slice (some ⟨w.heap.size, 0, none⟩) 2 2) (w.alloc (.cells #[.int .i64 x0, .int .i64 x1] 3)) := by kernel_rfl
theorem ints_built3 (x0 x1 x2 : Int) (w : World) : (Instr.buildSlice 27 3 [(0, .int .i64 x0), (1, .int .i64 x1), (2, .int .i64 x2)].toArray).run Tryz.prog w =
    .ok (.slice (some ⟨w.heap.size, 0, none⟩) 3 3) (w.alloc (.cells #[.int .i64 x0, .int .i64 x1, .int .i64 x2] 3)) := by kernel_rfl
theorem ints_built4 (x0 x1 x2 x3 : Int) (w : World) : (Instr.buildSlice 27 4 [(0, .int .i64 x0), (1, .int .i64 x1), (2, .int .i64 x2), (3, .int .i64 x3)].toArray).run Tryz.prog w =
    .ok (.slice (some ⟨w.heap.size, 0, none⟩) 4 4) (w.alloc (.cells #[.int .i64 x0, .int .i64 x1, .int .i64 x2, .int .i64 x3] 3)) := by kernel_rfl
theorem ints_built5 (x0 x1 x2 x3 x4 : Int) (w : World) : (Instr.buildSlice 27 5 [(0, .int .i64 x0), (1, .int .i64 x1), (2, .int .i64 x2), (3, .int .i64 x3), (4, .int .i64 x4)].toArray).run Tryz.prog w =
    .ok (.slice (some ⟨w.heap.size, 0, none⟩) 5 5) (w.alloc (.cells #[.int .i64 x0, .int .i64 x1, .int .i64 x2, .int .i64 x3, .int .i64 x4] 3)) := by kernel_rfl
theorem ints_built6 (x0 x1 x2 x3 x4 x5 : Int) (w : World) : (Instr.buildSlice 27 6 [(0, .int .i64 x0), (1, .int .i64 x1), (2, .int .i64 x2), (3, .int .i64 x3), (4, .int .i64 x4), (5, .int .i64 x5)].toArray).run Tryz.prog w =
    .ok (.slice (some ⟨w.heap.size, 0, none⟩) 6 6) (w.alloc (.cells #[.int .i64 x0, .int .i64 x1, .int .i64 x2, .int .i64 x3, .int .i64 x4, .int .i64 x5] 3)) := by kernel_rfl
theorem ints_built8 (x0 x1 x2 x3 x4 x5 x6 x7 : Int) (w : World) : (Instr.buildSlice 27 8 [(0, .int .i64 x0), (1, .int .i64 x1), (2, .int .i64 x2), (3, .int .i64 x3), (4, .int .i64 x4), (5, .int .i64 x5), (6, .int .i64 x6), (7, .int .i64 x7)].toArray).run Tryz.prog w =
    .ok (.slice (some ⟨w.heap.size, 0, none⟩) 8 8) (w.alloc (.cells #[.int .i64 x0, .int .i64 x1, .int .i64 x2, .int .i64 x3, .int .i64 x4, .int .i64 x5, .int .i64 x6, .int .i64 x7] 3)) := by kernel_rfl
theorem ints_built10 (x0 x1 x2 x3 x4 x5 x6 x7 x8 x9 : Int) (w : World) : (Instr.buildSlice 27 10 [(0, .int .i64 x0), (1, .int .i64 x1), (2, .int .i64 x2), (3, .int .i64 x3), (4, .int .i64 x4), (5, .int .i64 x5), (6, .int .i64 x6), (7, .int .i64 x7), (8, .int .i64 x8), (9, .int .i64 x9)].toArray).run Tryz.prog w =
    .ok (.slice (some ⟨w.heap.size, 0, none⟩) 10 10) (w.alloc (.cells #[.int .i64 x0, .int .i64 x1, .int .i64 x2, .int .i64 x3, .int .i64 x4, .int .i64 x5, .int .i64 x6, .int .i64 x7, .int .i64 x8, .int .i64 x9] 3)) := by kernel_rfl
theorem texts_built2 (x0 x1 : ByteArray) (w : World) : (Instr.buildSlice 31 2 [(0, .string x0), (1, .string x1)].toArray).run Tryz.prog w =
    .ok (.slice (some ⟨w.heap.size, 0, none⟩) 2 2) (w.alloc (.cells #[.string x0, .string x1] 9)) := by kernel_rfl
theorem texts_built3 (x0 x1 x2 : ByteArray) (w : World) : (Instr.buildSlice 31 3 [(0, .string x0), (1, .string x1), (2, .string x2)].toArray).run Tryz.prog w =
    .ok (.slice (some ⟨w.heap.size, 0, none⟩) 3 3) (w.alloc (.cells #[.string x0, .string x1, .string x2] 9)) := by kernel_rfl
theorem texts_built4 (x0 x1 x2 x3 : ByteArray) (w : World) : (Instr.buildSlice 31 4 [(0, .string x0), (1, .string x1), (2, .string x2), (3, .string x3)].toArray).run Tryz.prog w =
    .ok (.slice (some ⟨w.heap.size, 0, none⟩) 4 4) (w.alloc (.cells #[.string x0, .string x1, .string x2, .string x3] 9)) := by kernel_rfl
theorem texts_built10 (x0 x1 x2 x3 x4 x5 x6 x7 x8 x9 : ByteArray) (w : World) : (Instr.buildSlice 31 10 [(0, .string x0), (1, .string x1), (2, .string x2), (3, .string x3), (4, .string x4), (5, .string x5), (6, .string x6), (7, .string x7), (8, .string x8), (9, .string x9)].toArray).run Tryz.prog w =
    .ok (.slice (some ⟨w.heap.size, 0, none⟩) 10 10) (w.alloc (.cells #[.string x0, .string x1, .string x2, .string x3, .string x4, .string x5, .string x6, .string x7, .string x8, .string x9] 9)) := by kernel_rfl
theorem l14Open_any (a : Option Addr) (len cap : Nat) (hc : cap ≤ maxLen) (w : World) (h : CodeAt w a len cap) :
    Calls Tryz.prog 34 #[.slice a len cap] w fun e w' => Below w.heap.size w w' ∧ e = .returned (.pointer (some ⟨w.heap.size, 0, none⟩)) ∧ Rd w' w.heap.size 0 := by
  obtain ⟨hlc, x, hx, hcode⟩ := h
  have Hcode := Lib.hid hcode
  have Hx := Lib.hid hx
  have hcm : cap ≤ 9223372036854775807 := by unfold maxLen at hc; omega
  clear hcode hx
  by_cases hl : 2000 < len
  · obtain ⟨b, o, rfl, hb, hcell⟩ := Hcode.out (by omega)
    have Hcell := Lib.hid hcell
    have h2 : 2000 ≤ cap := by omega
    clear hcell
    go_enter Tryz.func34, Tryz.ntmps34
    go_wp2_with fail
    go_ret
    refine ⟨(Below.refl _ _).alloc (Nat.le_refl _) _, rfl, ⟨some ⟨b, o, none⟩, 2000, cap, 0, _, x, heap_alloc_last _ _, Nat.le_refl _, Nat.le_refl _, Hx.out, fun _ => ⟨b, o, rfl, hb, fun i hi => ?_⟩⟩⟩
    exact (World.cell?_of_block (Below.heap_alloc _ _ _ hb)).trans (Hcell.out i (by omega))
  · go_enter Tryz.func34, Tryz.ntmps34
    go_wp2_with fail
    go_ret
    refine ⟨(Below.refl _ _).alloc (Nat.le_refl _) _, rfl, ⟨a, len, cap, 0, _, x, heap_alloc_last _ _, Nat.le_refl _, by omega, Hx.out, fun h0 => ?_⟩⟩
    obtain ⟨b, o, rfl, hb, hcell⟩ := Hcode.out h0
    exact ⟨b, o, rfl, hb, fun i hi => (World.cell?_of_block (Below.heap_alloc _ _ _ hb)).trans (hcell i hi)⟩
end Go.Proofs.YtkfagolmpbbckaaGreatDoor
namespace Go.Proofs.YtkfagolmpbbckaaGreatDoor
open Go Go.RowKit Go.Sw
set_option maxRecDepth 100000
set_option linter.unusedVariables false

theorem bool_xor (a b : Bool) : bits .xor .i64 ((a.toNat : Nat) : Int) ((b.toNat : Nat) : Int) = (((a ^^ b).toNat : Nat) : Int) := by cases a <;> cases b <;> decide
theorem bool_and (a b : Bool) : bits .and .i64 ((a.toNat : Nat) : Int) ((b.toNat : Nat) : Int) = (((a && b).toNat : Nat) : Int) := by cases a <;> cases b <;> decide
theorem bool_or (a b : Bool) : bits .or .i64 ((a.toNat : Nat) : Int) ((b.toNat : Nat) : Int) = (((a || b).toNat : Nat) : Int) := by cases a <;> cases b <;> decide
theorem nat_bool {k : Nat} (h : k < 2) : ∃ b : Bool, k = b.toNat := by
  have : k = 0 ∨ k = 1 := by omega
  rcases this with rfl | rfl
  · exact ⟨false, rfl⟩
  · exact ⟨true, rfl⟩
theorem bitInts_congr {m : Nat} {v u : Nat → Bool} (h : ∀ i, i < m → v i = u i) : bitInts m v = bitInts m u := by
  unfold bitInts
  exact List.map_congr_left fun i hi => by rw [h i (List.mem_range.1 hi)]
theorem bitInts_put (m : Nat) (v : Nat → Bool) (b : Bool) : bitInts (m + 1) (fun i => if i = m then b else v i) = bitInts m v ++ [((b.toNat : Nat) : Int)] := by
  rw [bitInts_succ, if_pos rfl, bitInts_congr (u := v) fun i hi => if_neg (by omega)]
/-- what a draw of a table of n inputs leaves -/
def TbAt (w w' : World) (r m n : Nat) (e : Ending) : Prop := Drw w w' r ∧ Rd w' r m ∧ ∃ f, e = .returned (.string (tabText n f))
structure L1D (w wr : World) (r m k : Nat) (out : Value) (v : Nat → Bool) : Prop where
  own : wr.ownsRow w.heap.size 3 1 out (bitInts k v).length (ints (bitInts k v))
  drw : Drw w wr r
  rd : Rd wr r m
theorem L1D.snoc {w wr w4 : World} {r m m' k : Nat} {out v' : Value} {v : Nat → Bool} (h : L1D w wr r m k out v) (b : Bool) (hr : r < w.heap.size) (hb : Below w.heap.size wr w4) (hm : m ≤ m')
    (hown : w4.ownsRow w.heap.size 3 1 v' ((bitInts k v).length + 1) (ints (bitInts k v ++ [((b.toNat : Nat) : Int)]))) : L1D w w4 r m' (k + 1) v' (fun i => if i = k then b else v i) :=
  ⟨by rw [bitInts_put, List.length_append]; exact hown, h.drw.below hb (Nat.le_refl _), (h.rd.below hb hr).more hm⟩
theorem L1D.step {w wr w4 : World} {r m m' k : Nat} {out : Value} {v : Nat → Bool} (h : L1D w wr r m k out v) (hr : r < w.heap.size) (hd : Drw wr w4 r) (hR : Rd w4 r m') : L1D w w4 r m' k out v :=
  ⟨own_same h.own fun q hq => hd.block q (own_blt h.own hq) (by have := own_ge h.own hq; omega), h.drw.trans hd, hR⟩
set_option maxHeartbeats 2000000 in
theorem l1Draw_any (r m n : Nat) (h1 : 1 ≤ n) (hn : n ≤ 5) (hm : m ≤ 900000) (w : World) (h : Rd w r m) :
    Calls Tryz.prog 63 #[.pointer (some ⟨r, 0, none⟩), .int .i64 n] w fun e w' => TbAt w w' r (m + 40) n e := by
  have hp := pw_le hn
  have h2 := pow2_le n hn
  have hpc := pw_cast n
  have hrw := h.lt
  have C := Lib.hid (fun (wx : World) (m' k : Nat) (hx : Rd wx r m') (h1 : m' ≤ 1000000) (h2 : k ≤ 2000000) => pick_any r m' k h1 h2 wx hx)
  have H := Lib.hid h
  have cB := Lib.hid (fun (s i : Nat) (hs : s < 32) (hi : i < 5) (wx : World) => l1Bit_any s i (by omega) (by omega) wx)
  clear h
  go_enter Tryz.func63, Tryz.ntmps63
  go_wp2_with ((with_reducible show wpList _ _ _ (⟨_, .buildSlice 27 0 _, _, _, _, _⟩ :: _) _ _); refine wpList_buildSlice' rfl _ _ _ rfl rfl (int_none _) ?_)
  refine (C.out _ m n (H.out.alloc _) (by omega) (by omega)).mono ?_
  rintro e w1 ⟨hD1, hR1, ka, rfl, _, hka⟩
  have hka := hka (by omega)
  go_wp2_with fail
  refine (C.out _ (m + 1) n hR1 (by omega) (by omega)).mono ?_
  rintro e w2 ⟨hD2, hR2, kb, rfl, _, hkb⟩
  have hkb := hkb (by omega)
  go_wp2_with fail
  refine (C.out _ (m + 2) 7 hR2 (by omega) (by omega)).mono ?_
  rintro e w3 ⟨hD3, hR3, kk, rfl, _, hkk⟩
  have hkk := hkk (by omega)
  go_wp2_with fail
  refine (C.out _ (m + 3) 2 hR3 (by omega) (by omega)).mono ?_
  rintro e w4 ⟨hD4, hR4, sg0, rfl, _, hsg⟩
  obtain ⟨sb, rfl⟩ := nat_bool (hsg (by omega))
  have hini : L1D w w4 r (m + 4) 0 (.slice (some ⟨w.heap.size, 0, none⟩) 0 0) (fun _ => false) :=
    ⟨own_same (World.ownsRow_made w #[] 0 (Nat.le_refl _) (by unfold maxLen; omega) rfl) (fun q hq => by
      have e : w.heap.size = q := Option.some.inj hq
      subst e
      have k1 := hD1.size
      have k2 := hD2.size
      have k3 := hD3.size
      have ka : (w.alloc (.cells #[] 3)).heap.size = w.heap.size + 1 := by simp
      rw [hD4.block _ (by omega) (by omega), hD3.block _ (by omega) (by omega), hD2.block _ (by omega) (by omega), hD1.block _ (by omega) (by omega)]), ((hD1.trans hD2).trans (hD3.trans hD4)).made, hR4⟩
  have Hini := Lib.hid hini
  clear hD1 hD2 hD3 hD4 hR1 hR2 hR3 hR4 hini hsg
  go_wp2_with fail
  go_loopw [5, 10, 11, 12, 13, 43, 46, 51, 56, 61] (fun out s _ _ _ _ _ _ _ _ wr => ∃ (k : Nat) (v : Nat → Bool), k ≤ pw n ∧ s = .int .i64 k ∧ L1D w wr r (m + 4 + k) k out v) (fun _ s _ _ _ _ _ _ _ _ _ => pw n - (intOf s).toNat)
  case atStart => exact ⟨0, _, Nat.zero_le _, rfl, Hini.out⟩
  case round =>
    obtain ⟨k, v, hk, rfl, hL⟩ := hrel
    have HL := Lib.hid hL
    have hws := hL.drw.size
    clear hL
    have hbl : (bitInts k v).length ≤ 32 := by rw [bitInts_length]; omega
    by_cases hlt : k < pw n
    · have c1 := cB.out k ka (by omega) (by omega) wr
      have c2 := cB.out k kb (by omega) (by omega) wr
      obtain ⟨xa, hxa⟩ : ∃ x, k.testBit ka = x := ⟨_, rfl⟩
      obtain ⟨yb, hyb⟩ : ∃ x, k.testBit kb = x := ⟨_, rfl⟩
      rw [hxa] at c1
      rw [hyb] at c2
      have C1 := Lib.hid c1
      have C2 := Lib.hid c2
      have q1 := bool_xor xa sb
      obtain ⟨xv, hxv⟩ : ∃ x, (xa ^^ sb) = x := ⟨_, rfl⟩
      rw [hxv] at q1
      have q2 := bool_and xv yb
      have q3 := bool_or xv yb
      have q4 := bool_xor xv yb
      clear c1 c2 hxa hyb hxv
      go_wp2_with fail
      refine C1.out.mono ?_
      rintro e w' ⟨rfl, rfl⟩
      go_wp2_with fail
      refine C2.out.mono ?_
      rintro e w' ⟨rfl, rfl⟩
      have hkk7 : kk = 0 ∨ kk = 1 ∨ kk = 2 ∨ kk = 3 ∨ kk = 4 ∨ kk = 5 ∨ kk = 6 := by omega
      rcases hkk7 with hq | hq | hq | hq | hq | hq | hq
      · have g0 : ((kk : Int) == 0) = true := by rw [beq_iff_eq]; omega
        clear hq
        go_wp2_with (first | ((with_reducible show wpList _ _ _ (⟨_, .buildSlice 27 1 _, _, _, _, _⟩ :: _) _ _); refine wpList_buildSlice' rfl _ _ _ rfl rfl (int_one _ _) ?_) | (at_builtin; refine wpList_int_append rfl _ _ rfl w.heap.size _ (bitInts k v) rfl ((HL.out.own.alloc _)) _ _ rfl (cell_new ?_) (by omega) ((Below.refl w.heap.size wr).alloc (by omega) _) ?_ ?_ ?_))
        · rfl
        · exact Nat.le_refl _
        · first | omega | (simp; omega)
        · intro v' w6 hown6 hB6
          have Hf := Lib.hid (HL.out.snoc (m' := m + 4 + (k + 1)) xv hrw hB6 (by omega) hown6)
          clear hown6 hB6
          go_wp2_with fail
          go_roundw
          case rel => exact ⟨k + 1, _, by omega, by go_num, Hf.out⟩
          case measure => simp [intOf] <;> omega
      · have g0 : ((kk : Int) == 0) = false := by rw [beq_eq_false_iff_ne]; omega
        have g1 : ((kk : Int) == 1) = true := by rw [beq_iff_eq]; omega
        clear hq
        go_wp2_with (first | ((with_reducible show wpList _ _ _ (⟨_, .buildSlice 27 1 _, _, _, _, _⟩ :: _) _ _); refine wpList_buildSlice' rfl _ _ _ rfl rfl (int_one _ _) ?_) | (at_builtin; refine wpList_int_append rfl _ _ rfl w.heap.size _ (bitInts k v) rfl ((HL.out.own.alloc _)) _ _ rfl (cell_new ?_) (by omega) ((Below.refl w.heap.size wr).alloc (by omega) _) ?_ ?_ ?_))
        · rfl
        · exact Nat.le_refl _
        · first | omega | (simp; omega)
        · intro v' w6 hown6 hB6
          have Hf := Lib.hid (HL.out.snoc (m' := m + 4 + (k + 1)) (xv && yb) hrw hB6 (by omega) hown6)
          clear hown6 hB6
          go_wp2_with fail
          go_roundw
          case rel => exact ⟨k + 1, _, by omega, by go_num, Hf.out⟩
          case measure => simp [intOf] <;> omega
      · have g0 : ((kk : Int) == 0) = false := by rw [beq_eq_false_iff_ne]; omega
        have g1 : ((kk : Int) == 1) = false := by rw [beq_eq_false_iff_ne]; omega
        have g2 : ((kk : Int) == 2) = true := by rw [beq_iff_eq]; omega
        clear hq
        go_wp2_with (first | ((with_reducible show wpList _ _ _ (⟨_, .buildSlice 27 1 _, _, _, _, _⟩ :: _) _ _); refine wpList_buildSlice' rfl _ _ _ rfl rfl (int_one _ _) ?_) | (at_builtin; refine wpList_int_append rfl _ _ rfl w.heap.size _ (bitInts k v) rfl ((HL.out.own.alloc _)) _ _ rfl (cell_new ?_) (by omega) ((Below.refl w.heap.size wr).alloc (by omega) _) ?_ ?_ ?_))
        · rfl
        · exact Nat.le_refl _
        · first | omega | (simp; omega)
        · intro v' w6 hown6 hB6
          have Hf := Lib.hid (HL.out.snoc (m' := m + 4 + (k + 1)) (xv || yb) hrw hB6 (by omega) hown6)
          clear hown6 hB6
          go_wp2_with fail
          go_roundw
          case rel => exact ⟨k + 1, _, by omega, by go_num, Hf.out⟩
          case measure => simp [intOf] <;> omega
      · have g0 : ((kk : Int) == 0) = false := by rw [beq_eq_false_iff_ne]; omega
        have g1 : ((kk : Int) == 1) = false := by rw [beq_eq_false_iff_ne]; omega
        have g2 : ((kk : Int) == 2) = false := by rw [beq_eq_false_iff_ne]; omega
        have g3 : ((kk : Int) == 3) = true := by rw [beq_iff_eq]; omega
        clear hq
        go_wp2_with (first | ((with_reducible show wpList _ _ _ (⟨_, .buildSlice 27 1 _, _, _, _, _⟩ :: _) _ _); refine wpList_buildSlice' rfl _ _ _ rfl rfl (int_one _ _) ?_) | (at_builtin; refine wpList_int_append rfl _ _ rfl w.heap.size _ (bitInts k v) rfl ((HL.out.own.alloc _)) _ _ rfl (cell_new ?_) (by omega) ((Below.refl w.heap.size wr).alloc (by omega) _) ?_ ?_ ?_))
        · rfl
        · exact Nat.le_refl _
        · first | omega | (simp; omega)
        · intro v' w6 hown6 hB6
          have Hf := Lib.hid (HL.out.snoc (m' := m + 4 + (k + 1)) (xv ^^ yb) hrw hB6 (by omega) hown6)
          clear hown6 hB6
          go_wp2_with fail
          go_roundw
          case rel => exact ⟨k + 1, _, by omega, by go_num, Hf.out⟩
          case measure => simp [intOf] <;> omega
      · have g0 : ((kk : Int) == 0) = false := by rw [beq_eq_false_iff_ne]; omega
        have g1 : ((kk : Int) == 1) = false := by rw [beq_eq_false_iff_ne]; omega
        have g2 : ((kk : Int) == 2) = false := by rw [beq_eq_false_iff_ne]; omega
        have g3 : ((kk : Int) == 3) = false := by rw [beq_eq_false_iff_ne]; omega
        have g4 : ((kk : Int) == 4) = true := by rw [beq_iff_eq]; omega
        clear hq
        go_wp2_with (first | ((with_reducible show wpList _ _ _ (⟨_, .buildSlice 27 1 _, _, _, _, _⟩ :: _) _ _); refine wpList_buildSlice' rfl _ _ _ rfl rfl (int_one _ _) ?_) | (at_builtin; refine wpList_int_append rfl _ _ rfl w.heap.size _ (bitInts k v) rfl ((HL.out.own.alloc _)) _ _ rfl (cell_new ?_) (by omega) ((Below.refl w.heap.size wr).alloc (by omega) _) ?_ ?_ ?_))
        · rfl
        · exact Nat.le_refl _
        · first | omega | (simp; omega)
        · intro v' w6 hown6 hB6
          have Hf := Lib.hid (HL.out.snoc (m' := m + 4 + (k + 1)) sb hrw hB6 (by omega) hown6)
          clear hown6 hB6
          go_wp2_with fail
          go_roundw
          case rel => exact ⟨k + 1, _, by omega, by go_num, Hf.out⟩
          case measure => simp [intOf] <;> omega
      · have g0 : ((kk : Int) == 0) = false := by rw [beq_eq_false_iff_ne]; omega
        have g1 : ((kk : Int) == 1) = false := by rw [beq_eq_false_iff_ne]; omega
        have g2 : ((kk : Int) == 2) = false := by rw [beq_eq_false_iff_ne]; omega
        have g3 : ((kk : Int) == 3) = false := by rw [beq_eq_false_iff_ne]; omega
        have g4 : ((kk : Int) == 4) = false := by rw [beq_eq_false_iff_ne]; omega
        clear hq
        go_wp2_with fail
        refine (C.out wr (m + 4 + k) 2 HL.out.rd (by omega) (by omega)).mono ?_
        rintro e w5 ⟨hD5, hR5, bk, rfl, _, hbk⟩
        obtain ⟨bb, rfl⟩ := nat_bool (hbk (by omega))
        have HL5 := Lib.hid (HL.out.step hrw hD5 hR5)
        have hws5 := hD5.size
        clear hbk hD5 hR5
        go_wp2_with (first | ((with_reducible show wpList _ _ _ (⟨_, .buildSlice 27 1 _, _, _, _, _⟩ :: _) _ _); refine wpList_buildSlice' rfl _ _ _ rfl rfl (int_one _ _) ?_) | (at_builtin; refine wpList_int_append rfl _ _ rfl w.heap.size _ (bitInts k v) rfl ((HL5.out.own.alloc _)) _ _ rfl (cell_new ?_) (by omega) ((Below.refl w.heap.size w5).alloc (by omega) _) ?_ ?_ ?_))
        · rfl
        · exact Nat.le_refl _
        · first | omega | (simp; omega)
        · intro v' w6 hown6 hB6
          have Hf := Lib.hid (HL5.out.snoc (m' := m + 4 + (k + 1)) bb hrw hB6 (by omega) hown6)
          clear hown6 hB6
          go_wp2_with fail
          go_roundw
          case rel => exact ⟨k + 1, _, by omega, by go_num, Hf.out⟩
          case measure => simp [intOf] <;> omega
      · have g0 : ((kk : Int) == 0) = false := by rw [beq_eq_false_iff_ne]; omega
        have g1 : ((kk : Int) == 1) = false := by rw [beq_eq_false_iff_ne]; omega
        have g2 : ((kk : Int) == 2) = false := by rw [beq_eq_false_iff_ne]; omega
        have g3 : ((kk : Int) == 3) = false := by rw [beq_eq_false_iff_ne]; omega
        have g4 : ((kk : Int) == 4) = false := by rw [beq_eq_false_iff_ne]; omega
        clear hq
        go_wp2_with fail
        refine (C.out wr (m + 4 + k) 2 HL.out.rd (by omega) (by omega)).mono ?_
        rintro e w5 ⟨hD5, hR5, bk, rfl, _, hbk⟩
        obtain ⟨bb, rfl⟩ := nat_bool (hbk (by omega))
        have HL5 := Lib.hid (HL.out.step hrw hD5 hR5)
        have hws5 := hD5.size
        clear hbk hD5 hR5
        go_wp2_with (first | ((with_reducible show wpList _ _ _ (⟨_, .buildSlice 27 1 _, _, _, _, _⟩ :: _) _ _); refine wpList_buildSlice' rfl _ _ _ rfl rfl (int_one _ _) ?_) | (at_builtin; refine wpList_int_append rfl _ _ rfl w.heap.size _ (bitInts k v) rfl ((HL5.out.own.alloc _)) _ _ rfl (cell_new ?_) (by omega) ((Below.refl w.heap.size w5).alloc (by omega) _) ?_ ?_ ?_))
        · rfl
        · exact Nat.le_refl _
        · first | omega | (simp; omega)
        · intro v' w6 hown6 hB6
          have Hf := Lib.hid (HL5.out.snoc (m' := m + 4 + (k + 1)) bb hrw hB6 (by omega) hown6)
          clear hown6 hB6
          go_wp2_with fail
          go_roundw
          case rel => exact ⟨k + 1, _, by omega, by go_num, Hf.out⟩
          case measure => simp [intOf] <;> omega
    · obtain rfl : k = pw n := by omega
      obtain ⟨a, cp, rfl, hcp, hI⟩ := intsAt_of_own HL.out.own
      have HI := Lib.hid hI
      have cT := Lib.hid (l1Text_any w.heap.size (pw n) a cp v (by omega) wr hI)
      clear hI
      rw [bitInts_length]
      go_wp2_with fail
      refine cT.out.mono ?_
      rintro e w5 ⟨hW5, rfl⟩
      go_wp2_with fail
      go_ret
      exact ⟨HL.out.drw.below hW5 hws, (HL.out.rd.below hW5 HL.out.rd.lt).more (by omega), v, rfl⟩
end Go.Proofs.YtkfagolmpbbckaaGreatDoor
namespace Go.Proofs.YtkfagolmpbbckaaGreatDoor
open Go Go.RowKit Go.Sw
set_option maxRecDepth 100000
set_option linter.unusedVariables false

/-- texts of tables of n inputs -/
def tabsL (n k : Nat) (F : Nat → Nat → Bool) : List ByteArray := (List.range k).map fun i => tabText n (F i)
theorem tabsL_length (n k : Nat) (F : Nat → Nat → Bool) : (tabsL n k F).length = k := by simp [tabsL]
theorem tabsL_put (n k : Nat) (F : Nat → Nat → Bool) (f : Nat → Bool) : tabsL n (k + 1) (fun i => if i = k then f else F i) = tabsL n k F ++ [tabText n f] := by
  unfold tabsL
  rw [List.range_succ, List.map_append]
  congr 1
  · refine List.map_congr_left fun i hi => ?_
    have := List.mem_range.1 hi
    show tabText n (if i = k then f else F i) = _
    rw [if_neg (by omega)]
  · simp
structure L3D (w wr : World) (r m n k : Nat) (out : Value) (F : Nat → Nat → Bool) : Prop where
  own : wr.ownsRow w.heap.size 9 1 out (tabsL n k F).length (texts (tabsL n k F))
  drw : Drw w wr r
  rd : Rd wr r m
theorem L3D.step {w wr w4 : World} {r m m' n k : Nat} {out : Value} {F : Nat → Nat → Bool} (h : L3D w wr r m n k out F) (hr : r < w.heap.size) (hd : Drw wr w4 r) (hR : Rd w4 r m') : L3D w w4 r m' n k out F :=
  ⟨own_same h.own fun q hq => hd.block q (own_blt h.own hq) (by have := own_ge h.own hq; omega), h.drw.trans hd, hR⟩
/-- what a draw of a network leaves -/
def NwAt (w w' : World) (r m n : Nat) (e : Ending) : Prop := Drw w w' r ∧ Rd w' r m ∧ ∃ N : Net, N.n = n ∧ e = .returned (.string (netText N))
set_option maxHeartbeats 1000000 in
theorem l3Draw_any (r m n : Nat) (h1 : 1 ≤ n) (hn : n ≤ 5) (hm : m ≤ 800000) (w : World) (h : Rd w r m) :
    Calls Tryz.prog 139 #[.pointer (some ⟨r, 0, none⟩), .int .i64 n] w fun e w' => NwAt w w' r (m + 200) n e := by
  have hrw := h.lt
  have C := Lib.hid (fun (wx : World) (m' : Nat) (hx : Rd wx r m') (h2 : m' ≤ 900000) => l1Draw_any r m' n h1 hn h2 wx hx)
  have H := Lib.hid h
  clear h
  go_enter Tryz.func139, Tryz.ntmps139
  go_wp2_with ((with_reducible show wpList _ _ _ (⟨_, .buildSlice 31 0 _, _, _, _, _⟩ :: _) _ _); refine wpList_buildSlice' rfl _ _ _ rfl rfl (str_none _) ?_)
  go_loopw [5, 6] (fun out s wr => ∃ (k : Nat) (F : Nat → Nat → Bool), k ≤ n ∧ s = .int .i64 k ∧ L3D w wr r (m + 40 * k) n k out F) (fun _ s _ => n - (intOf s).toNat)
  case atStart => exact ⟨0, fun _ _ => false, Nat.zero_le _, rfl, World.ownsRow_made w #[] 0 (Nat.le_refl _) (by unfold maxLen; omega) rfl, (Drw.refl _ _).below ((Below.refl _ _).alloc (Nat.le_refl _) _) (Nat.le_refl _), H.out.alloc _⟩
  case round =>
    obtain ⟨k, F, hk, rfl, hL⟩ := hrel
    have HL := Lib.hid hL
    have hws := hL.drw.size
    clear hL
    have hbl : (tabsL n k F).length ≤ 5 := by rw [tabsL_length]; omega
    by_cases hlt : k < n
    · go_wp2_with fail
      refine (C.out wr (m + 40 * k) HL.out.rd (by omega)).mono ?_
      rintro e w5 ⟨hD5, hR5, f, rfl⟩
      have HL5 := Lib.hid (HL.out.step hrw hD5 hR5)
      have hws5 := hD5.size
      clear hD5 hR5
      obtain ⟨tt, htt⟩ : ∃ t, tabText n f = t := ⟨_, rfl⟩
      have Hput := Lib.hid (tabsL_put n k F f)
      rw [htt] at Hput ⊢
      clear htt
      go_wp2_with (first | ((with_reducible show wpList _ _ _ (⟨_, .buildSlice 31 1 _, _, _, _, _⟩ :: _) _ _); refine wpList_buildSlice' rfl _ _ _ rfl rfl (str_one _ _) ?_) | (at_builtin; refine wpList_text_appendK rfl _ _ rfl w.heap.size _ (tabsL n k F) rfl ((HL5.out.own.alloc _)) _ _ rfl (cell_new ?_) (by omega) ((Below.refl w.heap.size w5).alloc (by omega) _) ?_ ?_ ?_))
      · first | rfl | simp
      · exact Nat.le_refl _
      · first | omega | (simp; omega)
      · intro v' w6 hown6 hB6 _
        have Hf := Lib.hid (show L3D w w6 r (m + 40 * (k + 1)) n (k + 1) v' (fun i => if i = k then f else F i) from
          ⟨by rw [Hput.out, List.length_append]; exact hown6, HL5.out.drw.below hB6 (Nat.le_refl _), (HL5.out.rd.below hB6 hrw).more (by omega)⟩)
        clear hown6 hB6
        go_wp2_with fail
        go_roundw
        case rel => exact ⟨k + 1, _, by omega, by go_num, Hf.out⟩
        case measure => simp [intOf] <;> omega
    · obtain rfl : k = n := by omega
      obtain ⟨b, cap, rfl, _, _⟩ := own_slice HL.out.own (by rw [tabsL_length]; omega)
      have hcells : StrsAt wr b (tabsL k k F) := strsAt_of_own HL.out.own
      have hN : netTexts ⟨k, F⟩ = tabsL k k F := rfl
      have hsz : ∀ p ∈ tabsL k k F, p.size ≤ 64 := fun p hp => by
        obtain ⟨i, _, rfl⟩ := List.mem_map.1 hp
        rw [tabText_size]; have := pw_le hn; omega
      have cT := Lib.hid (l3Text_any b cap (tabsL k k F) (by omega) hsz wr hcells)
      have hfin : netText ⟨k, F⟩ = bs (joinL ((tabsL k k F).map (·.data.toList))) := rfl
      rw [← hfin] at cT
      clear hcells hsz hfin hN
      go_wp2_with fail
      refine cT.out.mono ?_
      rintro e w5 ⟨rfl, rfl⟩
      go_wp2_with fail
      go_ret
      exact ⟨HL.out.drw, HL.out.rd.more (by omega), ⟨k, F⟩, rfl, rfl⟩
end Go.Proofs.YtkfagolmpbbckaaGreatDoor
namespace Go.Proofs.YtkfagolmpbbckaaGreatDoor
open Go Go.RowKit Go.Sw
set_option maxRecDepth 100000
set_option linter.unusedVariables false

def andF (f g : Nat → Bool) (s : Nat) : Bool := f s && g s
def orF (f g : Nat → Bool) (s : Nat) : Bool := f s || g s
theorem tabText_bits (n : Nat) (f : Nat → Bool) : bitsT (pw n) f = tabText n f := rfl
set_option maxHeartbeats 1000000 in
theorem inputTable_any (n i : Nat) (h1 : 1 ≤ n) (hn : n ≤ 5) (hi : i < n) (w : World) :
    Calls Tryz.prog 127 #[.int .i64 n, .int .i64 i] w fun e w' => Below w.heap.size w w' ∧ e = .returned (.tuple #[.string (tabText n fun s => s.testBit i), .bool true]) := by
  have hp := pw_le hn
  have h2 := pow2_le n hn
  have hpc := pw_cast n
  have a1 : inI n 1 5 = true := by unfold inI; simp; omega
  have a2 : inI i 0 ((n : Int) - 1) = true := by unfold inI; simp; omega
  have cB := Lib.hid (fun (s : Nat) (hs : s < 32) (wx : World) => l1Bit_any s i (by omega) (by omega) wx)
  have A1 := Lib.hid a1
  have A2 := Lib.hid a2
  clear a1 a2
  go_enter Tryz.func127, Tryz.ntmps127
  go_wp2_with ((with_reducible show wpList _ _ _ (⟨_, .buildSlice 27 0 _, _, _, _, _⟩ :: _) _ _); refine wpList_buildSlice' rfl _ _ _ rfl rfl (int_none _) ?_)
  refine (l1In_b _ _ _ _ A1.out _).mono ?_
  rintro e w' ⟨rfl, rfl⟩
  go_wp2_with fail
  refine (l1In_b _ _ _ _ A2.out _).mono ?_
  rintro e w' ⟨rfl, rfl⟩
  go_wp2_with fail
  go_loopw [6, 7] (fun out s wr => ∃ k : Nat, k ≤ pw n ∧ s = .int .i64 k ∧ wr.ownsRow w.heap.size 3 1 out (bitInts k fun s => s.testBit i).length (ints (bitInts k fun s => s.testBit i)) ∧ Below w.heap.size w wr) (fun _ s _ => pw n - (intOf s).toNat)
  case atStart => exact ⟨0, Nat.zero_le _, rfl, World.ownsRow_made w #[] 0 (Nat.le_refl _) (by unfold maxLen; omega) rfl, (Below.refl _ _).alloc (Nat.le_refl _) _⟩
  case round =>
    obtain ⟨k, hk, rfl, hown, hW⟩ := hrel
    have Hown := Lib.hid hown
    have hws := hW.size
    clear hown
    have hbl : (bitInts k fun s => s.testBit i).length ≤ 32 := by rw [bitInts_length]; omega
    by_cases hlt : k < pw n
    · have c1 := Lib.hid (cB.out k (by omega) wr)
      have Hs := Lib.hid (bitInts_succ k fun s => s.testBit i)
      go_wp2_with fail
      refine c1.out.mono ?_
      rintro e w' ⟨rfl, rfl⟩
      go_wp2_with (first | ((with_reducible show wpList _ _ _ (⟨_, .buildSlice 27 1 _, _, _, _, _⟩ :: _) _ _); refine wpList_buildSlice' rfl _ _ _ rfl rfl (int_one _ _) ?_) | (at_builtin; refine wpList_int_append rfl _ _ rfl w.heap.size _ (bitInts k fun s => s.testBit i) rfl ((Hown.out.alloc _)) _ _ rfl (cell_new ?_) (by omega) (hW.alloc (by omega) _) ?_ ?_ ?_))
      · rfl
      · exact Nat.le_refl _
      · first | omega | (simp; omega)
      · intro v' w6 hown6 hB6
        have Hf := Lib.hid (show w6.ownsRow w.heap.size 3 1 v' (bitInts (k + 1) fun s => s.testBit i).length (ints (bitInts (k + 1) fun s => s.testBit i)) by rw [Hs.out, List.length_append]; exact hown6)
        have HB6 := Lib.hid hB6
        clear hown6 hB6
        go_wp2_with fail
        go_roundw
        case rel => exact ⟨k + 1, by omega, by go_num, Hf.out, HB6.out⟩
        case measure => simp [intOf] <;> omega
    · obtain rfl : k = pw n := by omega
      obtain ⟨a, cp, rfl, hcp, hI⟩ := intsAt_of_own Hown.out
      have cT := Lib.hid (l1Text_any w.heap.size (pw n) a cp (fun s => s.testBit i) (by omega) wr hI)
      clear hI
      rw [bitInts_length]
      go_wp2_with fail
      refine cT.out.mono ?_
      rintro e w5 ⟨hW5, rfl⟩
      go_wp2_with fail
      go_ret2
      exact ⟨hW.trans (hW5.mono hws), rfl⟩
set_option maxHeartbeats 1000000 in
theorem l1Not_any (n : Nat) (f : Nat → Bool) (hn : n ≤ 5) (w : World) :
    Calls Tryz.prog 140 #[.string (tabText n f)] w fun e w' => Below w.heap.size w w' ∧ e = .returned (.string (tabText n fun s => !f s)) := by
  have hp := pw_le hn
  have hsz := tabText_size n f
  have cA := Lib.hid (fun (s : Nat) (hs : s < pw n) (wx : World) => l1At_any n f s hn hs wx)
  obtain ⟨t, ht⟩ : ∃ t, tabText n f = t := ⟨_, rfl⟩
  rw [ht] at hsz cA ⊢
  clear ht
  go_enter Tryz.func140, Tryz.ntmps140
  go_wp2_with ((with_reducible show wpList _ _ _ (⟨_, .buildSlice 27 0 _, _, _, _, _⟩ :: _) _ _); refine wpList_buildSlice' rfl _ _ _ rfl rfl (int_none _) ?_)
  go_loopw [3, 4] (fun out s wr => ∃ k : Nat, k ≤ pw n ∧ s = .int .i64 k ∧ wr.ownsRow w.heap.size 3 1 out (bitInts k fun s => !f s).length (ints (bitInts k fun s => !f s)) ∧ Below w.heap.size w wr) (fun _ s _ => pw n - (intOf s).toNat)
  case atStart => exact ⟨0, Nat.zero_le _, rfl, World.ownsRow_made w #[] 0 (Nat.le_refl _) (by unfold maxLen; omega) rfl, (Below.refl _ _).alloc (Nat.le_refl _) _⟩
  case round =>
    obtain ⟨k, hk, rfl, hown, hW⟩ := hrel
    have Hown := Lib.hid hown
    have hws := hW.size
    clear hown
    have hbl : (bitInts k fun s => !f s).length ≤ 32 := by rw [bitInts_length]; omega
    by_cases hlt : k < pw n
    · have c1 := cA.out k hlt wr
      have hs := bitInts_succ k fun s => !f s
      obtain ⟨b, hb⟩ : ∃ b, f k = b := ⟨_, rfl⟩
      rw [hb] at c1
      simp only [hb] at hs
      have C1 := Lib.hid c1
      have Hs := Lib.hid hs
      have hsub : (1 : Int) - ((b.toNat : Nat) : Int) = (((!b).toNat : Nat) : Int) := by cases b <;> rfl
      clear c1 hs hb
      go_wp2_with fail
      refine C1.out.mono ?_
      rintro e w' ⟨rfl, rfl⟩
      cases b
      all_goals
        go_wp2_with (first | ((with_reducible show wpList _ _ _ (⟨_, .buildSlice 27 1 _, _, _, _, _⟩ :: _) _ _); refine wpList_buildSlice' rfl _ _ _ rfl rfl (int_one _ _) ?_) | (at_builtin; refine wpList_int_append rfl _ _ rfl w.heap.size _ (bitInts k fun s => !f s) rfl ((Hown.out.alloc _)) _ _ rfl (cell_new ?_) (by omega) (hW.alloc (by omega) _) ?_ ?_ ?_))
        · rfl
        · exact Nat.le_refl _
        · first | omega | (simp; omega)
        · intro v' w6 hown6 hB6
          have Hf := Lib.hid (show w6.ownsRow w.heap.size 3 1 v' (bitInts (k + 1) fun s => !f s).length (ints (bitInts (k + 1) fun s => !f s)) by rw [Hs.out, List.length_append]; exact hown6)
          have HB6 := Lib.hid hB6
          clear hown6 hB6
          go_wp2_with fail
          go_roundw
          case rel => exact ⟨k + 1, by omega, by go_num, Hf.out, HB6.out⟩
          case measure => simp [intOf] <;> omega
    · obtain rfl : k = pw n := by omega
      obtain ⟨a, cp, rfl, hcp, hI⟩ := intsAt_of_own Hown.out
      have cT := Lib.hid (l1Text_any w.heap.size (pw n) a cp (fun s => !f s) (by omega) wr hI)
      clear hI
      rw [bitInts_length]
      go_wp2_with fail
      refine cT.out.mono ?_
      rintro e w5 ⟨hW5, rfl⟩
      go_wp2_with fail
      go_ret
      exact ⟨hW.trans (hW5.mono hws), rfl⟩
theorem l1Both_any (n : Nat) (f g : Nat → Bool) (h1 : 1 ≤ n) (hn : n ≤ 5) (w : World) :
    Calls Tryz.prog 155 #[.string (tabText n f), .string (tabText n g)] w fun e w' => e = .returned (.bool true) ∧ w = w' := by
  have hp := pw_le hn
  have hsz := tabText_size n f
  have hsz2 := tabText_size n g
  have c1 := tableValid_any (tabText n f) w (by omega)
  have c2 := tableValid_any (tabText n g) w (by omega)
  rw [tabOk_text h1 hn] at c1 c2
  obtain ⟨t, ht⟩ : ∃ t, tabText n f = t := ⟨_, rfl⟩
  obtain ⟨u, hu⟩ : ∃ t, tabText n g = t := ⟨_, rfl⟩
  rw [ht] at hsz c1 ⊢
  rw [hu] at hsz2 c2 ⊢
  have he : ((t.size : Int) == (u.size : Int)) = true := by rw [hsz, hsz2]; simp
  have C1 := Lib.hid c1
  have C2 := Lib.hid c2
  clear ht hu c1 c2 hsz hsz2
  go_enter Tryz.func155, Tryz.ntmps155
  go_wp2_with fail
  refine C1.out.mono ?_
  rintro e w' ⟨rfl, rfl⟩
  go_wp2_with fail
  refine C2.out.mono ?_
  rintro e w' ⟨rfl, rfl⟩
  go_wp2_with fail
  go_ret
  first | exact ⟨rfl, rfl⟩ | (refine ⟨?_, rfl⟩; simp [he])
set_option maxHeartbeats 1000000 in
theorem andTables_any (n : Nat) (f g : Nat → Bool) (h1 : 1 ≤ n) (hn : n ≤ 5) (w : World) :
    Calls Tryz.prog 128 #[.string (tabText n f), .string (tabText n g)] w fun e w' => Below w.heap.size w w' ∧ e = .returned (.tuple #[.string (tabText n (andF f g)), .bool true]) := by
  have hp := pw_le hn
  have hsz := tabText_size n f
  have cV := Lib.hid (fun wx => l1Both_any n f g h1 hn wx)
  have cA := Lib.hid (fun (s : Nat) (hs : s < pw n) (wx : World) => l1At_any n f s hn hs wx)
  have cG := Lib.hid (fun (s : Nat) (hs : s < pw n) (wx : World) => l1At_any n g s hn hs wx)
  obtain ⟨t, ht⟩ : ∃ t, tabText n f = t := ⟨_, rfl⟩
  obtain ⟨u, hu⟩ : ∃ t, tabText n g = t := ⟨_, rfl⟩
  rw [ht] at hsz cA cV ⊢
  rw [hu] at cG cV ⊢
  clear ht hu
  go_enter Tryz.func128, Tryz.ntmps128
  go_wp2_with ((with_reducible show wpList _ _ _ (⟨_, .buildSlice 27 0 _, _, _, _, _⟩ :: _) _ _); refine wpList_buildSlice' rfl _ _ _ rfl rfl (int_none _) ?_)
  refine (cV.out _).mono ?_
  rintro e w' ⟨rfl, rfl⟩
  go_wp2_with fail
  go_loopw [6, 7] (fun out s wr => ∃ k : Nat, k ≤ pw n ∧ s = .int .i64 k ∧ wr.ownsRow w.heap.size 3 1 out (bitInts k (andF f g)).length (ints (bitInts k (andF f g))) ∧ Below w.heap.size w wr) (fun _ s _ => pw n - (intOf s).toNat)
  case atStart => exact ⟨0, Nat.zero_le _, rfl, World.ownsRow_made w #[] 0 (Nat.le_refl _) (by unfold maxLen; omega) rfl, (Below.refl _ _).alloc (Nat.le_refl _) _⟩
  case round =>
    obtain ⟨k, hk, rfl, hown, hW⟩ := hrel
    have Hown := Lib.hid hown
    have hws := hW.size
    clear hown
    have hbl : (bitInts k (andF f g)).length ≤ 32 := by rw [bitInts_length]; omega
    by_cases hlt : k < pw n
    · have c1 := cA.out k hlt wr
      have c2 := cG.out k hlt wr
      have hs := bitInts_succ k (andF f g)
      obtain ⟨b, hb⟩ : ∃ b, f k = b := ⟨_, rfl⟩
      obtain ⟨d, hd⟩ : ∃ b, g k = b := ⟨_, rfl⟩
      rw [hb] at c1
      rw [hd] at c2
      simp only [andF, hb, hd] at hs
      have C1 := Lib.hid c1
      have C2 := Lib.hid c2
      have Hs := Lib.hid hs
      clear c1 c2 hs hb hd
      go_wp2_with fail
      refine C1.out.mono ?_
      rintro e w' ⟨rfl, rfl⟩
      go_wp2_with fail
      refine C2.out.mono ?_
      rintro e w' ⟨rfl, rfl⟩
      cases b <;> cases d
      all_goals
        go_wp2_with (first | ((with_reducible show wpList _ _ _ (⟨_, .buildSlice 27 1 _, _, _, _, _⟩ :: _) _ _); refine wpList_buildSlice' rfl _ _ _ rfl rfl (int_one _ _) ?_) | (at_builtin; refine wpList_int_append rfl _ _ rfl w.heap.size _ (bitInts k (andF f g)) rfl ((Hown.out.alloc _)) _ _ rfl (cell_new ?_) (by omega) (hW.alloc (by omega) _) ?_ ?_ ?_))
        · rfl
        · exact Nat.le_refl _
        · first | omega | (simp; omega)
        · intro v' w6 hown6 hB6
          have Hf := Lib.hid (show w6.ownsRow w.heap.size 3 1 v' (bitInts (k + 1) (andF f g)).length (ints (bitInts (k + 1) (andF f g))) by rw [Hs.out, List.length_append]; exact hown6)
          have HB6 := Lib.hid hB6
          clear hown6 hB6
          go_wp2_with fail
          go_roundw
          case rel => exact ⟨k + 1, by omega, by go_num, Hf.out, HB6.out⟩
          case measure => simp [intOf] <;> omega
    · obtain rfl : k = pw n := by omega
      obtain ⟨a, cp, rfl, hcp, hI⟩ := intsAt_of_own Hown.out
      have cT := Lib.hid (l1Text_any w.heap.size (pw n) a cp (andF f g) (by omega) wr hI)
      clear hI
      rw [bitInts_length]
      go_wp2_with fail
      refine cT.out.mono ?_
      rintro e w5 ⟨hW5, rfl⟩
      go_wp2_with fail
      go_ret2
      exact ⟨hW.trans (hW5.mono hws), rfl⟩
set_option maxHeartbeats 1000000 in
theorem orTables_any (n : Nat) (f g : Nat → Bool) (h1 : 1 ≤ n) (hn : n ≤ 5) (w : World) :
    Calls Tryz.prog 129 #[.string (tabText n f), .string (tabText n g)] w fun e w' => Below w.heap.size w w' ∧ e = .returned (.tuple #[.string (tabText n (orF f g)), .bool true]) := by
  have hp := pw_le hn
  have hsz := tabText_size n f
  have cV := Lib.hid (fun wx => l1Both_any n f g h1 hn wx)
  have cA := Lib.hid (fun (s : Nat) (hs : s < pw n) (wx : World) => l1At_any n f s hn hs wx)
  have cG := Lib.hid (fun (s : Nat) (hs : s < pw n) (wx : World) => l1At_any n g s hn hs wx)
  obtain ⟨t, ht⟩ : ∃ t, tabText n f = t := ⟨_, rfl⟩
  obtain ⟨u, hu⟩ : ∃ t, tabText n g = t := ⟨_, rfl⟩
  rw [ht] at hsz cA cV ⊢
  rw [hu] at cG cV ⊢
  clear ht hu
  go_enter Tryz.func129, Tryz.ntmps129
  go_wp2_with ((with_reducible show wpList _ _ _ (⟨_, .buildSlice 27 0 _, _, _, _, _⟩ :: _) _ _); refine wpList_buildSlice' rfl _ _ _ rfl rfl (int_none _) ?_)
  refine (cV.out _).mono ?_
  rintro e w' ⟨rfl, rfl⟩
  go_wp2_with fail
  go_loopw [6, 7] (fun out s wr => ∃ k : Nat, k ≤ pw n ∧ s = .int .i64 k ∧ wr.ownsRow w.heap.size 3 1 out (bitInts k (orF f g)).length (ints (bitInts k (orF f g))) ∧ Below w.heap.size w wr) (fun _ s _ => pw n - (intOf s).toNat)
  case atStart => exact ⟨0, Nat.zero_le _, rfl, World.ownsRow_made w #[] 0 (Nat.le_refl _) (by unfold maxLen; omega) rfl, (Below.refl _ _).alloc (Nat.le_refl _) _⟩
  case round =>
    obtain ⟨k, hk, rfl, hown, hW⟩ := hrel
    have Hown := Lib.hid hown
    have hws := hW.size
    clear hown
    have hbl : (bitInts k (orF f g)).length ≤ 32 := by rw [bitInts_length]; omega
    by_cases hlt : k < pw n
    · have c1 := cA.out k hlt wr
      have c2 := cG.out k hlt wr
      have hs := bitInts_succ k (orF f g)
      obtain ⟨b, hb⟩ : ∃ b, f k = b := ⟨_, rfl⟩
      obtain ⟨d, hd⟩ : ∃ b, g k = b := ⟨_, rfl⟩
      rw [hb] at c1
      rw [hd] at c2
      simp only [orF, hb, hd] at hs
      have C1 := Lib.hid c1
      have C2 := Lib.hid c2
      have Hs := Lib.hid hs
      clear c1 c2 hs hb hd
      go_wp2_with fail
      refine C1.out.mono ?_
      rintro e w' ⟨rfl, rfl⟩
      go_wp2_with fail
      refine C2.out.mono ?_
      rintro e w' ⟨rfl, rfl⟩
      cases b <;> cases d
      all_goals
        go_wp2_with (first | ((with_reducible show wpList _ _ _ (⟨_, .buildSlice 27 1 _, _, _, _, _⟩ :: _) _ _); refine wpList_buildSlice' rfl _ _ _ rfl rfl (int_one _ _) ?_) | (at_builtin; refine wpList_int_append rfl _ _ rfl w.heap.size _ (bitInts k (orF f g)) rfl ((Hown.out.alloc _)) _ _ rfl (cell_new ?_) (by omega) (hW.alloc (by omega) _) ?_ ?_ ?_))
        · rfl
        · exact Nat.le_refl _
        · first | omega | (simp; omega)
        · intro v' w6 hown6 hB6
          have Hf := Lib.hid (show w6.ownsRow w.heap.size 3 1 v' (bitInts (k + 1) (orF f g)).length (ints (bitInts (k + 1) (orF f g))) by rw [Hs.out, List.length_append]; exact hown6)
          have HB6 := Lib.hid hB6
          clear hown6 hB6
          go_wp2_with fail
          go_roundw
          case rel => exact ⟨k + 1, by omega, by go_num, Hf.out, HB6.out⟩
          case measure => simp [intOf] <;> omega
    · obtain rfl : k = pw n := by omega
      obtain ⟨a, cp, rfl, hcp, hI⟩ := intsAt_of_own Hown.out
      have cT := Lib.hid (l1Text_any w.heap.size (pw n) a cp (orF f g) (by omega) wr hI)
      clear hI
      rw [bitInts_length]
      go_wp2_with fail
      refine cT.out.mono ?_
      rintro e w5 ⟨hW5, rfl⟩
      go_wp2_with fail
      go_ret2
      exact ⟨hW.trans (hW5.mono hws), rfl⟩
end Go.Proofs.YtkfagolmpbbckaaGreatDoor
namespace Go.Proofs.YtkfagolmpbbckaaGreatDoor
open Go Go.RowKit Go.Sw
set_option maxRecDepth 100000
set_option linter.unusedVariables false

theorem wf_nat {q : Nat} (h : q ≤ 100) : (Lit.int .i64 (q : Int)).wf = true := by
  have h1 : IntKind.i64.min = -9223372036854775808 := rfl
  have h2 : IntKind.i64.max = 9223372036854775807 := rfl
  simp only [Lit.wf, Bool.and_eq_true, decide_eq_true_eq]
  omega
theorem netText_pos {N : Net} (h : 1 ≤ N.n) : 1 ≤ (netText N).size := by
  have e : netTexts N ≠ [] := by
    intro e
    have := netTexts_length N
    rw [e] at this; simp at this; omega
  obtain ⟨p, r, hp⟩ : ∃ p r, netTexts N = p :: r := by
    cases hq : netTexts N with
    | nil => exact absurd hq e
    | cons p r => exact ⟨p, r, rfl⟩
  have h0 : p = tabText N.n (N.f 0) := by
    have := netTexts_get N 0 (by omega)
    simpa [hp] using this
  have hs : 1 ≤ p.size := by rw [h0, tabText_size]; exact Nat.two_pow_pos _
  unfold netText
  rw [hp]
  have hl : p.data.toList.length = p.size := rfl
  cases r with
  | nil => simp only [List.map_cons, List.map_nil, joinL, bs_size]; omega
  | cons q r => simp only [List.map_cons, joinL, bs_size, List.length_append]; omega
def OfZ (w w' : World) (r m z : Nat) (e : Ending) : Prop := Drw w w' r ∧ Rd w' r (m + 1) ∧ ∃ t : ByteArray, t.size ≤ z ∧ e = .returned (.string t)
def NumZ (w w' : World) (r m : Nat) (P : Int → Prop) (e : Ending) : Prop := Drw w w' r ∧ Rd w' r (m + 1) ∧ ∃ t : Int, P t ∧ e = .returned (.int .i64 t)
theorem of3_any (r m z : Nat) (x0 x1 x2 : ByteArray) (hm : m ≤ 1000000) (w : World) (h : Rd w r m) (hx0 : x0.size ≤ z) (hx1 : x1.size ≤ z) (hx2 : x2.size ≤ z) :
    Calls Tryz.prog 77 #[.pointer (some ⟨r, 0, none⟩), .slice (some ⟨w.heap.size, 0, none⟩) 3 3] (w.alloc (.cells #[.string x0, .string x1, .string x2] 9)) fun e w' => OfZ w w' r m z e := by
  refine (of_any r m w.heap.size (some ⟨w.heap.size, 0, none⟩) 3 [x0, x1, x2] hm (by simp) (by simp) _ (h.alloc _) (textsAt_alloc w [x0, x1, x2] _ _ rfl) h.lt).mono ?_
  rintro e w2 ⟨hD, hR, t, ht, rfl⟩
  refine ⟨hD.made, hR, t, ?_, rfl⟩
  simp only [List.mem_cons, List.not_mem_nil, or_false] at ht
  rcases ht with rfl | rfl | rfl <;> assumption
theorem of4_any (r m z : Nat) (x0 x1 x2 x3 : ByteArray) (hm : m ≤ 1000000) (w : World) (h : Rd w r m) (hx0 : x0.size ≤ z) (hx1 : x1.size ≤ z) (hx2 : x2.size ≤ z) (hx3 : x3.size ≤ z) :
    Calls Tryz.prog 77 #[.pointer (some ⟨r, 0, none⟩), .slice (some ⟨w.heap.size, 0, none⟩) 4 4] (w.alloc (.cells #[.string x0, .string x1, .string x2, .string x3] 9)) fun e w' => OfZ w w' r m z e := by
  refine (of_any r m w.heap.size (some ⟨w.heap.size, 0, none⟩) 4 [x0, x1, x2, x3] hm (by simp) (by simp) _ (h.alloc _) (textsAt_alloc w [x0, x1, x2, x3] _ _ rfl) h.lt).mono ?_
  rintro e w2 ⟨hD, hR, t, ht, rfl⟩
  refine ⟨hD.made, hR, t, ?_, rfl⟩
  simp only [List.mem_cons, List.not_mem_nil, or_false] at ht
  rcases ht with rfl | rfl | rfl | rfl <;> assumption
theorem num2_any (P : Int → Prop) (r m : Nat) (x0 x1 : Int) (hm : m ≤ 1000000) (w : World) (h : Rd w r m) (hx0 : P x0) (hx1 : P x1) :
    Calls Tryz.prog 90 #[.pointer (some ⟨r, 0, none⟩), .slice (some ⟨w.heap.size, 0, none⟩) 2 2] (w.alloc (.cells #[.int .i64 x0, .int .i64 x1] 3)) fun e w' => NumZ w w' r m P e := by
  refine (num_any r m w.heap.size (some ⟨w.heap.size, 0, none⟩) 2 [x0, x1] hm (by simp) (by simp) _ (h.alloc _) (intsAt_alloc w [x0, x1] _ _ rfl) h.lt).mono ?_
  rintro e w2 ⟨hD, hR, t, ht, rfl⟩
  refine ⟨hD.made, hR, t, ?_, rfl⟩
  simp only [List.mem_cons, List.not_mem_nil, or_false] at ht
  rcases ht with rfl | rfl <;> assumption
theorem num3_any (P : Int → Prop) (r m : Nat) (x0 x1 x2 : Int) (hm : m ≤ 1000000) (w : World) (h : Rd w r m) (hx0 : P x0) (hx1 : P x1) (hx2 : P x2) :
    Calls Tryz.prog 90 #[.pointer (some ⟨r, 0, none⟩), .slice (some ⟨w.heap.size, 0, none⟩) 3 3] (w.alloc (.cells #[.int .i64 x0, .int .i64 x1, .int .i64 x2] 3)) fun e w' => NumZ w w' r m P e := by
  refine (num_any r m w.heap.size (some ⟨w.heap.size, 0, none⟩) 3 [x0, x1, x2] hm (by simp) (by simp) _ (h.alloc _) (intsAt_alloc w [x0, x1, x2] _ _ rfl) h.lt).mono ?_
  rintro e w2 ⟨hD, hR, t, ht, rfl⟩
  refine ⟨hD.made, hR, t, ?_, rfl⟩
  simp only [List.mem_cons, List.not_mem_nil, or_false] at ht
  rcases ht with rfl | rfl | rfl <;> assumption
theorem num4_any (P : Int → Prop) (r m : Nat) (x0 x1 x2 x3 : Int) (hm : m ≤ 1000000) (w : World) (h : Rd w r m) (hx0 : P x0) (hx1 : P x1) (hx2 : P x2) (hx3 : P x3) :
    Calls Tryz.prog 90 #[.pointer (some ⟨r, 0, none⟩), .slice (some ⟨w.heap.size, 0, none⟩) 4 4] (w.alloc (.cells #[.int .i64 x0, .int .i64 x1, .int .i64 x2, .int .i64 x3] 3)) fun e w' => NumZ w w' r m P e := by
  refine (num_any r m w.heap.size (some ⟨w.heap.size, 0, none⟩) 4 [x0, x1, x2, x3] hm (by simp) (by simp) _ (h.alloc _) (intsAt_alloc w [x0, x1, x2, x3] _ _ rfl) h.lt).mono ?_
  rintro e w2 ⟨hD, hR, t, ht, rfl⟩
  refine ⟨hD.made, hR, t, ?_, rfl⟩
  simp only [List.mem_cons, List.not_mem_nil, or_false] at ht
  rcases ht with rfl | rfl | rfl | rfl <;> assumption
theorem num5_any (P : Int → Prop) (r m : Nat) (x0 x1 x2 x3 x4 : Int) (hm : m ≤ 1000000) (w : World) (h : Rd w r m) (hx0 : P x0) (hx1 : P x1) (hx2 : P x2) (hx3 : P x3) (hx4 : P x4) :
    Calls Tryz.prog 90 #[.pointer (some ⟨r, 0, none⟩), .slice (some ⟨w.heap.size, 0, none⟩) 5 5] (w.alloc (.cells #[.int .i64 x0, .int .i64 x1, .int .i64 x2, .int .i64 x3, .int .i64 x4] 3)) fun e w' => NumZ w w' r m P e := by
  refine (num_any r m w.heap.size (some ⟨w.heap.size, 0, none⟩) 5 [x0, x1, x2, x3, x4] hm (by simp) (by simp) _ (h.alloc _) (intsAt_alloc w [x0, x1, x2, x3, x4] _ _ rfl) h.lt).mono ?_
  rintro e w2 ⟨hD, hR, t, ht, rfl⟩
  refine ⟨hD.made, hR, t, ?_, rfl⟩
  simp only [List.mem_cons, List.not_mem_nil, or_false] at ht
  rcases ht with rfl | rfl | rfl | rfl | rfl <;> assumption
theorem num6_any (P : Int → Prop) (r m : Nat) (x0 x1 x2 x3 x4 x5 : Int) (hm : m ≤ 1000000) (w : World) (h : Rd w r m) (hx0 : P x0) (hx1 : P x1) (hx2 : P x2) (hx3 : P x3) (hx4 : P x4) (hx5 : P x5) :
    Calls Tryz.prog 90 #[.pointer (some ⟨r, 0, none⟩), .slice (some ⟨w.heap.size, 0, none⟩) 6 6] (w.alloc (.cells #[.int .i64 x0, .int .i64 x1, .int .i64 x2, .int .i64 x3, .int .i64 x4, .int .i64 x5] 3)) fun e w' => NumZ w w' r m P e := by
  refine (num_any r m w.heap.size (some ⟨w.heap.size, 0, none⟩) 6 [x0, x1, x2, x3, x4, x5] hm (by simp) (by simp) _ (h.alloc _) (intsAt_alloc w [x0, x1, x2, x3, x4, x5] _ _ rfl) h.lt).mono ?_
  rintro e w2 ⟨hD, hR, t, ht, rfl⟩
  refine ⟨hD.made, hR, t, ?_, rfl⟩
  simp only [List.mem_cons, List.not_mem_nil, or_false] at ht
  rcases ht with rfl | rfl | rfl | rfl | rfl | rfl <;> assumption
theorem num10_any (P : Int → Prop) (r m : Nat) (x0 x1 x2 x3 x4 x5 x6 x7 x8 x9 : Int) (hm : m ≤ 1000000) (w : World) (h : Rd w r m) (hx0 : P x0) (hx1 : P x1) (hx2 : P x2) (hx3 : P x3) (hx4 : P x4) (hx5 : P x5) (hx6 : P x6) (hx7 : P x7) (hx8 : P x8) (hx9 : P x9) :
    Calls Tryz.prog 90 #[.pointer (some ⟨r, 0, none⟩), .slice (some ⟨w.heap.size, 0, none⟩) 10 10] (w.alloc (.cells #[.int .i64 x0, .int .i64 x1, .int .i64 x2, .int .i64 x3, .int .i64 x4, .int .i64 x5, .int .i64 x6, .int .i64 x7, .int .i64 x8, .int .i64 x9] 3)) fun e w' => NumZ w w' r m P e := by
  refine (num_any r m w.heap.size (some ⟨w.heap.size, 0, none⟩) 10 [x0, x1, x2, x3, x4, x5, x6, x7, x8, x9] hm (by simp) (by simp) _ (h.alloc _) (intsAt_alloc w [x0, x1, x2, x3, x4, x5, x6, x7, x8, x9] _ _ rfl) h.lt).mono ?_
  rintro e w2 ⟨hD, hR, t, ht, rfl⟩
  refine ⟨hD.made, hR, t, ?_, rfl⟩
  simp only [List.mem_cons, List.not_mem_nil, or_false] at ht
  rcases ht with rfl | rfl | rfl | rfl | rfl | rfl | rfl | rfl | rfl | rfl <;> assumption
theorem of3g_any (r m z b : Nat) (x0 x1 x2 : ByteArray) (hm : m ≤ 1000000) (w : World) (h : Rd w r m) (hT : TextsAt w b (some ⟨b, 0, none⟩) [x0, x1, x2]) (hr : r < b) (hx0 : x0.size ≤ z) (hx1 : x1.size ≤ z) (hx2 : x2.size ≤ z) :
    Calls Tryz.prog 77 #[.pointer (some ⟨r, 0, none⟩), .slice (some ⟨b, 0, none⟩) 3 3] w fun e w' => OfZ w w' r m z e := by
  refine (of_any r m b (some ⟨b, 0, none⟩) 3 [x0, x1, x2] hm (by simp) (by simp) _ h hT hr).mono ?_
  rintro e w2 ⟨hD, hR, t, ht, rfl⟩
  refine ⟨hD, hR, t, ?_, rfl⟩
  simp only [List.mem_cons, List.not_mem_nil, or_false] at ht
  rcases ht with rfl | rfl | rfl <;> assumption
theorem TextsAt.drew {w : World} {B : Nat} {a : Option Addr} {L : List ByteArray} (h : TextsAt w B a L) : TextsAt w.drew B a L := h.below ((Below.refl _ _).drew)
theorem Rd.drew {w : World} {r m : Nat} (h : Rd w r m) : Rd w.drew r m := h.below ((Below.refl w.heap.size w).drew) h.lt
theorem Drw.drew {w w2 : World} {r : Nat} (h : Drw w.drew w2 r) : Drw w w2 r := (Drw.refl w r).below ((Below.refl w.heap.size w).drew) (Nat.le_refl _) |>.trans h
/-- what a draw of a text leaves -/
def TxAt (w w' : World) (r m z : Nat) (e : Ending) : Prop := Drw w w' r ∧ Rd w' r m ∧ ∃ t : ByteArray, t.size ≤ z ∧ e = .returned (.string t)
set_option maxHeartbeats 1000000 in
theorem l3Bad_any (r m : Nat) (t : ByteArray) (h1 : 1 ≤ t.size) (hz : t.size ≤ 500) (hm : m ≤ 900000) (w : World) (h : Rd w r m) :
    Calls Tryz.prog 106 #[.pointer (some ⟨r, 0, none⟩), .string t] w fun e w' => TxAt w w' r (m + 3) 1100 e := by
  have H := Lib.hid h
  have C := Lib.hid (fun (wx : World) (m' k : Nat) (hx : Rd wx r m') (h1 : m' ≤ 1000000) (h2 : k ≤ 2000000) => pick_any r m' k h1 h2 wx hx)
  clear h
  go_enter Tryz.func106, Tryz.ntmps106
  go_wp2_with fail
  refine (C.out w m 30 H.out (by omega) (by omega)).mono ?_
  rintro e w1 ⟨hD1, hR1, kk, rfl, _, _⟩
  have HD1 := Lib.hid hD1
  have HR1 := Lib.hid hR1
  clear hD1 hR1
  by_cases k0 : kk = 0
  · have e0 : ((kk : Int) == 0) = true := by rw [beq_iff_eq]; omega
    clear k0
    go_wp2_with ((with_reducible show wpList _ _ _ (⟨_, .buildSlice 31 4 _, _, _, _, _⟩ :: _) _ _); refine wpList_buildSlice' rfl _ _ _ rfl rfl (texts_built4 _ _ _ _ _) ?_)
    refine (of4_any r (m + 1) 6 _ _ _ _ (by omega) w1 HR1.out (by decide) (by decide) (by decide) (by decide)).mono ?_
    rintro e w2 ⟨hD2, hR2, u, hu, rfl⟩
    go_wp2_with fail
    go_ret
    exact ⟨HD1.out.trans hD2, hR2.more (by omega), _, by rw [ByteArray.size_append]; omega, rfl⟩
  · have e0 : ((kk : Int) == 0) = false := by rw [beq_eq_false_iff_ne]; omega
    by_cases k1 : kk = 1
    · have e1 : ((kk : Int) == 1) = true := by rw [beq_iff_eq]; omega
      clear k0 k1
      go_wp2_with fail
      refine (C.out w1 (m + 1) t.size HR1.out (by omega) (by omega)).mono ?_
      rintro e w2 ⟨hD2, hR2, j, rfl, _, hj⟩
      have hj := hj (by omega)
      have hz1 : (t.extract 0 j).size ≤ 500 := by rw [ByteArray.size_extract]; omega
      have hz2 : (t.extract (j + 1) t.size).size ≤ 500 := by rw [ByteArray.size_extract]; omega
      have hD12 := HD1.out.trans hD2
      have hrw := hR2.lt
      have HR2 := Lib.hid hR2
      have HD12 := Lib.hid hD12
      have f1 : (0 : Int) ≤ (j : Int) + 1 := by omega
      have f2 : (j : Int) + 1 ≤ (t.size : Int) := by omega
      have f3 : (0 : Int) ≤ (j : Int) := by omega
      have f4 : (j : Int) ≤ (t.size : Int) := by omega
      have f5 : IntKind.i64.wrap ((j : Int) + 1) = (j : Int) + 1 := wraps_i64 _ (by omega) (by omega)
      have f6 : ((j : Int) + 1).toNat = j + 1 := by omega
      clear hR2 hD2 hD12
      go_wp2_with fail
      go_region_held3 (fun _ => True)
        (first | trivial)
        (first
          | (go_at_call 77; refine Calls.mono (of3g_any r (m + 1 + 1) 6 w2.heap.size _ _ _ (by omega) _ ((HR2.out.alloc _).drew) ((textsAt_alloc w2 [_, _, _] _ _ rfl).drew) hrw (by decide) (by decide) (by decide)) ?_; rintro e w3 ⟨hD3, hR3, u, hu, rfl⟩; have hz3 : ¬ 9223372036854775807 < j + u.size := (by omega); have hz4 : ¬ 9223372036854775807 < j + u.size + (t.size - (j + 1)) := (by omega)))
      go_wp2_with fail
      go_ret
      refine ⟨HD12.out.trans ?_, hR3.more (by omega), _, by simp only [ByteArray.size_append]; omega, rfl⟩
      first | exact hD3.made | exact (Drw.drew hD3).made
    · have e1 : ((kk : Int) == 1) = false := by rw [beq_eq_false_iff_ne]; omega
      clear k0 k1
      go_wp2_with fail
      go_ret
      exact ⟨HD1.out, HR1.out.more (by omega), t, by omega, rfl⟩
def szI (t : ByteArray) : Int := if netOk t then ((netOf t).n : Nat) else -1
theorem szI_le (t : ByteArray) : -1 ≤ szI t ∧ szI t ≤ 5 := by
  unfold szI
  cases h : netOk t
  · rw [if_neg (by decide)]; omega
  · have := netOf_ok h
    rw [if_pos rfl]; omega
theorem sizeOf_spec (t : ByteArray) (w : World) (hs : t.size ≤ 1048576) :
    Calls Tryz.prog 48 #[.string t] w fun e w' => Below w.heap.size w w' ∧ e = .returned (.int .i64 (szI t)) := by
  unfold szI
  cases h : netOk t
  · exact sizeOf_no t w hs h
  · exact sizeOf_yes t w hs h
/-- what a draw of a text and a number leaves -/
def TiAt (w w' : World) (r m z : Nat) (e : Ending) : Prop := Drw w w' r ∧ Rd w' r m ∧ ∃ (t : ByteArray) (i : Int), t.size ≤ z ∧ (Lit.int .i64 i).wf = true ∧ e = .returned (.tuple #[.string t, .int .i64 i])
theorem pow_small {n : Nat} (hn : n ≤ 5) : ((pw n : Nat) : Int) ≤ 32 := by have := pw_le hn; omega
set_option maxHeartbeats 1000000 in
theorem l5Small_any (r m : Nat) (hm : m ≤ 700000) (w : World) (h : Rd w r m) :
    Calls Tryz.prog 105 #[.pointer (some ⟨r, 0, none⟩)] w fun e w' => TiAt w w' r (m + 220) 1100 e := by
  have H := Lib.hid h
  have hrw := h.lt
  have C := Lib.hid (fun (wx : World) (m' k : Nat) (hx : Rd wx r m') (h1 : m' ≤ 1000000) (h2 : k ≤ 2000000) => pick_any r m' k h1 h2 wx hx)
  clear h
  go_enter Tryz.func105, Tryz.ntmps105
  go_wp2_with ((with_reducible show wpList _ _ _ (⟨_, .buildSlice 27 5 _, _, _, _, _⟩ :: _) _ _); refine wpList_buildSlice' rfl _ _ _ rfl rfl (ints_built5 _ _ _ _ _ _) ?_)
  refine (num5_any (fun v => 1 ≤ v ∧ v ≤ 5) r m _ _ _ _ _ (by omega) w H.out (by decide) (by decide) (by decide) (by decide) (by decide)).mono ?_
  rintro e w1 ⟨hD1, hR1, v, hv, rfl⟩
  obtain ⟨k, rfl⟩ : ∃ k : Nat, v = (k : Int) := ⟨v.toNat, by omega⟩
  have hk1 : 1 ≤ k := by omega
  have hk5 : k ≤ 5 := by omega
  clear hv
  go_wp2_with fail
  refine (l3Draw_any r (m + 1) k hk1 hk5 (by omega) w1 hR1).mono ?_
  rintro e w2 ⟨hD2, hR2, N, hN, rfl⟩
  have hz := netText_size (N := N) (by omega)
  have hz1 : 1 ≤ (netText N).size := netText_pos (by omega)
  obtain ⟨t, ht⟩ : ∃ t, netText N = t := ⟨_, rfl⟩
  rw [ht] at hz hz1 ⊢
  clear ht hN
  go_wp2_with fail
  refine (l3Bad_any r (m + 1 + 200) t hz1 (by omega) (by omega) w2 hR2).mono ?_
  rintro e w3 ⟨hD3, hR3, u, hu, rfl⟩
  have hD123 := (hD1.trans hD2).trans hD3
  have cS := Lib.hid (sizeOf_spec u w3 (by omega))
  have HD := Lib.hid hD123
  have HR3 := Lib.hid hR3
  have hw3 := hD123.size
  clear hD1 hD2 hD3 hD123 hR1 hR2 hR3 hz hz1
  go_wp2_with fail
  refine cS.out.mono ?_
  rintro e w4 ⟨hW4, rfl⟩
  have hR4 := Lib.hid (HR3.out.below hW4 HR3.out.lt)
  have hD4 := Lib.hid (HD.out.below hW4 hw3)
  have hle := szI_le u
  obtain ⟨n, hn⟩ : ∃ n, szI u = n := ⟨_, rfl⟩
  rw [hn] at hle ⊢
  clear hn hW4
  by_cases hpos : 0 < n
  · obtain ⟨k2, rfl⟩ : ∃ k : Nat, n = (k : Int) := ⟨n.toNat, by omega⟩
    have hk25 : k2 ≤ 5 := by omega
    have hpw := pw_le hk25
    have hpc := pw_cast k2
    have h2 := pow2_le k2 hk25
    go_wp2_with fail
    refine (C.out w4 _ 16 hR4.out (by omega) (by omega)).mono ?_
    rintro e w5 ⟨hD5, hR5, j, rfl, _, _⟩
    have HD5 := Lib.hid (hD4.out.trans hD5)
    have HR5 := Lib.hid hR5
    clear hD5 hR5
    by_cases hj : 0 < j
    · have hj2 : (0 : Int) < (j : Int) := by omega
      go_wp2_with fail
      refine (C.out w5 _ (pw k2) HR5.out (by omega) (by omega)).mono ?_
      rintro e w6 ⟨hD6, hR6, q, rfl, hq, _⟩
      go_wp2_with fail
      go_ret2
      exact ⟨HD5.out.trans hD6, hR6.more (by omega), u, _, hu, wf_nat (by omega), rfl⟩
    · have hj2 : ¬ (0 : Int) < (j : Int) := by omega
      go_wp2_with ((with_reducible show wpList _ _ _ (⟨_, .buildSlice 27 4 _, _, _, _, _⟩ :: _) _ _); refine wpList_buildSlice' rfl _ _ _ rfl rfl (ints_built4 _ _ _ _ _) ?_)
      refine (num4_any (fun v => (Lit.int .i64 v).wf = true) r _ _ _ _ _ (by omega) w5 HR5.out (by decide) (by decide) (by decide) (by decide)).mono ?_
      rintro e w6 ⟨hD6, hR6, v, hv, rfl⟩
      go_wp2_with fail
      go_ret2
      exact ⟨HD5.out.trans hD6, hR6.more (by omega), u, _, hu, hv, rfl⟩
  · go_wp2_with ((with_reducible show wpList _ _ _ (⟨_, .buildSlice 27 4 _, _, _, _, _⟩ :: _) _ _); refine wpList_buildSlice' rfl _ _ _ rfl rfl (ints_built4 _ _ _ _ _) ?_)
    refine (num4_any (fun v => (Lit.int .i64 v).wf = true) r _ _ _ _ _ (by omega) w4 hR4.out (by decide) (by decide) (by decide) (by decide)).mono ?_
    rintro e w6 ⟨hD6, hR6, v, hv, rfl⟩
    go_wp2_with fail
    go_ret2
    exact ⟨hD4.out.trans hD6, hR6.more (by omega), u, _, hu, hv, rfl⟩
end Go.Proofs.YtkfagolmpbbckaaGreatDoor
namespace Go.Proofs.YtkfagolmpbbckaaGreatDoor
open Go Go.RowKit Go.Sw
set_option maxRecDepth 100000
set_option linter.unusedVariables false

theorem L3D.below {w wr w4 : World} {r m n k : Nat} {out : Value} {F : Nat → Nat → Bool} (h : L3D w wr r m n k out F) (hr : r < w.heap.size) (hb : Below wr.heap.size wr w4) : L3D w w4 r m n k out F :=
  h.step hr ((Drw.refl _ _).below hb (Nat.le_refl _)) (h.rd.below hb h.rd.lt)
set_option maxHeartbeats 4000000 in
theorem l7Chain_any (r m : Nat) (hm : m ≤ 700000) (w : World) (h : Rd w r m) :
    Calls Tryz.prog 107 #[.pointer (some ⟨r, 0, none⟩)] w fun e w' => TxAt w w' r (m + 300) 400 e ∧ ∃ t : ByteArray, e = .returned (.string t) ∧ 1 ≤ t.size := by
  have H := Lib.hid h
  have C := Lib.hid (fun (wx : World) (m' k : Nat) (hx : Rd wx r m') (h1 : m' ≤ 1000000) (h2 : k ≤ 2000000) => pick_any r m' k h1 h2 wx hx)
  clear h
  go_enter Tryz.func107, Tryz.ntmps107
  go_wp2_with ((with_reducible show wpList _ _ _ (⟨_, .buildSlice 27 5 _, _, _, _, _⟩ :: _) _ _); refine wpList_buildSlice' rfl _ _ _ rfl rfl (ints_built5 _ _ _ _ _ _) ?_)
  refine (num5_any (fun v => 1 ≤ v ∧ v ≤ 5) r m _ _ _ _ _ (by omega) w H.out (by decide) (by decide) (by decide) (by decide) (by decide)).mono ?_
  rintro e w1 ⟨hD1, hR1, v, hv, rfl⟩
  obtain ⟨n, rfl⟩ : ∃ k : Nat, v = (k : Int) := ⟨v.toNat, by omega⟩
  have h1 : 1 ≤ n := by omega
  have hn : n ≤ 5 := by omega
  have hD1' := Lib.hid hD1
  have hR1' := Lib.hid hR1
  have hrw := hR1.lt
  have cI := Lib.hid (fun (i : Nat) (hi : i < n) (wx : World) => inputTable_any n i h1 hn hi wx)
  have cN := Lib.hid (fun (f : Nat → Bool) (wx : World) => l1Not_any n f hn wx)
  have cA := Lib.hid (fun (f g : Nat → Bool) (wx : World) => andTables_any n f g h1 hn wx)
  have cL := Lib.hid (fun (wx : World) (m' : Nat) (hx : Rd wx r m') (h2 : m' ≤ 900000) => l1Draw_any r m' n h1 hn h2 wx hx)
  have hn0 : ((n : Int) == 0) = false := by rw [beq_eq_false_iff_ne]; omega
  clear hv hD1 hR1
  go_wp2_with ((with_reducible show wpList _ _ _ (⟨_, .buildSlice 31 0 _, _, _, _, _⟩ :: _) _ _); refine wpList_buildSlice' rfl _ _ _ rfl rfl (str_none _) ?_)
  go_loopw [4, 5, 6, 7, 8, 36, 41] (fun out s _ _ _ _ _ wr => ∃ (k : Nat) (F : Nat → Nat → Bool), k ≤ n ∧ s = .int .i64 k ∧ L3D w1 wr r (m + 1 + 50 * k) n k out F) (fun _ s _ _ _ _ _ _ => n - (intOf s).toNat)
  case atStart => exact ⟨0, fun _ _ => false, Nat.zero_le _, rfl, World.ownsRow_made w1 #[] 0 (Nat.le_refl _) (by unfold maxLen; omega) rfl, (Drw.refl _ _).below ((Below.refl _ _).alloc (Nat.le_refl _) _) (Nat.le_refl _), hR1'.out.alloc _⟩
  case round =>
    obtain ⟨k, F, hk, rfl, hL⟩ := hrel
    have HL := Lib.hid hL
    have hws := hL.drw.size
    clear hL
    have hbl : (tabsL n k F).length ≤ 5 := by rw [tabsL_length]; omega
    by_cases hlt : k < n
    · have em : ((k : Int) + 1).tmod (n : Int) = (((k + 1) % n : Nat) : Int) := by
        rw [show ((k : Int) + 1) = ((k + 1 : Nat) : Int) by omega]; exact (Int.ofNat_tmod _ n).symm
      have hj0 : (k + 1) % n < n := Nat.mod_lt _ (by omega)
      obtain ⟨j0, hj⟩ : ∃ j, (k + 1) % n = j := ⟨_, rfl⟩
      rw [hj] at em hj0
      clear hj
      go_wp2_with fail
      refine (C.out wr _ 3 HL.out.rd (by omega) (by omega)).mono ?_
      rintro e w2 ⟨hD2, hR2, c3, rfl, _, _⟩
      have HL2 := Lib.hid (HL.out.step hrw hD2 hR2)
      have hws2 := HL2.out.drw.size
      clear hD2 hR2 HL
      by_cases h3 : c3 = 0
      · have e3 : ((c3 : Int) == 0) = true := by rw [beq_iff_eq]; omega
        clear h3
        go_wp2_with fail
        refine (C.out w2 _ n HL2.out.rd (by omega) (by omega)).mono ?_
        rintro e w3 ⟨hD3, hR3, j, rfl, _, hjn⟩
        have hjn := hjn (by omega)
        have HL3 := Lib.hid ((HL2.out.step hrw hD3 hR3))
        have hws3 := HL3.out.drw.size
        clear hD3 hR3 HL2 em
        go_wp2_with fail
        refine (cI.out j hjn w3).mono ?_
        rintro e w4 ⟨hW4, rfl⟩
        have HL4 := Lib.hid (L3D.below HL3.out hrw hW4)
        have hws4 := HL4.out.drw.size
        obtain ⟨f0, hf0⟩ : ∃ f, (fun s : Nat => s.testBit j) = f := ⟨_, rfl⟩
        rw [hf0]
        clear hW4 HL3 hf0
        go_wp2_with fail
        refine (C.out w4 _ 5 HL4.out.rd (by omega) (by omega)).mono ?_
        rintro e w5 ⟨hD5, hR5, c5, rfl, _, _⟩
        have HL5 := Lib.hid (HL4.out.step hrw hD5 hR5)
        have hws5 := HL5.out.drw.size
        clear hD5 hR5 HL4
        by_cases q0 : c5 = 0
        · have e0 : ((c5 : Int) == 0) = true := by rw [beq_iff_eq]; omega
          clear q0
          go_wp2_with fail
          refine (cN.out f0 w5).mono ?_
          rintro e w6 ⟨hW6, rfl⟩
          have HL6 := Lib.hid (L3D.below HL5.out hrw hW6)
          have hws6 := HL6.out.drw.size
          clear hW6 HL5
          obtain ⟨tt, htt⟩ : ∃ t, tabText n (fun s => !f0 s) = t := ⟨_, rfl⟩
          have Hput := Lib.hid (tabsL_put n k F (fun s => !f0 s))
          rw [htt] at Hput ⊢
          clear htt
          go_wp2_with (first | ((with_reducible show wpList _ _ _ (⟨_, .buildSlice 31 1 _, _, _, _, _⟩ :: _) _ _); refine wpList_buildSlice' rfl _ _ _ rfl rfl (str_one _ _) ?_) | (at_builtin; refine wpList_text_appendK rfl _ _ rfl w1.heap.size _ (tabsL n k F) rfl ((HL6.out.own.alloc _)) _ _ rfl (cell_new ?_) (by omega) ((Below.refl w1.heap.size w6).alloc (by omega) _) ?_ ?_ ?_))
          · first | rfl | simp
          · exact Nat.le_refl _
          · first | omega | (simp; omega)
          · intro v' w8 hown8 hB8 _
            have Hf := Lib.hid (show L3D w1 w8 r (m + 1 + 50 * (k + 1)) n (k + 1) v' (fun i => if i = k then (fun s => !f0 s) else F i) from
              ⟨by rw [Hput.out, List.length_append]; exact hown8, HL6.out.drw.below hB8 (Nat.le_refl _), (HL6.out.rd.below hB8 hrw).more (by omega)⟩)
            clear hown8 hB8
            go_wp2_with fail
            go_roundw
            case rel => exact ⟨k + 1, _, by omega, by go_num, Hf.out⟩
            case measure => simp [intOf] <;> omega
        · have e0 : ((c5 : Int) == 0) = false := by rw [beq_eq_false_iff_ne]; omega
          by_cases q1 : c5 = 1
          · have e1 : ((c5 : Int) == 1) = true := by rw [beq_iff_eq]; omega
            clear q0 q1
            go_wp2_with fail
            refine (cN.out f0 w5).mono ?_
            rintro e w6 ⟨hW6, rfl⟩
            have HL6 := Lib.hid (L3D.below HL5.out hrw hW6)
            have hws6 := HL6.out.drw.size
            clear hW6 HL5
            obtain ⟨tt, htt⟩ : ∃ t, tabText n (fun s => !f0 s) = t := ⟨_, rfl⟩
            have Hput := Lib.hid (tabsL_put n k F (fun s => !f0 s))
            rw [htt] at Hput ⊢
            clear htt
            go_wp2_with (first | ((with_reducible show wpList _ _ _ (⟨_, .buildSlice 31 1 _, _, _, _, _⟩ :: _) _ _); refine wpList_buildSlice' rfl _ _ _ rfl rfl (str_one _ _) ?_) | (at_builtin; refine wpList_text_appendK rfl _ _ rfl w1.heap.size _ (tabsL n k F) rfl ((HL6.out.own.alloc _)) _ _ rfl (cell_new ?_) (by omega) ((Below.refl w1.heap.size w6).alloc (by omega) _) ?_ ?_ ?_))
            · first | rfl | simp
            · exact Nat.le_refl _
            · first | omega | (simp; omega)
            · intro v' w8 hown8 hB8 _
              have Hf := Lib.hid (show L3D w1 w8 r (m + 1 + 50 * (k + 1)) n (k + 1) v' (fun i => if i = k then (fun s => !f0 s) else F i) from
                ⟨by rw [Hput.out, List.length_append]; exact hown8, HL6.out.drw.below hB8 (Nat.le_refl _), (HL6.out.rd.below hB8 hrw).more (by omega)⟩)
              clear hown8 hB8
              go_wp2_with fail
              go_roundw
              case rel => exact ⟨k + 1, _, by omega, by go_num, Hf.out⟩
              case measure => simp [intOf] <;> omega
          · have e1 : ((c5 : Int) == 1) = false := by rw [beq_eq_false_iff_ne]; omega
            by_cases q2 : c5 = 2
            · have e2 : ((c5 : Int) == 2) = true := by rw [beq_iff_eq]; omega
              clear q0 q1 q2
              go_wp2_with fail
              refine (cL.out w5 _ HL5.out.rd (by omega)).mono ?_
              rintro e w6 ⟨hD6, hR6, g, rfl⟩
              have HL6 := Lib.hid (HL5.out.step hrw hD6 hR6)
              clear hD6 hR6 HL5
              go_wp2_with fail
              refine (cA.out f0 g w6).mono ?_
              rintro e w7 ⟨hW7, rfl⟩
              have HL7 := Lib.hid (L3D.below HL6.out hrw hW7)
              have hws7 := HL7.out.drw.size
              clear hW7 HL6
              obtain ⟨tt, htt⟩ : ∃ t, tabText n (andF f0 g) = t := ⟨_, rfl⟩
              have Hput := Lib.hid (tabsL_put n k F (andF f0 g))
              rw [htt] at Hput ⊢
              clear htt
              go_wp2_with (first | ((with_reducible show wpList _ _ _ (⟨_, .buildSlice 31 1 _, _, _, _, _⟩ :: _) _ _); refine wpList_buildSlice' rfl _ _ _ rfl rfl (str_one _ _) ?_) | (at_builtin; refine wpList_text_appendK rfl _ _ rfl w1.heap.size _ (tabsL n k F) rfl ((HL7.out.own.alloc _)) _ _ rfl (cell_new ?_) (by omega) ((Below.refl w1.heap.size w7).alloc (by omega) _) ?_ ?_ ?_))
              · first | rfl | simp
              · exact Nat.le_refl _
              · first | omega | (simp; omega)
              · intro v' w8 hown8 hB8 _
                have Hf := Lib.hid (show L3D w1 w8 r (m + 1 + 50 * (k + 1)) n (k + 1) v' (fun i => if i = k then (andF f0 g) else F i) from
                  ⟨by rw [Hput.out, List.length_append]; exact hown8, HL7.out.drw.below hB8 (Nat.le_refl _), (HL7.out.rd.below hB8 hrw).more (by omega)⟩)
                clear hown8 hB8
                go_wp2_with fail
                go_roundw
                case rel => exact ⟨k + 1, _, by omega, by go_num, Hf.out⟩
                case measure => simp [intOf] <;> omega
            · have e2 : ((c5 : Int) == 2) = false := by rw [beq_eq_false_iff_ne]; omega
              clear q0 q1 q2
              obtain ⟨tt, htt⟩ : ∃ t, tabText n (f0) = t := ⟨_, rfl⟩
              have Hput := Lib.hid (tabsL_put n k F (f0))
              rw [htt] at Hput ⊢
              clear htt
              go_wp2_with (first | ((with_reducible show wpList _ _ _ (⟨_, .buildSlice 31 1 _, _, _, _, _⟩ :: _) _ _); refine wpList_buildSlice' rfl _ _ _ rfl rfl (str_one _ _) ?_) | (at_builtin; refine wpList_text_appendK rfl _ _ rfl w1.heap.size _ (tabsL n k F) rfl ((HL5.out.own.alloc _)) _ _ rfl (cell_new ?_) (by omega) ((Below.refl w1.heap.size w5).alloc (by omega) _) ?_ ?_ ?_))
              · first | rfl | simp
              · exact Nat.le_refl _
              · first | omega | (simp; omega)
              · intro v' w8 hown8 hB8 _
                have Hf := Lib.hid (show L3D w1 w8 r (m + 1 + 50 * (k + 1)) n (k + 1) v' (fun i => if i = k then (f0) else F i) from
                  ⟨by rw [Hput.out, List.length_append]; exact hown8, HL5.out.drw.below hB8 (Nat.le_refl _), (HL5.out.rd.below hB8 hrw).more (by omega)⟩)
                clear hown8 hB8
                go_wp2_with fail
                go_roundw
                case rel => exact ⟨k + 1, _, by omega, by go_num, Hf.out⟩
                case measure => simp [intOf] <;> omega
      · have e3 : ((c3 : Int) == 0) = false := by rw [beq_eq_false_iff_ne]; omega
        clear h3
        go_wp2_with fail
        refine (cI.out j0 hj0 w2).mono ?_
        rintro e w4 ⟨hW4, rfl⟩
        have HL4 := Lib.hid (L3D.below HL2.out hrw hW4)
        have hws4 := HL4.out.drw.size
        obtain ⟨f0, hf0⟩ : ∃ f, (fun s : Nat => s.testBit j0) = f := ⟨_, rfl⟩
        rw [hf0]
        clear hW4 HL2 hf0
        go_wp2_with fail
        refine (C.out w4 _ 5 HL4.out.rd (by omega) (by omega)).mono ?_
        rintro e w5 ⟨hD5, hR5, c5, rfl, _, _⟩
        have HL5 := Lib.hid (HL4.out.step hrw hD5 hR5)
        have hws5 := HL5.out.drw.size
        clear hD5 hR5 HL4
        by_cases q0 : c5 = 0
        · have e0 : ((c5 : Int) == 0) = true := by rw [beq_iff_eq]; omega
          clear q0
          go_wp2_with fail
          refine (cN.out f0 w5).mono ?_
          rintro e w6 ⟨hW6, rfl⟩
          have HL6 := Lib.hid (L3D.below HL5.out hrw hW6)
          have hws6 := HL6.out.drw.size
          clear hW6 HL5
          obtain ⟨tt, htt⟩ : ∃ t, tabText n (fun s => !f0 s) = t := ⟨_, rfl⟩
          have Hput := Lib.hid (tabsL_put n k F (fun s => !f0 s))
          rw [htt] at Hput ⊢
          clear htt
          go_wp2_with (first | ((with_reducible show wpList _ _ _ (⟨_, .buildSlice 31 1 _, _, _, _, _⟩ :: _) _ _); refine wpList_buildSlice' rfl _ _ _ rfl rfl (str_one _ _) ?_) | (at_builtin; refine wpList_text_appendK rfl _ _ rfl w1.heap.size _ (tabsL n k F) rfl ((HL6.out.own.alloc _)) _ _ rfl (cell_new ?_) (by omega) ((Below.refl w1.heap.size w6).alloc (by omega) _) ?_ ?_ ?_))
          · first | rfl | simp
          · exact Nat.le_refl _
          · first | omega | (simp; omega)
          · intro v' w8 hown8 hB8 _
            have Hf := Lib.hid (show L3D w1 w8 r (m + 1 + 50 * (k + 1)) n (k + 1) v' (fun i => if i = k then (fun s => !f0 s) else F i) from
              ⟨by rw [Hput.out, List.length_append]; exact hown8, HL6.out.drw.below hB8 (Nat.le_refl _), (HL6.out.rd.below hB8 hrw).more (by omega)⟩)
            clear hown8 hB8
            go_wp2_with fail
            go_roundw
            case rel => exact ⟨k + 1, _, by omega, by go_num, Hf.out⟩
            case measure => simp [intOf] <;> omega
        · have e0 : ((c5 : Int) == 0) = false := by rw [beq_eq_false_iff_ne]; omega
          by_cases q1 : c5 = 1
          · have e1 : ((c5 : Int) == 1) = true := by rw [beq_iff_eq]; omega
            clear q0 q1
            go_wp2_with fail
            refine (cN.out f0 w5).mono ?_
            rintro e w6 ⟨hW6, rfl⟩
            have HL6 := Lib.hid (L3D.below HL5.out hrw hW6)
            have hws6 := HL6.out.drw.size
            clear hW6 HL5
            obtain ⟨tt, htt⟩ : ∃ t, tabText n (fun s => !f0 s) = t := ⟨_, rfl⟩
            have Hput := Lib.hid (tabsL_put n k F (fun s => !f0 s))
            rw [htt] at Hput ⊢
            clear htt
            go_wp2_with (first | ((with_reducible show wpList _ _ _ (⟨_, .buildSlice 31 1 _, _, _, _, _⟩ :: _) _ _); refine wpList_buildSlice' rfl _ _ _ rfl rfl (str_one _ _) ?_) | (at_builtin; refine wpList_text_appendK rfl _ _ rfl w1.heap.size _ (tabsL n k F) rfl ((HL6.out.own.alloc _)) _ _ rfl (cell_new ?_) (by omega) ((Below.refl w1.heap.size w6).alloc (by omega) _) ?_ ?_ ?_))
            · first | rfl | simp
            · exact Nat.le_refl _
            · first | omega | (simp; omega)
            · intro v' w8 hown8 hB8 _
              have Hf := Lib.hid (show L3D w1 w8 r (m + 1 + 50 * (k + 1)) n (k + 1) v' (fun i => if i = k then (fun s => !f0 s) else F i) from
                ⟨by rw [Hput.out, List.length_append]; exact hown8, HL6.out.drw.below hB8 (Nat.le_refl _), (HL6.out.rd.below hB8 hrw).more (by omega)⟩)
              clear hown8 hB8
              go_wp2_with fail
              go_roundw
              case rel => exact ⟨k + 1, _, by omega, by go_num, Hf.out⟩
              case measure => simp [intOf] <;> omega
          · have e1 : ((c5 : Int) == 1) = false := by rw [beq_eq_false_iff_ne]; omega
            by_cases q2 : c5 = 2
            · have e2 : ((c5 : Int) == 2) = true := by rw [beq_iff_eq]; omega
              clear q0 q1 q2
              go_wp2_with fail
              refine (cL.out w5 _ HL5.out.rd (by omega)).mono ?_
              rintro e w6 ⟨hD6, hR6, g, rfl⟩
              have HL6 := Lib.hid (HL5.out.step hrw hD6 hR6)
              clear hD6 hR6 HL5
              go_wp2_with fail
              refine (cA.out f0 g w6).mono ?_
              rintro e w7 ⟨hW7, rfl⟩
              have HL7 := Lib.hid (L3D.below HL6.out hrw hW7)
              have hws7 := HL7.out.drw.size
              clear hW7 HL6
              obtain ⟨tt, htt⟩ : ∃ t, tabText n (andF f0 g) = t := ⟨_, rfl⟩
              have Hput := Lib.hid (tabsL_put n k F (andF f0 g))
              rw [htt] at Hput ⊢
              clear htt
              go_wp2_with (first | ((with_reducible show wpList _ _ _ (⟨_, .buildSlice 31 1 _, _, _, _, _⟩ :: _) _ _); refine wpList_buildSlice' rfl _ _ _ rfl rfl (str_one _ _) ?_) | (at_builtin; refine wpList_text_appendK rfl _ _ rfl w1.heap.size _ (tabsL n k F) rfl ((HL7.out.own.alloc _)) _ _ rfl (cell_new ?_) (by omega) ((Below.refl w1.heap.size w7).alloc (by omega) _) ?_ ?_ ?_))
              · first | rfl | simp
              · exact Nat.le_refl _
              · first | omega | (simp; omega)
              · intro v' w8 hown8 hB8 _
                have Hf := Lib.hid (show L3D w1 w8 r (m + 1 + 50 * (k + 1)) n (k + 1) v' (fun i => if i = k then (andF f0 g) else F i) from
                  ⟨by rw [Hput.out, List.length_append]; exact hown8, HL7.out.drw.below hB8 (Nat.le_refl _), (HL7.out.rd.below hB8 hrw).more (by omega)⟩)
                clear hown8 hB8
                go_wp2_with fail
                go_roundw
                case rel => exact ⟨k + 1, _, by omega, by go_num, Hf.out⟩
                case measure => simp [intOf] <;> omega
            · have e2 : ((c5 : Int) == 2) = false := by rw [beq_eq_false_iff_ne]; omega
              clear q0 q1 q2
              obtain ⟨tt, htt⟩ : ∃ t, tabText n (f0) = t := ⟨_, rfl⟩
              have Hput := Lib.hid (tabsL_put n k F (f0))
              rw [htt] at Hput ⊢
              clear htt
              go_wp2_with (first | ((with_reducible show wpList _ _ _ (⟨_, .buildSlice 31 1 _, _, _, _, _⟩ :: _) _ _); refine wpList_buildSlice' rfl _ _ _ rfl rfl (str_one _ _) ?_) | (at_builtin; refine wpList_text_appendK rfl _ _ rfl w1.heap.size _ (tabsL n k F) rfl ((HL5.out.own.alloc _)) _ _ rfl (cell_new ?_) (by omega) ((Below.refl w1.heap.size w5).alloc (by omega) _) ?_ ?_ ?_))
              · first | rfl | simp
              · exact Nat.le_refl _
              · first | omega | (simp; omega)
              · intro v' w8 hown8 hB8 _
                have Hf := Lib.hid (show L3D w1 w8 r (m + 1 + 50 * (k + 1)) n (k + 1) v' (fun i => if i = k then (f0) else F i) from
                  ⟨by rw [Hput.out, List.length_append]; exact hown8, HL5.out.drw.below hB8 (Nat.le_refl _), (HL5.out.rd.below hB8 hrw).more (by omega)⟩)
                clear hown8 hB8
                go_wp2_with fail
                go_roundw
                case rel => exact ⟨k + 1, _, by omega, by go_num, Hf.out⟩
                case measure => simp [intOf] <;> omega
    · obtain rfl : k = n := by omega
      obtain ⟨b, cap, rfl, _, _⟩ := own_slice HL.out.own (by rw [tabsL_length]; omega)
      have hcells : StrsAt wr b (tabsL k k F) := strsAt_of_own HL.out.own
      have hsz : ∀ p ∈ tabsL k k F, p.size ≤ 64 := fun p hp => by
        obtain ⟨i, _, rfl⟩ := List.mem_map.1 hp
        rw [tabText_size]; have := pw_le hn; omega
      have cT := Lib.hid (l3Text_any b cap (tabsL k k F) (by omega) hsz wr hcells)
      have hfin : netText ⟨k, F⟩ = bs (joinL ((tabsL k k F).map (·.data.toList))) := rfl
      rw [← hfin] at cT
      have hz := netText_size (N := ⟨k, F⟩) hn
      have hz1 := netText_pos (N := ⟨k, F⟩) h1
      have Hz := Lib.hid hz
      have Hz1 := Lib.hid hz1
      clear hcells hsz hfin hz hz1
      go_wp2_with fail
      refine cT.out.mono ?_
      rintro e w5 ⟨rfl, rfl⟩
      go_wp2_with fail
      go_ret
      exact ⟨⟨hD1'.out.trans HL.out.drw, HL.out.rd.more (by omega), _, Nat.le_trans Hz.out (by omega), rfl⟩, _, rfl, Hz1.out⟩
theorem l7Open_any (r m : Nat) (hm : m ≤ 600000) (w : World) (h : Rd w r m) :
    Calls Tryz.prog 62 #[.pointer (some ⟨r, 0, none⟩)] w fun e w' => TxAt w w' r (m + 310) 1100 e := by
  have C := Lib.hid (pick_any r m 3 (by omega) (by omega) w h)
  clear h
  go_enter Tryz.func62, Tryz.ntmps62
  go_wp2_with fail
  refine C.out.mono ?_
  rintro e w1 ⟨hD1, hR1, c3, rfl, _, _⟩
  have HD1 := Lib.hid hD1
  by_cases h3 : c3 = 0
  · have e3 : ((c3 : Int) == 0) = true := by rw [beq_iff_eq]; omega
    have cS := Lib.hid (l5Small_any r (m + 1) (by omega) w1 hR1)
    clear h3 hD1 hR1
    go_wp2_with fail
    refine cS.out.mono ?_
    rintro e w2 ⟨hD2, hR2, t, i, ht, _, rfl⟩
    go_wp2_with fail
    go_ret
    exact ⟨HD1.out.trans hD2, hR2.more (by omega), t, ht, rfl⟩
  · have e3 : ((c3 : Int) == 0) = false := by rw [beq_eq_false_iff_ne]; omega
    have cS := Lib.hid (l7Chain_any r (m + 1) (by omega) w1 hR1)
    clear h3 hD1 hR1
    go_wp2_with fail
    refine cS.out.mono ?_
    rintro e w2 ⟨⟨hD2, hR2, t, ht, rfl⟩, t', ht', hz⟩
    have ett : t' = t := by injection ht' with e1; injection e1 with e1; exact e1.symm
    subst ett
    have cB := Lib.hid (l3Bad_any r _ t' hz (by omega) (by omega) w2 hR2)
    have HD2 := Lib.hid hD2
    clear hD2 hR2 ht'
    go_wp2_with fail
    refine cB.out.mono ?_
    rintro e w3 ⟨hD3, hR3, u, hu, rfl⟩
    go_wp2_with fail
    go_ret
    exact ⟨(HD1.out.trans HD2.out).trans hD3, hR3.more (by omega), u, hu, rfl⟩
end Go.Proofs.YtkfagolmpbbckaaGreatDoor
namespace Go.Proofs.YtkfagolmpbbckaaGreatDoor
open Go Go.RowKit Go.Sw
set_option maxRecDepth 100000
set_option linter.unusedVariables false

theorem freeL_mem {N : Net} {k : Nat} {x : Int} (h : x ∈ freeL N k) : ∃ i : Nat, x = (i : Int) ∧ i < k ∧ freeB N i = true := by
  induction k with
  | zero => simp [freeL] at h
  | succ k ih =>
    rw [freeL] at h
    split at h
    · rename_i hf
      rcases List.mem_append.1 h with h | h
      · obtain ⟨i, h1, h2, h3⟩ := ih h
        exact ⟨i, h1, by omega, h3⟩
      · have : x = (k : Int) := by simpa using h
        exact ⟨k, this, by omega, hf⟩
    · obtain ⟨i, h1, h2, h3⟩ := ih h
      exact ⟨i, h1, by omega, h3⟩
theorem remL_wf {t : ByteArray} {x : Int} (h : x ∈ remL t) : (Lit.int .i64 x).wf = true := by
  unfold remL at h
  cases hok : netOk t
  · rw [hok] at h; simp at h
  · rw [hok, if_pos rfl] at h
    obtain ⟨i, rfl, hi, _⟩ := freeL_mem h
    have := netOf_ok hok
    exact wf_nat (by omega)
/-- what a Draw.. of a text leaves -/
def TopT (w w' : World) (e : Ending) : Prop := Below w.heap.size w w' ∧ ∃ t : ByteArray, t.size ≤ 1100 ∧ e = .returned (.string t)
def TopTI (w w' : World) (e : Ending) : Prop := Below w.heap.size w w' ∧ ∃ (t : ByteArray) (i : Int), t.size ≤ 1100 ∧ (Lit.int .i64 i).wf = true ∧ e = .returned (.tuple #[.string t, .int .i64 i])
def TopTII (w w' : World) (e : Ending) : Prop := Below w.heap.size w w' ∧ ∃ (t : ByteArray) (i s : Int), t.size ≤ 1100 ∧ (Lit.int .i64 i).wf = true ∧ (Lit.int .i64 s).wf = true ∧ e = .returned (.tuple #[.string t, .int .i64 i, .int .i64 s])
def TopIII (w w' : World) (e : Ending) : Prop := Below w.heap.size w w' ∧ ∃ (a i s : Int), (Lit.int .i64 a).wf = true ∧ (Lit.int .i64 i).wf = true ∧ (Lit.int .i64 s).wf = true ∧ e = .returned (.tuple #[.int .i64 a, .int .i64 i, .int .i64 s])
end Go.Proofs.YtkfagolmpbbckaaGreatDoor
