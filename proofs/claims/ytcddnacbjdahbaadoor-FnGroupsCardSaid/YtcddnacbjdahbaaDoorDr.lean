/- The reference's draws out of lists, and the opening of its source. -/
import Derived.Test.YtcddnacbjdahbaaDoorDq
import Derived.Test.YtcddnacbjdahbaaDoorSx
namespace Go.Proofs.YtcddnacbjdahbaaDoor
open Go Go.RowKit Go.Sw
set_option maxRecDepth 100000
set_option linter.unusedVariables false

/-- what a draw out of a list of texts leaves -/
def OfAt (w w' : World) (r m : Nat) (L : List ByteArray) (e : Ending) : Prop := Drw w w' r ∧ Rd w' r (m + 1) ∧ ∃ t, t ∈ L ∧ e = .returned (.string t)
theorem of_any (r m B : Nat) (a : Option Addr) (cap : Nat) (L : List ByteArray) (hm : m ≤ 1000000) (h0 : 0 < L.length) (hL : L.length ≤ 1000) (w : World) (h : Rd w r m) (hT : TextsAt w B a L) (hB : r < B) :
    Calls Tryd.prog 192 #[.pointer (some ⟨r, 0, none⟩), .slice a L.length cap] w fun e w' => OfAt w w' r m L e := by
  have c := Lib.hid (pick_any r m L.length hm (by omega) w h)
  obtain ⟨g, cur, t, rfl, hBg, hcur, hcs, hcells⟩ := hT.at' h0
  have hgl := block_lt hcur
  have Hcur := Lib.hid hcur
  have Hcells := Lib.hid hcells
  clear hT h hcells hcur
  go_enter Tryd.func192, Tryd.ntmps192
  go_wp2_with fail
  refine c.out.mono ?_
  rintro e w2 ⟨hD, hR, k, rfl, _, hk⟩
  have hk2 := hk h0
  have hcell := cell_row w2 g k ((hD.block g hgl (by omega)).trans Hcur.out) (Hcells.out k hk2)
  clear hk
  go_wp2_with fail
  go_ret
  exact ⟨hD, hR, _, List.getElem_mem hk2, rfl⟩
def NumAt (w w' : World) (r m : Nat) (L : List Int) (e : Ending) : Prop := Drw w w' r ∧ Rd w' r (m + 1) ∧ ∃ t, t ∈ L ∧ e = .returned (.int .i64 t)
theorem num_any (r m B : Nat) (a : Option Addr) (cap : Nat) (L : List Int) (hm : m ≤ 1000000) (h0 : 0 < L.length) (hL : L.length ≤ 1000) (w : World) (h : Rd w r m) (hT : IntsAt w B a L) (hB : r < B) :
    Calls Tryd.prog 90 #[.pointer (some ⟨r, 0, none⟩), .slice a L.length cap] w fun e w' => NumAt w w' r m L e := by
  have c := Lib.hid (pick_any r m L.length hm (by omega) w h)
  obtain ⟨g, cur, t, rfl, hBg, hcur, hcs, hcells⟩ := hT.at' h0
  have hgl := block_lt hcur
  have Hcur := Lib.hid hcur
  have Hcells := Lib.hid hcells
  clear hT h hcells hcur
  go_enter Tryd.func90, Tryd.ntmps90
  go_wp2_with fail
  refine c.out.mono ?_
  rintro e w2 ⟨hD, hR, k, rfl, _, hk⟩
  have hk2 := hk h0
  have hcell := cell_row w2 g k ((hD.block g hgl (by omega)).trans Hcur.out) (Hcells.out k hk2)
  clear hk
  go_wp2_with fail
  go_ret
  exact ⟨hD, hR, _, List.getElem_mem hk2, rfl⟩
theorem textsAt_alloc (w : World) (L : List ByteArray) (cs : Array Value) (t : TypeId) (h : cs = (texts L).toArray) : TextsAt (w.alloc (.cells cs t)) w.heap.size (some ⟨w.heap.size, 0, none⟩) L := by
  subst h
  exact ⟨fun h0 => ⟨_, _, t, rfl, Nat.le_refl _, heap_alloc_last _ _, by simp [texts], fun j hj => by simp [texts, hj]⟩⟩
theorem intsAt_alloc (w : World) (L : List Int) (cs : Array Value) (t : TypeId) (h : cs = (ints L).toArray) : IntsAt (w.alloc (.cells cs t)) w.heap.size (some ⟨w.heap.size, 0, none⟩) L := by
  subst h
  exact ⟨fun h0 => ⟨_, _, t, rfl, Nat.le_refl _, heap_alloc_last _ _, by simp [ints], fun j hj => by simp [ints, hj]⟩⟩
/-- the world behind a list that was made for one draw -/
theorem Drw.made {w w2 : World} {r : Nat} {o : Obj} (h : Drw (w.alloc o) w2 r) : Drw w w2 r := (Drw.refl w r).below ((Below.refl w.heap.size w).alloc (Nat.le_refl _) o) (Nat.le_refl _) |>.trans h
theorem Rd.alloc {w : World} {r m : Nat} (h : Rd w r m) (o : Obj) : Rd (w.alloc o) r m := h.below ((Below.refl w.heap.size w).alloc (Nat.le_refl _) o) h.lt
theorem ints_built2 (x0 x1 : Int) (w : World) : (Instr.buildSlice 30 2 [(0, .int .i64 x0), (1, .int .i64 x1)].toArray).run Tryd.prog w =
    .ok (.slice (some ⟨w.heap.size, 0, none⟩) 2 2) (w.alloc (.cells #[.int .i64 x0, .int .i64 x1] 3)) := by kernel_rfl
theorem ints_built3 (x0 x1 x2 : Int) (w : World) : (Instr.buildSlice 30 3 [(0, .int .i64 x0), (1, .int .i64 x1), (2, .int .i64 x2)].toArray).run Tryd.prog w =
    .ok (.slice (some ⟨w.heap.size, 0, none⟩) 3 3) (w.alloc (.cells #[.int .i64 x0, .int .i64 x1, .int .i64 x2] 3)) := by kernel_rfl
theorem ints_built4 (x0 x1 x2 x3 : Int) (w : World) : (Instr.buildSlice 30 4 [(0, .int .i64 x0), (1, .int .i64 x1), (2, .int .i64 x2), (3, .int .i64 x3)].toArray).run Tryd.prog w =
    .ok (.slice (some ⟨w.heap.size, 0, none⟩) 4 4) (w.alloc (.cells #[.int .i64 x0, .int .i64 x1, .int .i64 x2, .int .i64 x3] 3)) := by kernel_rfl
theorem ints_built5 (x0 x1 x2 x3 x4 : Int) (w : World) : (Instr.buildSlice 30 5 [(0, .int .i64 x0), (1, .int .i64 x1), (2, .int .i64 x2), (3, .int .i64 x3), (4, .int .i64 x4)].toArray).run Tryd.prog w =
    .ok (.slice (some ⟨w.heap.size, 0, none⟩) 5 5) (w.alloc (.cells #[.int .i64 x0, .int .i64 x1, .int .i64 x2, .int .i64 x3, .int .i64 x4] 3)) := by kernel_rfl
theorem ints_built6 (x0 x1 x2 x3 x4 x5 : Int) (w : World) : (Instr.buildSlice 30 6 [(0, .int .i64 x0), (1, .int .i64 x1), (2, .int .i64 x2), (3, .int .i64 x3), (4, .int .i64 x4), (5, .int .i64 x5)].toArray).run Tryd.prog w =
    .ok (.slice (some ⟨w.heap.size, 0, none⟩) 6 6) (w.alloc (.cells #[.int .i64 x0, .int .i64 x1, .int .i64 x2, .int .i64 x3, .int .i64 x4, .int .i64 x5] 3)) := by kernel_rfl
theorem ints_built8 (x0 x1 x2 x3 x4 x5 x6 x7 : Int) (w : World) : (Instr.buildSlice 30 8 [(0, .int .i64 x0), (1, .int .i64 x1), (2, .int .i64 x2), (3, .int .i64 x3), (4, .int .i64 x4), (5, .int .i64 x5), (6, .int .i64 x6), (7, .int .i64 x7)].toArray).run Tryd.prog w =
    .ok (.slice (some ⟨w.heap.size, 0, none⟩) 8 8) (w.alloc (.cells #[.int .i64 x0, .int .i64 x1, .int .i64 x2, .int .i64 x3, .int .i64 x4, .int .i64 x5, .int .i64 x6, .int .i64 x7] 3)) := by kernel_rfl
theorem ints_built10 (x0 x1 x2 x3 x4 x5 x6 x7 x8 x9 : Int) (w : World) : (Instr.buildSlice 30 10 [(0, .int .i64 x0), (1, .int .i64 x1), (2, .int .i64 x2), (3, .int .i64 x3), (4, .int .i64 x4), (5, .int .i64 x5), (6, .int .i64 x6), (7, .int .i64 x7), (8, .int .i64 x8), (9, .int .i64 x9)].toArray).run Tryd.prog w =
    .ok (.slice (some ⟨w.heap.size, 0, none⟩) 10 10) (w.alloc (.cells #[.int .i64 x0, .int .i64 x1, .int .i64 x2, .int .i64 x3, .int .i64 x4, .int .i64 x5, .int .i64 x6, .int .i64 x7, .int .i64 x8, .int .i64 x9] 3)) := by kernel_rfl
theorem texts_built2 (x0 x1 : ByteArray) (w : World) : (Instr.buildSlice 26 2 [(0, .string x0), (1, .string x1)].toArray).run Tryd.prog w =
    .ok (.slice (some ⟨w.heap.size, 0, none⟩) 2 2) (w.alloc (.cells #[.string x0, .string x1] 9)) := by kernel_rfl
theorem texts_built3 (x0 x1 x2 : ByteArray) (w : World) : (Instr.buildSlice 26 3 [(0, .string x0), (1, .string x1), (2, .string x2)].toArray).run Tryd.prog w =
    .ok (.slice (some ⟨w.heap.size, 0, none⟩) 3 3) (w.alloc (.cells #[.string x0, .string x1, .string x2] 9)) := by kernel_rfl
theorem texts_built4 (x0 x1 x2 x3 : ByteArray) (w : World) : (Instr.buildSlice 26 4 [(0, .string x0), (1, .string x1), (2, .string x2), (3, .string x3)].toArray).run Tryd.prog w =
    .ok (.slice (some ⟨w.heap.size, 0, none⟩) 4 4) (w.alloc (.cells #[.string x0, .string x1, .string x2, .string x3] 9)) := by kernel_rfl
theorem texts_built10 (x0 x1 x2 x3 x4 x5 x6 x7 x8 x9 : ByteArray) (w : World) : (Instr.buildSlice 26 10 [(0, .string x0), (1, .string x1), (2, .string x2), (3, .string x3), (4, .string x4), (5, .string x5), (6, .string x6), (7, .string x7), (8, .string x8), (9, .string x9)].toArray).run Tryd.prog w =
    .ok (.slice (some ⟨w.heap.size, 0, none⟩) 10 10) (w.alloc (.cells #[.string x0, .string x1, .string x2, .string x3, .string x4, .string x5, .string x6, .string x7, .string x8, .string x9] 9)) := by kernel_rfl
theorem l14Open_any (a : Option Addr) (len cap : Nat) (hc : cap ≤ maxLen) (w : World) (h : CodeAt w a len cap) :
    Calls Tryd.prog 82 #[.slice a len cap] w fun e w' => Below w.heap.size w w' ∧ e = .returned (.pointer (some ⟨w.heap.size, 0, none⟩)) ∧ Rd w' w.heap.size 0 := by
  obtain ⟨hlc, x, hx, hcode⟩ := h
  have Hcode := Lib.hid hcode
  have Hx := Lib.hid hx
  have hcm : cap ≤ 9223372036854775807 := by unfold maxLen at hc; omega
  clear hcode hx
  by_cases hl : 2000 < len
  · obtain ⟨b, o, rfl, hb, hcell⟩ := Hcode.out (by omega)
    have Hcell := Lib.hid hcell
    have h2 : 2000 ≤ cap := by omega
    clear hcell
    go_enter Tryd.func82, Tryd.ntmps82
    go_wp2_with fail
    go_ret
    refine ⟨(Below.refl _ _).alloc (Nat.le_refl _) _, rfl, ⟨some ⟨b, o, none⟩, 2000, cap, 0, _, x, heap_alloc_last _ _, Nat.le_refl _, Nat.le_refl _, Hx.out, fun _ => ⟨b, o, rfl, hb, fun i hi => ?_⟩⟩⟩
    exact (World.cell?_of_block (Below.heap_alloc _ _ _ hb)).trans (Hcell.out i (by omega))
  · go_enter Tryd.func82, Tryd.ntmps82
    go_wp2_with fail
    go_ret
    refine ⟨(Below.refl _ _).alloc (Nat.le_refl _) _, rfl, ⟨a, len, cap, 0, _, x, heap_alloc_last _ _, Nat.le_refl _, by omega, Hx.out, fun h0 => ?_⟩⟩
    obtain ⟨b, o, rfl, hb, hcell⟩ := Hcode.out h0
    exact ⟨b, o, rfl, hb, fun i hi => (World.cell?_of_block (Below.heap_alloc _ _ _ hb)).trans (hcell i hi)⟩
end Go.Proofs.YtcddnacbjdahbaaDoor
