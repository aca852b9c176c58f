/- The program's terms in memory: states written, the least term of some states; traps. -/
import Derived.Test.YtkfagolmpbbckaaDoorImplE
import Derived.Laws.IdiomStrings
import Derived.Deep.LoopGhost
namespace Go.Proofs.YtkfagolmpbbckaaDoor
open Go Go.RowKit Go.Sw
set_option maxRecDepth 100000
set_option linter.unusedVariables false

theorem heap_setCell_fr (w : World) (g i : Nat) (cs : Array Value) (t : TypeId) (fr : Nat × Nat) (v : Value) (hg : w.heap[g]? = some (.cells cs t fr)) : (w.setCell ⟨g, i, none⟩ v).heap[g]? = some (.cells (cs.setIfInBounds i v) t fr) := by
  simp [World.setCell, Array.getElem?_modify, hg]
/-- a letter as a number -/
def lv (o : Option Bool) : Nat := (letterT o).toNat
/-- the letters of a term lie in block g, and may be written -/
def TermAt (w : World) (g n : Nat) (p : Trm) : Prop := ∃ cur t fr, w.heap[g]? = some (.cells cur t fr) ∧ n ≤ cur.size ∧ (n ≤ fr.1 ∨ fr = (0, 0)) ∧ ∀ i, i < n → cur[i]? = some (.int .u8 (lv (p i)))
theorem TermAt.congr {w : World} {g n : Nat} {p q : Trm} (h : TermAt w g n p) (e : ∀ i, i < n → p i = q i) : TermAt w g n q := by
  obtain ⟨cur, t, fr, h1, h2, h3, h4⟩ := h
  exact ⟨cur, t, fr, h1, h2, h3, fun i hi => by rw [← e i hi]; exact h4 i hi⟩
theorem TermAt.cell {w : World} {g n : Nat} {p : Trm} (h : TermAt w g n p) {i : Nat} (hi : i < n) : w.cell? ⟨g, i, none⟩ = some (.int .u8 (lv (p i))) ∧ w.frozen? ⟨g, i, none⟩ = false := by
  obtain ⟨cur, t, fr, h1, h2, h3, h4⟩ := h
  refine ⟨by rw [cell_of_row w _ _ _ _ _ h1]; exact h4 i hi, ?_⟩
  obtain ⟨lo, hi'⟩ := fr
  simp only [World.frozen?, h1]
  rcases h3 with h3 | h3
  · simp only at h3
    rw [Bool.and_eq_false_iff]
    exact .inl (decide_eq_false (by omega))
  · cases h3; simp
theorem TermAt.set {w : World} {g n : Nat} {p : Trm} (h : TermAt w g n p) {i : Nat} (hi : i < n) (o : Option Bool) : TermAt (w.setCell ⟨g, i, none⟩ (.int .u8 (lv o))) g n (fun j => if j = i then o else p j) := by
  obtain ⟨cur, t, fr, h1, h2, h3, h4⟩ := h
  refine ⟨_, t, fr, heap_setCell_fr _ _ _ _ _ _ _ h1, by simpa using h2, h3, fun j hj => ?_⟩
  by_cases e : j = i
  · subst e
    rw [Array.getElem?_setIfInBounds_self_of_lt (by omega)]; simp
  · rw [Array.getElem?_setIfInBounds_ne (fun h => e h.symm)]
    simp only [if_neg e]; exact h4 j hj
theorem TermAt.same {w w' : World} {g n : Nat} {p : Trm} (h : TermAt w g n p) (hs : w'.heap[g]? = w.heap[g]?) : TermAt w' g n p := by
  obtain ⟨cur, t, fr, h1, h2⟩ := h
  exact ⟨cur, t, fr, hs.trans h1, h2⟩
theorem TermAt.lt {w : World} {g n : Nat} {p : Trm} (h : TermAt w g n p) : g < w.heap.size := by
  obtain ⟨cur, t, fr, h1, h2⟩ := h
  exact block_lt h1
/-- the letters of a term as numbers -/
def lettersP (n : Nat) (p : Trm) : List Int := (List.range n).map fun i => ((lv (p i) : Nat) : Int)
theorem lettersP_text (n : Nat) (p : Trm) : strOfNums (lettersP n p) = termT n p := by
  apply ba_ext
  simp only [strOfNums, lettersP, termT, bs_data, List.map_map]
  apply List.map_congr_left
  intro i _
  simp only [Function.comp, lv]
  cases p i with
  | none => rfl
  | some c => cases c <;> rfl
theorem TermAt.text {w : World} {g n : Nat} {p : Trm} (h : TermAt w g n p) (cap : Nat) : (convert 22 9 (.slice (some ⟨g, 0, none⟩) n cap)).run Tryd.prog w = .ok (.string (termT n p)) w := by
  have hcv := run_convert_bytes_arg (P := Tryd.prog) w 22 5 Tryd.underlying22 Tryd.underlying5 g 0 n cap (lettersP n p) (by simp [lettersP]) (fun i hi => by
    rw [Nat.zero_add, (h.cell hi).1]
    simp [lettersP, hi]) 9 Tryd.underlying9
  rw [lettersP_text] at hcv
  exact hcv
/-- a term's text turned into letters -/
theorem termAt_new (w : World) (n : Nat) (p : Trm) : ∃ cap w', (convert 9 22 (.string (termT n p))).run Tryd.prog w = .ok (.slice (some ⟨w.heap.size, 0, none⟩) n cap) w' ∧ TermAt w' w.heap.size n p ∧ Below w.heap.size w w' ∧ w'.heap.size = w.heap.size + 1 := by
  have h := run_bytes_of_string (P := Tryd.prog) w 9 22 5 (termT n p) Tryd.underlying9 Tryd.underlying22 Tryd.underlying5
  have hsz := termT_size n p
  rw [hsz] at h
  obtain ⟨cap, hcap⟩ : ∃ cap, grownCap w n 0 5 = cap := ⟨_, rfl⟩
  rw [hcap] at h
  have hds : (termT n p).data.size = n := hsz
  refine ⟨_, _, h, ⟨_, _, _, heap_alloc_last _ _, ?_, .inl ?_, fun i hi => ?_⟩, ((Below.refl _ _).drew).alloc (Nat.le_refl _) _, by simp⟩
  · simp only [bytesRow, Array.size_append, Array.size_map]; omega
  · simp only [bytesRow, Array.size_append, Array.size_map]; omega
  · rw [bytesRow_at _ _ _ (by omega)]
    have : (termT n p).data[i]'(by omega) = letterT (p i) := termT_get n p i hi
    rw [this]; rfl
theorem lv_bit (b : Bool) : lv (some b) = 48 + b.toNat := by cases b <;> rfl
theorem u8_row : (Tryd.prog.info? 5).map (fun i => (i.zero, i.size, i.bytes)) = some (some (.int .u8 0), 1, 1) := by kernel_rfl

set_option maxHeartbeats 1000000 in
theorem formatState_any (s n : Nat) (hn : n ≤ 5) (hs : s < 32) (w : World) :
    Calls Tryd.prog 150 #[.int .i64 s, .int .i64 n] w fun e w' => Below w.heap.size w w' ∧ e = .returned (.string (termT n (pointP s))) := by
  obtain ⟨i0, hi, hz0, hz1, hz2⟩ := info_parts u8_row
  have Hi := Lib.hid hi
  have Hz0 := Lib.hid hz0
  have Hz1 := Lib.hid hz1
  have hzb : i0.bytes ≤ 1 := by omega
  clear hi hz0 hz1 hz2
  go_enter Tryd.func150, Tryd.ntmps150
  go_wp2_with ((with_reducible show wpList _ _ _ (⟨_, .makeSlice 22 _ _, _, _, _, _⟩ :: _) _ _); refine wpList_make_full _ rfl _ _ _ rfl w.heap.size 5 i0 (.int .u8 0) 1 Tryd.underlying22 Hi.out Hz0.out Hz1.out .i64 .i64 n n n rfl rfl rfl rfl (by have : i0.bytes * n ≤ 1 * 5 := Nat.mul_le_mul hzb hn; omega) (by unfold maxLen; omega) (Nat.le_refl _) ?_)
  intro w1 hown hgrow
  have hW1 : Below w.heap.size w w1 := (Below.refl _ _).grown hgrow (Nat.le_refl _) (fun q hq => by cases hq)
  have hg : ∃ cur t, w1.heap[w.heap.size]? = some (.cells cur t (0, 0)) ∧ n ≤ cur.size := by
    rcases hown.2 with ⟨h, _⟩ | ⟨q, cap, cur, hv, hb, hg, h1, h2, h3, h4⟩
    · cases h
    · cases hv
      exact ⟨cur, _, hg, by omega⟩
  obtain ⟨cur, tt, hcur, hcs⟩ := hg
  have HC := Lib.hid hcur
  clear hown hgrow hcur
  go_wp2_with fail
  go_loopw [6, 11] (fun _ j wr => ∃ k : Nat, k ≤ n ∧ j = .int .i64 k ∧ (∃ cur', wr.heap[w.heap.size]? = some (.cells cur' tt (0, 0)) ∧ n ≤ cur'.size ∧ ∀ j, j < k → cur'[j]? = some (.int .u8 (lv (pointP s j)))) ∧ Below w.heap.size w wr) (fun _ j _ => n - (intOf j).toNat)
  case atStart => exact ⟨0, Nat.zero_le _, rfl, ⟨cur, HC.out, hcs, fun j h => absurd h (Nat.not_lt_zero _)⟩, hW1⟩
  case round =>
    obtain ⟨k, hk, rfl, hst, hW⟩ := hrel
    obtain ⟨cur', hc', hs', hj'⟩ := hst
    have HC' := Lib.hid hc'
    have HJ' := Lib.hid hj'
    by_cases hlt : k < n
    · have hcell2 : ∃ u, wr.cell? ⟨w.heap.size, k, none⟩ = some u := by
        rw [cell_of_row wr _ _ _ _ _ hc']
        exact ⟨_, Array.getElem?_eq_getElem (show k < cur'.size by omega)⟩
      obtain ⟨u, hu⟩ := hcell2
      have hf : wr.frozen? ⟨w.heap.size, k, none⟩ = false := frozen_of_row wr _ _ _ _ hc'
      have hbt := bit_test s k
      have hlv : lv (pointP s k) = 48 + (s.testBit k).toNat := lv_bit _
      clear hc' hj'
      cases hv : s.testBit k <;> rw [hv] at hbt hlv <;> simp only [Bool.toNat_true, Bool.toNat_false, Int.natCast_zero, Int.natCast_one] at hbt
      all_goals
        have Hlv := Lib.hid hlv
        clear hv hlv
        go_wp2_with fail
        go_roundw
        case rel =>
          refine ⟨k + 1, by omega, by go_num, ⟨cur'.setIfInBounds k (.int .u8 (lv (pointP s k))), by rw [Hlv.out]; exact heap_setCell_same _ _ _ _ _ _ HC'.out, by simpa using hs', fun j hj => ?_⟩, hW.setCell (Nat.le_refl _) _⟩
          by_cases e : j = k
          · subst e; rw [Array.getElem?_setIfInBounds_self_of_lt (by omega)]
          · rw [Array.getElem?_setIfInBounds_ne (fun h => e h.symm)]; exact HJ'.out j (by omega)
        case measure => simp [intOf] <;> omega
    · obtain rfl : k = n := by omega
      have hcv := TermAt.text (w := wr) (g := w.heap.size) (n := k) (p := pointP s) ⟨cur', tt, (0, 0), hc', hs', .inr rfl, hj'⟩ k
      clear hc' hj'
      go_wp2_with fail
      go_ret
      exact ⟨hW, rfl⟩

theorem fold_take {α : Type} (f : Trm → α → Trm) (l : List α) (p : Trm) (k : Nat) (h : k < l.length) : (l.take (k + 1)).foldl f p = f ((l.take k).foldl f p) l[k] := by
  rw [List.take_succ_eq_append_getElem h, List.foldl_append]; rfl
/-- the first i switches joined with a state -/
def joinTo (p : Trm) (s k : Nat) : Trm := fun j => if j < k then joinP p s j else p j
theorem joinTo_next (p : Trm) (s k : Nat) (o : Option Bool) (h : joinP p s k = o) (j : Nat) : (fun j => if j = k then o else joinTo p s k j) j = joinTo p s (k + 1) j := by
  unfold joinTo
  simp only
  by_cases e : j = k
  · subst e; rw [if_pos rfl, if_pos (by omega), h]
  · rw [if_neg e]
    by_cases h2 : j < k
    · rw [if_pos h2, if_pos (by omega)]
    · rw [if_neg h2, if_neg (by omega)]
theorem joinTo_skip (p : Trm) (s k : Nat) (h : joinP p s k = p k) (j : Nat) : joinTo p s k j = joinTo p s (k + 1) j := by
  unfold joinTo
  by_cases e : j = k
  · subst e; rw [if_neg (by omega), if_pos (by omega), h]
  · by_cases h2 : j < k
    · rw [if_pos h2, if_pos (by omega)]
    · rw [if_neg h2, if_neg (by omega)]

set_option maxHeartbeats 2000000 in
theorem hull_any (B n : Nat) (a : Option Addr) (cap : Nat) (L : List Nat) (hn : n ≤ 5) (hne : 0 < L.length) (hL : L.length ≤ 4000000) (hs : ∀ s ∈ L, s < 32) (w : World) (h : IntsAt w B a (natI L)) :
    Calls Tryd.prog 102 #[.slice a L.length cap, .int .i64 n] w fun e w' => Below w.heap.size w w' ∧ e = .returned (.string (termT n (hullP L))) := by
  obtain ⟨g, cur, tt, rfl, hB, hc, hcs, hj⟩ := h.at' (by rw [natI_length]; exact hne)
  rw [natI_length] at hcs
  have hcellL : ∀ k (hk : k < L.length), w.cell? ⟨g, k, none⟩ = some (.int .i64 (L[k] : Nat)) := fun k hk => by
    rw [cell_of_row w _ _ _ _ _ hc, hj k (by rw [natI_length]; exact hk), natI_get]
  have hglt := block_lt hc
  obtain ⟨s0, r, rfl⟩ : ∃ s0 r, L = s0 :: r := by
    cases L with
    | nil => simp at hne
    | cons a r => exact ⟨a, r, rfl⟩
  have hs0 : s0 < 32 := hs s0 (List.mem_cons_self ..)
  have hfin : (s0 :: r).foldl joinP (pointP s0) = hullP (s0 :: r) := by
    show r.foldl joinP (joinP (pointP s0) s0) = r.foldl joinP (pointP s0)
    rw [joinP_self]
  obtain ⟨l, hl⟩ : ∃ l, s0 :: r = l := ⟨_, rfl⟩
  have hc0 := hcellL 0 (by simp)
  have hl0 : (s0 :: r)[0]'(by simp) = s0 := rfl
  rw [hl0] at hc0
  have HcL := Lib.hid (show ∀ k (hk : k < l.length), w.cell? ⟨g, k, none⟩ = some (.int .i64 (l[k] : Nat)) by subst hl; exact hcellL)
  have Hsl := Lib.hid (show ∀ s ∈ l, s < 32 by subst hl; exact hs)
  rw [hl] at hfin hL hne ⊢
  have Hfin := Lib.hid hfin
  have c1 := Lib.hid (formatState_any s0 n hn hs0 w)
  clear hc hcs hj h hs hcellL hfin hl0 hl
  go_enter Tryd.func102, Tryd.ntmps102
  go_wp2_with fail
  refine c1.out.mono ?_
  rintro e w1 ⟨hW1, rfl⟩
  obtain ⟨cp, w2, hcv, hT, hW2, hsz2⟩ := termAt_new w1 n (pointP s0)
  have hB2 : Below w.heap.size w w2 := hW1.trans (hW2.mono hW1.size)
  have HT := Lib.hid hT
  have hW1s := hW1.size
  clear hT hc0
  go_wp2_with fail
  have hB2 : Below w.heap.size w w2 := hW1.trans (hW2.mono hW1.size)
  clear hcv
  go_loopw [7, 8, 17, 23] (fun _ _ j _ wr => ∃ k : Nat, k ≤ l.length ∧ j = .int .i64 k ∧ TermAt wr w1.heap.size n ((l.take k).foldl joinP (pointP s0)) ∧ Below w.heap.size w wr) (fun _ _ j _ _ => l.length - (intOf j).toNat)
  case atStart => exact ⟨0, Nat.zero_le _, rfl, HT.out, hB2⟩
  case round =>
    obtain ⟨k, hk, rfl, hT, hW⟩ := hrel
    have HT' := Lib.hid hT
    by_cases hlt : k < l.length
    · have hck : wr.cell? ⟨g, k, none⟩ = some (.int .i64 (l[k] : Nat)) := by rw [hW.cell hglt]; exact HcL.out k hlt
      have hs32 := Hsl.out _ (List.getElem_mem hlt)
      have hnx := fold_take joinP l (pointP s0) k hlt
      obtain ⟨P, hP⟩ : ∃ P, (l.take k).foldl joinP (pointP s0) = P := ⟨_, rfl⟩
      obtain ⟨s, hs⟩ : ∃ s, l[k] = s := ⟨_, rfl⟩
      rw [hP, hs] at hnx
      rw [hs] at hck hs32
      rw [hP] at hT
      have HT2 := Lib.hid (hT.congr (q := joinTo P s 0) fun i hi => by unfold joinTo; rw [if_neg (by omega)])
      have Hnx := Lib.hid hnx
      have hlk : (k : Int) < (l.length : Int) := by omega
      clear hT hnx hP hs
      obtain ⟨wo, rfl⟩ : ∃ wo : World, wo = wr := ⟨_, rfl⟩
      go_wp2_with fail
      go_loopw [8, 23] (fun _ j wr => ∃ i : Nat, i ≤ n ∧ j = .int .i64 i ∧ TermAt wr w1.heap.size n (joinTo P s i) ∧ Below w.heap.size w wr) (fun _ j _ => n - (intOf j).toNat)
      case atStart => exact ⟨0, Nat.zero_le _, rfl, HT2.out, hW⟩
      case round =>
        obtain ⟨i, hi, rfl, hT3, hW3⟩ := hrel
        have HT3 := Lib.hid hT3
        by_cases hlt2 : i < n
        · obtain ⟨hcl, hfr⟩ := hT3.cell hlt2
          have hin : (i : Int) < (n : Int) := by omega
          have hPi : joinTo P s i i = P i := by unfold joinTo; rw [if_neg (Nat.lt_irrefl _)]
          rw [hPi] at hcl
          have hbt := bit_test s i
          have hj : joinP P s i = if fitB (P i) (s.testBit i) then P i else none := rfl
          have q0 : IntKind.u8.wrap 0 = 0 := rfl
          have q1 : IntKind.u8.wrap 1 = 1 := rfl
          have q2 : IntKind.i64.wrap 0 = 0 := rfl
          have q3 : IntKind.i64.wrap 1 = 1 := rfl
          have hst := fun o => hT3.set hlt2 o
          clear hT3
          cases hp : P i with
          | none =>
            rw [hp] at hcl hj
            have hj2 : joinP P s i = P i := by rw [hj, hp]; rfl
            have hT4 := HT3.out.congr (joinTo_skip P s i hj2 · |> fun h => fun _ => h)
            have HT4 := Lib.hid hT4
            have hlv : (lv none : Int) = 42 := rfl
            rw [hlv] at hcl
            clear hj hj2 hst hT4 hp hPi hlv
            go_wp2_with fail
            go_quiet (fail)
            go_wp2_with fail
            first
              | (go_roundw
                 case rel => exact ⟨i + 1, by omega, by go_num, HT4.out.same rfl, below_drewN hW3 _⟩
                 case measure => simp [intOf] <;> omega)
              | exact ⟨⟨i + 1, by omega, by go_num, HT4.out.same rfl, below_drewN hW3 _⟩, by simp [intOf] <;> omega⟩
          | some c =>
            rw [hp] at hcl hj
            have hst0 := hst none
            cases c <;> cases hb : s.testBit i <;> rw [hb] at hbt hj
            all_goals
              simp only [Bool.toNat_true, Bool.toNat_false, Int.natCast_zero, Int.natCast_one] at hbt
              have hlv0 : (lv (some false) : Int) = 48 := rfl
              have hlv1 : (lv (some true) : Int) = 49 := rfl
              have hlv2 : (lv none : Int) = 42 := rfl
              first | rw [hlv0] at hcl | rw [hlv1] at hcl
              rw [hlv2] at hst0
              have hT4 := fun (h : joinP P s i = P i) => HT3.out.congr (fun j _ => joinTo_skip P s i h j)
              have hT5 := fun (h : joinP P s i = none) => hst0.congr (fun j _ => joinTo_next P s i none h j)
              have HT4 := Lib.hid hT4
              have HT5 := Lib.hid hT5
              have Hj := Lib.hid hj
              have Hp := Lib.hid hp
              clear hj hst hst0 hT4 hT5 hp hPi hlv0 hlv1 hlv2 hb
              go_wp2_with fail
              go_quiet (fail)
              go_wp2_with fail
              first
                | (go_roundw
                   case rel => exact ⟨i + 1, by omega, by go_num, (HT4.out (by rw [Hj.out, Hp.out]; rfl)).same rfl, below_drewN hW3 _⟩
                   case measure => simp [intOf] <;> omega)
                | (go_roundw
                   case rel => exact ⟨i + 1, by omega, by go_num, (HT5.out (by rw [Hj.out]; rfl)).same rfl, (below_drewN hW3 _).setCell (by omega) _⟩
                   case measure => simp [intOf] <;> omega)
                | exact ⟨⟨i + 1, by omega, by go_num, (HT4.out (by rw [Hj.out, Hp.out]; rfl)).same rfl, below_drewN hW3 _⟩, by simp [intOf] <;> omega⟩
                | exact ⟨⟨i + 1, by omega, by go_num, (HT5.out (by rw [Hj.out]; rfl)).same rfl, (below_drewN hW3 _).setCell (by omega) _⟩, by simp [intOf] <;> omega⟩
        · obtain rfl : i = n := by omega
          have hT6 : TermAt wr w1.heap.size i ((l.take (k + 1)).foldl joinP (pointP s0)) := by
            rw [Hnx.out]
            exact HT3.out.congr fun j hj => by unfold joinTo; rw [if_pos hj]
          have HT6 := Lib.hid hT6
          clear hT3 hT6
          go_wp2_with fail
          go_roundw
          case rel => exact ⟨k + 1, by omega, by go_num, HT6.out, hW3⟩
          case measure => simp [intOf] <;> omega
    · obtain rfl : k = l.length := by omega
      rw [List.take_length, Hfin.out] at hT
      have hcv := hT.text cp
      clear hT
      go_wp2_with fail
      go_ret
      exact ⟨hW, rfl⟩
end Go.Proofs.YtkfagolmpbbckaaDoor
