/- The reference's least terms and traps. -/
import Derived.Test.YtcddnacbjdahbaaDoorSpecE
namespace Go.Proofs.YtcddnacbjdahbaaDoor
open Go Go.RowKit Go.Sw
set_option maxRecDepth 100000
set_option linter.unusedVariables false

theorem termT_succ (n : Nat) (p : Trm) : termT (n + 1) p = termT n p ++ bs [letterT (p n)] := by
  apply ba_ext
  simp [termT, List.range_succ]
theorem dec_bit (b : Bool) : decT b.toNat = bs [letterT (some b)] := by cases b <;> rfl
/-- a term with a star put in -/
def starP (p : Trm) (i : Nat) : Trm := fun j => if j = i then none else p j
theorem termT_star (n : Nat) (p : Trm) (i : Nat) (h : i < n) : (termT n p).extract 0 i ++ ⟨#[42]⟩ ++ (termT n p).extract (i + 1) n = termT n (starP p i) := by
  apply ba_ext
  simp only [ByteArray.data_append, ByteArray.data_extract, Array.toList_append, Array.toList_extract, List.extract_eq_take_drop, termT, bs_data]
  apply List.ext_getElem
  · simp; omega
  · intro j h1 h2
    have hj : j < n := by simpa using h2
    simp only [List.getElem_map, List.getElem_range]
    by_cases e : j < i
    · rw [List.getElem_append_left (by simp; omega), List.getElem_append_left (by simp; omega)]
      simp [starP, show j ≠ i by omega]
    · by_cases e2 : j = i
      · subst e2
        rw [List.getElem_append_left (by simp; omega), List.getElem_append_right (by simp; omega)]
        simp [starP, letterT]
      · rw [List.getElem_append_right (by simp; omega)]
        simp only [List.length_append, List.length_take, List.length_drop, List.length_map, List.length_range, List.length_singleton]
        have e3 : starP p i j = p j := by simp [starP, e2]
        rw [e3]
        simp
        congr 2
        omega

theorem l3Told_any (s n : Nat) (hn : n ≤ 5) (hs : s < 32) (w : World) :
    Calls Tryd.prog 205 #[.int .i64 s, .int .i64 n] w fun e w' => Below w.heap.size w w' ∧ e = .returned (.string (termT n (pointP s))) := by
  go_enter Tryd.func205, Tryd.ntmps205
  go_wp2_with fail
  go_loopw [5, 6] (fun out j wr => ∃ k : Nat, k ≤ n ∧ j = .int .i64 k ∧ out = .string (termT k (pointP s)) ∧ Below w.heap.size w wr) (fun _ j _ => n - (intOf j).toNat)
  case atStart => exact ⟨0, Nat.zero_le _, rfl, rfl, Below.refl _ _⟩
  case round =>
    obtain ⟨k, hk, rfl, rfl, hW⟩ := hrel
    by_cases hlt : k < n
    · have cB := Lib.hid (fun wx => l1Bit_any s k (by omega) (by omega) wx)
      have cD := Lib.hid (fun wx => l14Dec_any (s.testBit k).toNat (by cases s.testBit k <;> decide) wx)
      have hnx : termT (k + 1) (pointP s) = termT k (pointP s) ++ decT (s.testBit k).toNat := by rw [termT_succ, dec_bit]; rfl
      have hsz : (termT k (pointP s)).size ≤ 5 := by rw [termT_size]; omega
      have hsz2 : (decT (s.testBit k).toNat).size ≤ 1 := Nat.le_refl _
      have Hnx := Lib.hid hnx
      clear hnx
      go_wp2_with fail
      refine (cB.out _).mono ?_
      rintro e w' ⟨rfl, rfl⟩
      go_wp2_with fail
      refine (cD.out _).mono ?_
      rintro e w2 ⟨hW2, rfl⟩
      go_wp2_with fail
      go_roundw
      case rel => exact ⟨k + 1, by omega, by go_num, by rw [Hnx.out], hW.trans (hW2.mono hW.size)⟩
      case measure => simp [intOf] <;> omega
    · obtain rfl : k = n := by omega
      go_wp2_with fail
      go_ret
      exact ⟨hW, rfl⟩

theorem foldS_take {α : Type} (f : Trm → α → Trm) (l : List α) (p : Trm) (k : Nat) (h : k < l.length) : (l.take (k + 1)).foldl f p = f ((l.take k).foldl f p) l[k] := by
  rw [List.take_succ_eq_append_getElem h, List.foldl_append]; rfl
/-- the first i switches joined with a state -/
def joinS (p : Trm) (s k : Nat) : Trm := fun j => if j < k then joinP p s j else p j
theorem joinS_next (p : Trm) (s k : Nat) (h : joinP p s k = none) (j : Nat) : starP (joinS p s k) k j = joinS p s (k + 1) j := by
  unfold joinS starP
  simp only
  by_cases e : j = k
  · subst e; rw [if_pos rfl, if_pos (by omega), h]
  · rw [if_neg e]
    by_cases h2 : j < k
    · rw [if_pos h2, if_pos (by omega)]
    · rw [if_neg h2, if_neg (by omega)]
theorem joinS_skip (p : Trm) (s k : Nat) (h : joinP p s k = p k) (j : Nat) : joinS p s k j = joinS p s (k + 1) j := by
  unfold joinS
  by_cases e : j = k
  · subst e; rw [if_neg (by omega), if_pos (by omega), h]
  · by_cases h2 : j < k
    · rw [if_pos h2, if_pos (by omega)]
    · rw [if_neg h2, if_neg (by omega)]

set_option maxHeartbeats 2000000 in
theorem l6Hull_any (B n : Nat) (a : Option Addr) (cap : Nat) (L : List Nat) (hn : n ≤ 5) (hne : 0 < L.length) (hL : L.length ≤ 4000000) (hs : ∀ s ∈ L, s < 32) (w : World) (h : IntsAt w B a (natL L)) :
    Calls Tryd.prog 179 #[.slice a L.length cap, .int .i64 n] w fun e w' => Below w.heap.size w w' ∧ e = .returned (.string (termT n (hullP L))) := by
  obtain ⟨s0, r, rfl⟩ : ∃ s0 r, L = s0 :: r := by
    cases L with
    | nil => simp at hne
    | cons a r => exact ⟨a, r, rfl⟩
  obtain ⟨g, rfl, hglt, hc0⟩ := intsL_cell h hne
  have hcellL : ∀ k (hk : k < r.length), w.cell? ⟨g, k + 1, none⟩ = some (.int .i64 (r[k] : Nat)) := fun k hk => by
    obtain ⟨g', e, _, hc⟩ := intsL_cell h (k := k + 1) (by simp; omega)
    cases e
    simpa using hc
  have hs0 : s0 < 32 := hs s0 (List.mem_cons_self ..)
  have hl0 : (s0 :: r)[0]'(by simp) = s0 := rfl
  rw [hl0] at hc0
  have hlc : (s0 :: r).length = r.length + 1 := rfl
  rw [hlc] at hL ⊢
  have hfin : hullP (s0 :: r) = r.foldl joinP (pointP s0) := rfl
  have HcL := Lib.hid hcellL
  have Hsl := Lib.hid (show ∀ s ∈ r, s < 32 from fun s hs' => hs s (List.mem_cons_of_mem _ hs'))
  have Hfin := Lib.hid hfin
  have c1 := Lib.hid (l3Told_any s0 n hn hs0 w)
  clear h hs hcellL hfin hl0 hlc hne
  go_enter Tryd.func179, Tryd.ntmps179
  go_wp2_with fail
  refine c1.out.mono ?_
  rintro e w1 ⟨hW1, rfl⟩
  clear hc0
  go_wp2_with fail
  go_loopw [5, 6, 7] (fun out j _ wr => ∃ k : Nat, k ≤ r.length ∧ j = .int .i64 ((k + 1 : Nat) : Int) ∧ out = .string (termT n ((r.take k).foldl joinP (pointP s0))) ∧ Below w.heap.size w wr) (fun _ j _ _ => r.length + 1 - (intOf j).toNat)
  case atStart => exact ⟨0, Nat.zero_le _, rfl, rfl, hW1⟩
  case round =>
    obtain ⟨k, hk, rfl, rfl, hW⟩ := hrel
    by_cases hlt : k < r.length
    · have hck : wr.cell? ⟨g, k + 1, none⟩ = some (.int .i64 (r[k] : Nat)) := by rw [hW.cell hglt]; exact HcL.out k hlt
      have hs32 := Hsl.out _ (List.getElem_mem hlt)
      have hnx := foldS_take joinP r (pointP s0) k hlt
      obtain ⟨P, hP⟩ : ∃ P, (r.take k).foldl joinP (pointP s0) = P := ⟨_, rfl⟩
      obtain ⟨s, hs⟩ : ∃ s, r[k] = s := ⟨_, rfl⟩
      rw [hP, hs] at hnx
      rw [hs] at hck hs32
      rw [hP]
      have hT0 : termT n P = termT n (joinS P s 0) := termT_congr fun i hi => by unfold joinS; rw [if_neg (by omega)]
      have hTn : termT n (joinS P s n) = termT n ((r.take (k + 1)).foldl joinP (pointP s0)) := by
        rw [hnx]; exact termT_congr fun j hj => by unfold joinS; rw [if_pos hj]
      rw [hT0]
      have HTn := Lib.hid hTn
      obtain ⟨q, hq⟩ : ∃ q : Nat, k + 1 = q := ⟨_, rfl⟩
      rw [hq] at hck ⊢
      have hqk : (q : Int) < (r.length : Int) + 1 := by omega
      have hqn : q ≤ r.length := by omega
      have Hq := Lib.hid hq
      have hg1 : g < wr.heap.size := Nat.lt_of_lt_of_le hglt hW.size
      clear hnx hP hs hT0 hTn hq
      obtain ⟨wo, rfl⟩ : ∃ wo : World, wo = wr := ⟨_, rfl⟩
      have hWs := hW.size
      go_wp2_with fail
      go_loopw [5, 7] (fun out j wr => ∃ i : Nat, i ≤ n ∧ j = .int .i64 i ∧ out = .string (termT n (joinS P s i)) ∧ Below wo.heap.size wo wr) (fun _ j _ => n - (intOf j).toNat)
      case atStart => exact ⟨0, Nat.zero_le _, rfl, rfl, Below.refl _ _⟩
      case round =>
        obtain ⟨i, hi, rfl, rfl, hW3⟩ := hrel
        have hck3 : wr.cell? ⟨g, q, none⟩ = some (.int .i64 (s : Nat)) := by rw [hW3.cell hg1]; exact hck
        by_cases hlt2 : i < n
        · obtain ⟨t, ht⟩ : ∃ t, termT n (joinS P s i) = t := ⟨_, rfl⟩
          obtain ⟨hsz, hget⟩ := termT_some n _ t ht
          have hv := hget i (by omega)
          have hstar := termT_star n (joinS P s i) i hlt2
          rw [ht] at hstar ⊢
          have hPi : joinS P s i i = P i := by unfold joinS; rw [if_neg (Nat.lt_irrefl _)]
          rw [hPi] at hv
          have hj : joinP P s i = if fitB (P i) (s.testBit i) then P i else none := rfl
          have hskip := fun (h : joinP P s i = P i) => ht.symm.trans (termT_congr (n := n) fun j _ => joinS_skip P s i h j)
          have hnext := fun (h : joinP P s i = none) => hstar.trans (termT_congr (n := n) fun j _ => joinS_next P s i h j)
          have hs1 : t.size ≤ n := by omega
          have hs2 : n ≤ t.size := by omega
          have hs3 : i < t.size := by omega
          cases hp : P i with
          | none =>
            rw [hp] at hv hj
            have hj2 : joinP P s i = P i := by rw [hj, hp]; rfl
            have hsk := hskip hj2
            have hv2 : ((t[i].toNat : Int) != 42) = false := by rw [hv]; rfl
            have Hsk := Lib.hid hsk
            clear hv hj hj2 hsk hskip hnext hstar ht hsz hget hp hPi
            go_wp2_with fail
            go_quiet (fail)
            go_wp2_with fail
            first
              | (go_roundw
                 case rel => exact ⟨i + 1, by omega, by go_num, by rw [← Hsk.out], below_drewN hW3 _⟩
                 case measure => simp [intOf] <;> omega)
              | exact ⟨⟨i + 1, by omega, by go_num, by rw [← Hsk.out], below_drewN hW3 _⟩, by simp [intOf] <;> omega⟩
          | some c =>
            rw [hp] at hv hj
            have cB := fun wx => l1Bit_any s i (by omega) (by omega) wx
            have q0 : IntKind.i64.wrap 0 = 0 := rfl
            have q1 : IntKind.i64.wrap 1 = 1 := rfl
            have q2 : IntKind.i64.wrap 48 = 48 := rfl
            have q3 : IntKind.i64.wrap 49 = 49 := rfl
            cases c <;> cases hb : s.testBit i <;> rw [hb] at cB hj
            all_goals
              simp only [letterT, Bool.toNat_true, Bool.toNat_false, Int.natCast_zero, Int.natCast_one] at hv cB
              have hv2 : (t[i].toNat : Int) = _ := congrArg (fun x : UInt8 => (x.toNat : Int)) hv
              simp only [show ((48 : UInt8).toNat : Int) = 48 from rfl, show ((49 : UInt8).toNat : Int) = 49 from rfl] at hv2
              have Hskip := Lib.hid hskip
              have Hnext := Lib.hid hnext
              have Hj := Lib.hid hj
              have Hp := Lib.hid hp
              have CB := Lib.hid cB
              have Hsz := Lib.hid hsz
              clear hv hj hskip hnext hstar ht hsz hget hp hPi hb cB
              go_wp2_with fail
              go_quiet ((go_at_call 109; exact quiet_left (CB.out _)))
              go_wp2_with fail
              first
                | (go_roundw
                   case rel => exact ⟨i + 1, by omega, by go_num, by rw [← Hskip.out (by rw [Hj.out, Hp.out]; rfl)], below_drewN hW3 _⟩
                   case measure => simp [intOf] <;> omega)
                | exact ⟨⟨i + 1, by omega, by go_num, by rw [← Hskip.out (by rw [Hj.out, Hp.out]; rfl)], below_drewN hW3 _⟩, by simp [intOf] <;> omega⟩
                | (have e1 : IntKind.i64.wrap ((i : Int) + 1) = (i : Int) + 1 := IntWalk.i64_in _ (by omega)
                   have e2 : (0 : Int) ≤ (i : Int) + 1 := by omega
                   have e3 : ((i : Int) + 1).toNat = i + 1 := by omega
                   have e4 : i + 1 ≤ t.size := by omega
                   have e5 : i ≤ t.size := by omega
                   have e6 : (t.extract 0 i).size ≤ 5 := by simp; omega
                   have e7 : (t.extract 0 i ++ ⟨#[42]⟩).size ≤ 6 := by
                     have h1 : (ByteArray.mk #[42]).size = 1 := rfl
                     rw [ByteArray.size_append]; omega
                   have e8 : (t.extract (i + 1) t.size).size ≤ 5 := by simp; omega
                   go_quiet (fail)
                   go_wp2_with fail
                   exact ⟨⟨i + 1, by omega, by go_num, by rw [Hsz.out, Hnext.out (by rw [Hj.out]; rfl)], below_drewN hW3 _⟩, by simp [intOf] <;> omega⟩)
        · obtain rfl : i = n := by omega
          rw [HTn.out]
          go_wp2_with fail
          go_roundw
          case rel => exact ⟨k + 1, by omega, by rw [← Hq.out] <;> go_num, rfl, hW.trans (hW3.mono hWs)⟩
          case measure => simp [intOf] <;> omega
    · obtain rfl : k = r.length := by omega
      rw [List.take_length, ← Hfin.out]
      go_wp2_with fail
      go_ret
      exact ⟨hW, rfl⟩

theorem l6Term_yes (t u : ByteArray) (w : World) (hs : t.size ≤ 1048576) (hu : u.size ≤ 1048576) (h : termOk t u = true) :
    Calls Tryd.prog 112 #[.string t, .string u] w fun e w' => Below w.heap.size w w' ∧
      ∃ b cap, e = .returned (.tuple #[.slice (some ⟨b, 0, none⟩) (netOf t).n cap, .bool true]) ∧ w.heap.size ≤ b ∧ b < w'.heap.size ∧ StrsAt w' b (netTexts (netOf t)) := by
  unfold termOk at h
  rw [Bool.and_eq_true] at h
  have hn := netOf_ok h.1
  have c := fun wx => termValid_spec u (netOf t).n hn.1 hn.2 hu wx
  rw [h.2] at c
  have C := Lib.hid c
  have Hok := Lib.hid h.1
  have cR := Lib.hid (l3Open_any t w hs)
  clear c h
  go_enter Tryd.func112, Tryd.ntmps112
  go_wp2_with fail
  refine cR.out.mono ?_
  rintro e w1 ⟨hW1, ⟨hbad, v, rfl⟩ | ⟨hok, b, cap, rfl, hb1, hb2, hat⟩⟩
  · rw [Hok.out] at hbad; cases hbad
  · have Hat := Lib.hid hat
    clear hat hok
    go_wp2_with (go_at_call 168; refine (C.out _).mono ?_; rintro e w' ⟨rfl, rfl⟩)
    go_ret2
    exact ⟨hW1, b, cap, rfl, hb1, hb2, Hat.out⟩
theorem l6Term_no (t u : ByteArray) (w : World) (hs : t.size ≤ 1048576) (hu : u.size ≤ 1048576) (h : termOk t u = false) :
    Calls Tryd.prog 112 #[.string t, .string u] w fun e w' => Below w.heap.size w w' ∧ ∃ v, e = .returned (.tuple #[v, .bool false]) := by
  have cR := Lib.hid (l3Open_any t w hs)
  have H := Lib.hid h
  clear h
  go_enter Tryd.func112, Tryd.ntmps112
  go_wp2_with fail
  refine cR.out.mono ?_
  rintro e w1 ⟨hW1, ⟨hbad, v, rfl⟩ | ⟨hok, b, cap, rfl, hb1, hb2, hat⟩⟩
  · clear hbad
    go_wp2_with fail
    go_ret2
    exact ⟨hW1, _, rfl⟩
  · have hn := netOf_ok hok
    have hbad : termB u (netOf t).n = false := by
      have := H.out
      unfold termOk at this
      rwa [hok, Bool.true_and] at this
    have c := fun wx => termValid_spec u (netOf t).n hn.1 hn.2 hu wx
    rw [hbad] at c
    have C := Lib.hid c
    clear hat hok hbad c
    go_wp2_with (go_at_call 168; refine (C.out _).mono ?_; rintro e w' ⟨rfl, rfl⟩)
    go_ret2
    exact ⟨hW1, _, rfl⟩

/-- some states, and the steps of the first k of them -/
def stepsS (N : Net) (L : List Nat) (k : Nat) : List Nat := L ++ (L.take k).map (stepN N)
theorem stepsS_zero (N : Net) (L : List Nat) : stepsS N L 0 = L := by simp [stepsS]
theorem stepsS_succ (N : Net) (L : List Nat) (k : Nat) (h : k < L.length) : stepsS N L (k + 1) = stepsS N L k ++ [stepN N L[k]] := by
  unfold stepsS
  rw [List.take_succ_eq_append_getElem h, List.map_append, List.append_assoc, List.map_singleton]
theorem stepsS_length (N : Net) (L : List Nat) (k : Nat) (h : k ≤ L.length) : (stepsS N L k).length = L.length + k := by
  unfold stepsS
  rw [List.length_append, List.length_map, List.length_take, Nat.min_eq_left h]
/-- how far the closing of a term has come -/
def CloseS (N : Net) (p0 : Trm) (g : Nat) (p : Trm) : Prop := closeP (N.n + 1) N p0 = closeP g N p ∧ N.n + 1 ≤ g + starN N.n p
theorem CloseS.zero (N : Net) (p : Trm) : CloseS N p (N.n + 1) p := ⟨rfl, by omega⟩
theorem CloseS.next {N : Net} {p0 p : Trm} {g : Nat} (h : CloseS N p0 g p) (ht : trapP N p = false) : 0 < g ∧ CloseS N p0 (g - 1) (nextP N p) := by
  have h1 := starN_grows ht
  have h2 := starN_le N.n (nextP N p)
  obtain ⟨a1, a2⟩ := h
  obtain ⟨f, rfl⟩ : ∃ f, g = f + 1 := ⟨g - 1, by omega⟩
  rw [closeP_step ht] at a1
  exact ⟨by omega, a1, by omega⟩
theorem CloseS.stop {N : Net} {p0 p : Trm} {g : Nat} (h : CloseS N p0 g p) (ht : trapP N p = true) : closeP (N.n + 1) N p0 = p := by
  rw [h.1, closeP_done ht]

set_option maxHeartbeats 2000000 in
theorem l6Closed_any (b cap : Nat) (N : Net) (h1 : 1 ≤ N.n) (hn : N.n ≤ 5) (p0 : Trm) (w : World) (hat : StrsAt w b (netTexts N)) (hb : b < w.heap.size) :
    Calls Tryd.prog 123 #[.slice (some ⟨b, 0, none⟩) N.n cap, .string (termT N.n p0)] w fun e w' => Below w.heap.size w w' ∧ e = .returned (.string (termT N.n (closeP (N.n + 1) N p0))) := by
  have hpw := pw_le hn
  have Hat := Lib.hid hat
  obtain ⟨i0, hi0, hz0, hz1, hz2⟩ := info_parts int_row
  have Hi0 := Lib.hid hi0
  have Hz0 := Lib.hid hz0
  have Hz1 := Lib.hid hz1
  have Hz2 := Lib.hid hz2
  have cA := Lib.hid (fun wx => l3All_any (some ⟨b, 0, none⟩) N.n cap hn wx)
  clear hat hi0 hz0 hz1 hz2
  go_enter Tryd.func123, Tryd.ntmps123
  go_wp2_with fail
  go_loopg [1, 5, 6, 7] (N.n + 1) (fun g x _ _ _ wr => ∃ p : Trm, x = .string (termT N.n p) ∧ CloseS N p0 g p ∧ Below w.heap.size w wr)
  case atStart => exact ⟨p0, rfl, CloseS.zero N p0, Below.refl _ _⟩
  case round =>
    obtain ⟨p, rfl, hst, hW⟩ := hrel
    have Hst := Lib.hid hst
    have hWs := hW.size
    have c1 := l6Trap_any b cap N hn p wr (Hat.out.below hW hb) (Nat.lt_of_lt_of_le hb hWs)
    clear hst
    cases ht : trapP N p <;> rw [ht] at c1
    · have hnx := Hst.out.next ht
      have C1 := Lib.hid c1
      have Hnx := Lib.hid hnx.2
      have hg0 := hnx.1
      have cS := Lib.hid (fun wx => l6States_any N.n p hn wx)
      have hmem : ∀ s ∈ statesP N.n p, s < pw N.n := fun s hs => ((statesP_mem _ _ _).1 hs).1
      have hlen : (statesP N.n p).length ≤ pw N.n := statesTo_length N.n p (pw N.n)
      have hlpos : 0 < (statesP N.n p).length := List.length_pos_iff.2 (statesP_ne N.n p)
      have hnp : nextP N p = hullP (stepsS N (statesP N.n p) (statesP N.n p).length) := by unfold stepsS; rw [List.take_length]; rfl
      obtain ⟨L, hL⟩ : ∃ L, statesP N.n p = L := ⟨_, rfl⟩
      rw [hL] at cS hmem hlen hnp hlpos
      have Hmem := Lib.hid hmem
      have Hnp := Lib.hid hnp
      have cT := Lib.hid (fun s (hs : s < pw N.n) wx (hx : Below w.heap.size w wx) => l3StepAll_any b cap s N hn hs wx (Hat.out.below hx hb))
      clear hnx c1 ht hmem hnp hL
      go_wp2_with fail
      refine C1.out.mono ?_
      rintro e w2 ⟨hW2, rfl⟩
      go_wp2_with fail
      refine (cS.out _).mono ?_
      rintro e w3 ⟨hW3, a, ca, rfl, hI3⟩
      have hB2 : Below w.heap.size w w2 := hW.trans (hW2.mono hWs)
      have hB3 : Below w.heap.size w w3 := hB2.trans (hW3.mono hB2.size)
      have hB3s := hB3.size
      obtain ⟨gL, rfl, hgL, _⟩ := intsL_cell hI3 hlpos
      have HI3 := Lib.hid hI3
      have hnil : (w3.alloc (.cells #[] 3)).ownsRow w3.heap.size 3 1 (.slice (some ⟨w3.heap.size, 0, none⟩) 0 0) 0 [] := World.ownsRow_made w3 #[] 0 (Nat.le_refl _) (by unfold maxLen; omega) rfl
      have hsrc : ∀ j u, (ints (natL L))[j]? = some u → (w3.alloc (.cells #[] 3)).cell? ((⟨gL, 0, none⟩ : Addr).add j) = some u := fun j u hu => by
        obtain ⟨hj, rfl⟩ := List.getElem?_eq_some_iff.1 hu
        rw [ints_length, natL_length] at hj
        obtain ⟨g', e, _, hc⟩ := intsL_cell hI3 hj
        cases e
        rw [Addr.add_mid, Nat.zero_add, World.cell?_of_block (w := w3) (a := ⟨gL, j, none⟩) (Below.heap_alloc _ _ _ hgL), hc]
        simp [ints, natL]
      have Hnil := Lib.hid hnil
      have Hsrc := Lib.hid hsrc
      have Hone := Lib.hid (show ∀ u ∈ ints (natL L), u.oneCell' = true from fun u hu => by obtain ⟨x, _, rfl⟩ := List.mem_map.1 hu; rfl)
      have hl5 : L.length ≤ 32 := by omega
      clear hI3 hnil hsrc
      go_wp2_with (first | ((with_reducible show wpList _ _ _ (⟨_, .buildSlice 30 0 _, _, _, _, _⟩ :: _) _ _); refine wpList_buildSlice' rfl _ _ _ rfl rfl (int_none _) ?_) | (at_builtin; refine wpList_append_own_at _ rfl _ _ 30 rfl w3.heap.size 3 i0 (.int .i64 0) 1 8 Tryd.underlying30 Hi0.out Hz0.out Hz1.out Hz2.out rfl (by decide) _ 0 [] rfl Hnil.out ⟨gL, 0, none⟩ L.length ca (ints (natL L)) rfl (by rw [ints_length, natL_length]; omega) Hsrc.out Hone.out (by unfold maxLen; omega) (by omega) (by simp) ?_))
      intro v4 w4 hown4 hg4 _ _
      have hB4 : Below w3.heap.size w3 w4 := ((Below.refl _ _).alloc (Nat.le_refl _) _).grown hg4 (by simp) (fun q hq => own_ge Hnil.out hq)
      have hown5 : w4.ownsRow w3.heap.size 3 1 v4 (natL (stepsS N L 0)).length (ints (natL (stepsS N L 0))) := by
        rw [stepsS_zero, natL_length]
        simpa using hown4
      have Hown5 := Lib.hid hown5
      have HB4 := Lib.hid hB4
      clear hown4 hg4 hown5 hB4
      go_wp2_with fail
      go_loopw [6, 7] (fun x j wr => ∃ k : Nat, k ≤ L.length ∧ j = .int .i64 k ∧ wr.ownsRow w3.heap.size 3 1 x (natL (stepsS N L k)).length (ints (natL (stepsS N L k))) ∧ Below w3.heap.size w3 wr) (fun _ j _ => L.length - (intOf j).toNat)
      case atStart => exact ⟨0, Nat.zero_le _, rfl, Hown5.out, HB4.out⟩
      case round =>
        obtain ⟨k, hk, rfl, hown, hWr⟩ := hrel
        have Hown := Lib.hid hown
        have hWrs := hWr.size
        have hlen1 : (natL (stepsS N L k)).length = L.length + k := by rw [natL_length, stepsS_length N L k hk]
        clear hown
        by_cases hlt : k < L.length
        · obtain ⟨g, e0, hg, hcell⟩ := intsL_cell HI3.out hlt
          have hck : wr.cell? ⟨gL, k, none⟩ = some (.int .i64 (L[k] : Nat)) := by cases e0; rw [hWr.cell hgL]; exact hcell
          have hnx : natL (stepsS N L (k + 1)) = natL (stepsS N L k) ++ [((stepN N L[k] : Nat) : Int)] := by rw [stepsS_succ N L k hlt, natL_snoc]
          obtain ⟨s, hs⟩ : ∃ s, L[k] = s := ⟨_, rfl⟩
          rw [hs] at hck hnx
          have hsm : s < pw N.n := Hmem.out s (by rw [← hs]; exact List.getElem_mem hlt)
          have hWw : Below w.heap.size w wr := hB3.trans (hWr.mono hB3s)
          have hlk : (k : Int) < (L.length : Int) := by omega
          have Hnx2 := Lib.hid hnx
          have hll : (natL (stepsS N L k)).length ≤ 64 := by omega
          have hgr : gL < wr.heap.size := by omega
          obtain ⟨z, hz⟩ : ∃ z : Nat, stepN N s = z := ⟨_, rfl⟩
          have c6 := fun wx (hx : Below w.heap.size w wx) => cT.out s hsm wx hx
          rw [hz] at c6
          have C6 := Lib.hid c6
          have Hz := Lib.hid hz
          have Hstay := Lib.hid (fun (wx : World) (x : Value) (h : wx.heap[gL]? = ((wr.alloc (.cells #[x] 3)).drew).heap[gL]?) =>
            show wx.cell? ⟨gL, k, none⟩ = some (.int .i64 (s : Nat)) by
              have h1 : wx.heap[gL]? = wr.heap[gL]? := h.trans (Below.heap_alloc _ _ _ hgr)
              rw [World.cell?_of_block (w := wr) (a := ⟨gL, k, none⟩) h1]; exact hck)
          clear hcell hs hnx hlen1 e0 c6 hz
          obtain ⟨wi, rfl⟩ : ∃ wi : World, wi = wr := ⟨_, rfl⟩
          go_wp2_with fail
          go_region_held3 (fun w' => w'.cell? ⟨gL, k, none⟩ = some (.int .i64 (s : Nat)))
            (first | exact hkeep | go_keep)
            (first
              | (go_at_call 98; refine Calls.mono (cA.out _) ?_; rintro e w' ⟨rfl, rfl⟩)
              | (go_at_call 178; refine Calls.mono (C6.out _ (hWw.drew)) ?_; rintro e w' ⟨rfl, rfl⟩)
              | (refine step_append_lies _ (by rfl) _ _ _ (by rfl) w3.heap.size 3 i0 (.int .i64 0) 1 8 Tryd.underlying30 Hi0.out Hz0.out Hz1.out Hz2.out rfl (by omega) u6 (natL (stepsS N L k)).length (ints (natL (stepsS N L k))) (by rfl) ((Hown.out.alloc _).drew)
                  ⟨wi.heap.size, 0, none⟩ 1 1 [_] (by rfl) (by rfl) (World.news_of_block (t := 3) (fr := (0, 0)) (heap_alloc_new wi _)) (by simp [Value.oneCell'])
                  (by omega) (by unfold maxLen; omega) (by omega) (by simp; omega) (wi.heap.size + 1) (by simp) ?_; intro gg cp w6 hown6 hgrow hat6 hlt6; have hkeep : w6.cell? ⟨gL, k, none⟩ = some (.int .i64 (s : Nat)) := Hstay.out w6 _ (hgrow.block gL (by simp; omega) (fun h => by have := own_ge Hown.out h.symm; omega))))
          have hW6 : Below w3.heap.size w3 w6 := ((hWr.drew).alloc (by simpa using hWrs) _).grown hgrow (by simp; omega) (fun q hq => own_ge Hown.out hq)
          have hown7 : w6.ownsRow w3.heap.size 3 1 (.slice (some ⟨gg, 0, none⟩) ((natL (stepsS N L k)).length + 1) cp) (natL (stepsS N L (k + 1))).length (ints (natL (stepsS N L (k + 1)))) := by
            rw [Hnx2.out, List.length_append, ints_snoc, Hz.out]; exact hown6
          have Hown7 := Lib.hid hown7
          have HW6 := Lib.hid hW6
          clear hown6 hown7 hW6 hgrow hat6 hkeep
          go_wp2_with fail
          go_roundw
          case rel => exact ⟨k + 1, by omega, by go_num, Hown7.out, HW6.out⟩
          case measure => simp [intOf] <;> omega
        · obtain rfl : k = L.length := by omega
          obtain ⟨a8, cp8, rfl, hcp8, hI8⟩ := intsAt_of_own Hown.out
          rw [natL_length]
          have hmem8 : ∀ s ∈ stepsS N L L.length, s < 32 := fun s hs => by
            unfold stepsS at hs
            rcases List.mem_append.1 hs with hs | hs
            · have := Hmem.out s hs; omega
            · obtain ⟨s', _, rfl⟩ := List.mem_map.1 hs
              have := stepN_lt N s'; omega
          rw [natL_length] at hlen1
          have c8 := l6Hull_any w3.heap.size N.n a8 cp8 (stepsS N L L.length) hn (by omega) (by omega) hmem8 wr hI8
          rw [← Hnp.out] at c8
          have C8 := Lib.hid c8
          have hB8 : Below w.heap.size w wr := hB3.trans (hWr.mono hB3s)
          clear hI8 c8 hmem8 hlen1
          go_wp2_with fail
          refine C8.out.mono ?_
          rintro e w9 ⟨hW9, rfl⟩
          go_wp2_with fail
          go_roundg (gk - 1)
          case measure => omega
          case rel => exact ⟨nextP N p, rfl, Hnx.out, hB8.trans (hW9.mono hB8.size)⟩
    · have hfin := Hst.out.stop ht
      have C1 := Lib.hid c1
      have Hfin := Lib.hid hfin
      clear c1 ht hfin
      go_wp2_with fail
      refine C1.out.mono ?_
      rintro e w2 ⟨hW2, rfl⟩
      go_wp2_with fail
      go_ret
      exact ⟨hW.trans (hW2.mono hWs), by rw [Hfin.out]; rfl⟩

theorem trapOf_spec (t u : ByteArray) (w : World) (hs : t.size ≤ 1048576) (hu : u.size ≤ 1048576) :
    Calls Tryd.prog 52 #[.string t, .string u] w fun e w' => Below w.heap.size w w' ∧ e = .returned (.tuple #[.string (trapT t u), .bool (termOk t u)]) := by
  cases hok : termOk t u
  · have hr : trapT t u = ByteArray.empty := by rw [trapT, hok]; rfl
    rw [hr]
    have c := Lib.hid (l6Term_no t u w hs hu hok)
    clear hr hok
    go_enter Tryd.func52, Tryd.ntmps52
    go_wp2_with fail
    refine c.out.mono ?_
    rintro e w1 ⟨hW1, v, rfl⟩
    go_wp2_with fail
    go_ret2
    exact ⟨hW1, rfl⟩
  · have hr : trapT t u = termT (netOf t).n (closeP ((netOf t).n + 1) (netOf t) (ofT u)) := by rw [trapT, hok]; rfl
    have hok2 := hok
    unfold termOk at hok2
    rw [Bool.and_eq_true] at hok2
    have hn := netOf_ok hok2.1
    have hut : termT (netOf t).n (ofT u) = u := termT_of hok2.2
    have c := l6Term_yes t u w hs hu hok
    rw [hr]
    obtain ⟨p0, hp0⟩ : ∃ p0, ofT u = p0 := ⟨_, rfl⟩
    rw [hp0] at hut ⊢
    rw [← hut]
    rw [← hut] at c
    obtain ⟨N, hN⟩ : ∃ N, netOf t = N := ⟨_, rfl⟩
    rw [hN] at hn c ⊢
    have C := Lib.hid c
    clear hr hok hok2 hut c hN hp0 hu
    go_enter Tryd.func52, Tryd.ntmps52
    go_wp2_with fail
    refine C.out.mono ?_
    rintro e w1 ⟨hW1, b, cap, rfl, hb1, hb2, hat⟩
    have c2 := Lib.hid (l6Closed_any b cap N hn.1 hn.2 p0 w1 hat hb2)
    clear hat
    go_wp2_with fail
    refine c2.out.mono ?_
    rintro e w2 ⟨hW2, rfl⟩
    go_wp2_with fail
    go_ret2
    exact ⟨hW1.trans (hW2.mono hW1.size), rfl⟩
end Go.Proofs.YtcddnacbjdahbaaDoor
