/- The reference's reduced networks, and states lifted. -/
import Derived.Test.YtkfagolmpbbckaaDoorSpecR
import Derived.Test.YtkfagolmpbbckaaDoorRe
import Derived.Deep.LoopGhost
import Derived.OwnWalk
namespace Go.Proofs.YtkfagolmpbbckaaDoor
open Go Go.RowKit Go.Sw
set_option maxRecDepth 100000
set_option linter.unusedVariables false

theorem own_lt {w : World} {base e size n : Nat} {v : Value} {xs : List Value} (h : w.ownsRow base e size v n xs) {q : Nat} (hq : v.ownBlock = some q) : q < w.heap.size := by
  rcases h.2 with ⟨rfl, _⟩ | ⟨g, cap, cur, rfl, _, hg, _⟩
  · cases hq
  · simp only [Value.ownBlock, Option.some.injEq] at hq
    subst hq; exact block_lt hg

theorem l9First_any (b cap : Nat) (N : Net) (hn : N.n ≤ 5) (w : World) (hat : StrsAt w b (netTexts N)) :
    Calls Tryd.prog 151 #[.slice (some ⟨b, 0, none⟩) N.n cap] w fun e w' => e = .returned (.int .i64 (ffI N)) ∧ w = w' := by
  have c := Lib.hid (fun i (hi : i < N.n) => l9Free_any b cap i N hn hi w hat)
  have hr : ffI N = firstI (freeB N) N.n := rfl
  have Hr := Lib.hid hr
  clear hat hr
  go_enter Tryd.func151, Tryd.ntmps151
  go_wp2_with fail
  go_loop [3] (fun j => ∃ k : Nat, k ≤ N.n ∧ j = .int .i64 k ∧ ∀ i, i < k → freeB N i = false) (fun j => N.n - (intOf j).toNat)
  case atStart => exact ⟨0, Nat.zero_le _, rfl, fun i h => absurd h (Nat.not_lt_zero _)⟩
  case round =>
    obtain ⟨k, hk, rfl, hall⟩ := hrel
    have Hall := Lib.hid hall
    clear hall
    by_cases hlt : k < N.n
    · have c1 := c.out k hlt
      cases hf : freeB N k <;> rw [hf] at c1
      · have C1 := Lib.hid c1
        have Hf := Lib.hid hf
        clear c1 hf
        go_wp2_with (go_at_call 181; refine C1.out.mono ?_; rintro e w' ⟨rfl, rfl⟩)
        go_round
        case rel => exact ⟨k + 1, by omega, by go_num, fun i hi => by
            by_cases e : i = k
            · subst e; exact Hf.out
            · exact Hall.out i (by omega)⟩
        case measure => simp [intOf] <;> omega
      · have hres : ffI N = k := by rw [Hr.out]; exact firstI_some hlt hf Hall.out
        have Hres := Lib.hid hres
        have C1 := Lib.hid c1
        clear c1 hf hres
        go_wp2_with (go_at_call 181; refine C1.out.mono ?_; rintro e w' ⟨rfl, rfl⟩)
        go_ret
        exact ⟨ret_int Hres.out.symm, rfl⟩
    · obtain rfl : k = N.n := by omega
      have hres : ffI N = -1 := by rw [Hr.out]; exact firstI_none Hall.out
      have Hres := Lib.hid hres
      clear hres
      go_wp2_with fail
      go_ret
      exact ⟨ret_int Hres.out.symm, rfl⟩

/-- how far a reduction has come -/
def RedSt (N : Net) (g : Nat) (M : Net) (G : List Int) : Prop :=
  redG N.n N = G ++ redG g M ∧ redN N.n N = redN g M ∧ M.n ≤ g ∧ 1 ≤ M.n ∧ M.n ≤ 5 ∧ G.length ≤ 5
theorem RedSt.zero {N : Net} (h1 : 1 ≤ N.n) (h5 : N.n ≤ 5) : RedSt N N.n N [] := ⟨rfl, rfl, Nat.le_refl _, h1, h5, by simp⟩
theorem RedSt.next {N M : Net} {g k : Nat} {G : List Int} (h : RedSt N g M G) (h5 : N.n ≤ 5) (hk : ffI M = (k : Int)) : 0 < g ∧ RedSt N (g - 1) (remN M k) (G ++ [(k : Int)]) := by
  obtain ⟨a1, a2, a3, a4, a5, a6⟩ := h
  have h1 := ff_lt hk
  have h2 := freeB_two h1.2
  obtain ⟨f, rfl⟩ : ∃ f, g = f + 1 := ⟨g - 1, by omega⟩
  rw [redG_some hk] at a1
  rw [redN_some hk] at a2
  have e : redG N.n N = (G ++ [(k : Int)]) ++ redG f (remN M k) := by rw [a1]; simp
  refine ⟨by omega, e, a2, by rw [remN_n]; omega, by rw [remN_n]; omega, by rw [remN_n]; omega, ?_⟩
  have h3 := redG_length N.n N
  rw [e, List.length_append] at h3
  omega
theorem RedSt.stop {N M : Net} {g : Nat} {G : List Int} (h : RedSt N g M G) (hk : ffI M = -1) : redG N.n N = G ∧ redN N.n N = M := by
  obtain ⟨a1, a2, _⟩ := h
  rw [redG_none hk, List.append_nil] at a1
  rw [redN_none hk] at a2
  exact ⟨a1, a2⟩

set_option maxHeartbeats 1000000 in
theorem reduceNetwork_spec (t : ByteArray) (w : World) (hs : t.size ≤ 1048576) :
    Calls Tryd.prog 105 #[.string t] w fun e w' => Below w.heap.size w w' ∧ ∃ a cap, e = .returned (.tuple #[.string (redT t), .slice a (redL t).length cap, .bool (netOk t)]) ∧ IntsAt w' w.heap.size a (redL t) := by
  have cO := Lib.hid (l3Open_any t w hs)
  cases hok0 : netOk t
  · have hr : redT t = ByteArray.empty := by rw [redT, hok0]; rfl
    have hl : redL t = [] := by rw [redL, hok0]; rfl
    rw [hr, hl]
    have Hok := Lib.hid hok0
    clear hr hl hok0
    go_enter Tryd.func105, Tryd.ntmps105
    go_wp2_with fail
    refine cO.out.mono ?_
    rintro e w1 ⟨hW1, ⟨hbad, v, rfl⟩ | ⟨hok, b, cap, rfl, hb1, hb2, hat⟩⟩
    · clear hbad
      go_wp2_with ((with_reducible show wpList _ _ _ (⟨_, .buildSlice 26 0 _, _, _, _, _⟩ :: _) _ _); refine wpList_buildSlice' rfl _ _ _ rfl rfl (int_none _) ?_)
      go_ret3
      exact ⟨hW1.alloc hW1.size _, _, 0, rfl, intsAt_nil _ _ _⟩
    · rw [Hok.out] at hok; cases hok
  · have hn := netOf_ok hok0
    have hr : redT t = netText (redN (netOf t).n (netOf t)) := by rw [redT, hok0]; rfl
    have hl : redL t = redG (netOf t).n (netOf t) := by rw [redL, hok0]; rfl
    rw [hr, hl]
    obtain ⟨N, hN⟩ : ∃ N, netOf t = N := ⟨_, rfl⟩
    rw [hN] at hn cO ⊢
    have Hok := Lib.hid hok0
    have hz := RedSt.zero hn.1 hn.2
    have Hz := Lib.hid hz
    clear hr hl hok0 hN hz
    go_enter Tryd.func105, Tryd.ntmps105
    go_wp2_with fail
    refine cO.out.mono ?_
    rintro e w1 ⟨hW1, ⟨hbad, v, rfl⟩ | ⟨hok, b, cap, rfl, hb1, hb2, hat⟩⟩
    · rw [Hok.out] at hbad; cases hbad
    · have hat2 : StrsAt (w1.alloc (.cells #[] 3)) b (netTexts N) := hat.same (Below.heap_alloc _ _ _ hb2)
      have cF := Lib.hid (l9First_any b cap N hn.2 _ hat2)
      have Hat2 := Lib.hid hat2
      have Hne := Lib.hid (show (Value.slice (some ⟨w1.heap.size, 0, none⟩) 0 0).ownBlock ≠ some b by
        intro e
        have h : w1.heap.size = b := by simpa [Value.ownBlock] using e
        omega)
      clear hat hat2 hok
      go_wp2_with (first | ((with_reducible show wpList _ _ _ (⟨_, .buildSlice 26 0 _, _, _, _, _⟩ :: _) _ _); refine wpList_buildSlice' rfl _ _ _ rfl rfl (int_none _) ?_) | (go_at_call 151; refine cF.out.mono ?_; rintro e w' ⟨rfl, rfl⟩))
      go_loopg [5, 7, 8] N.n (fun g s5 s7 s8 wr => ∃ (M : Net) (G : List Int) (b cp : Nat), s5 = .slice (some ⟨b, 0, none⟩) M.n cp ∧ s8 = .int .i64 (ffI M) ∧ RedSt N g M G ∧ wr.ownsRow w1.heap.size 3 1 s7 G.length (ints G) ∧ (StrsAt wr b (netTexts M) ∧ b < wr.heap.size ∧ s7.ownBlock ≠ some b) ∧ Below w1.heap.size w1 wr)
      case atStart => exact ⟨N, [], b, cap, rfl, rfl, Hz.out, World.ownsRow_made w1 #[] 0 (Nat.le_refl _) (by unfold maxLen; omega) rfl, ⟨Hat2.out, by simp; omega, Hne.out⟩, (Below.refl _ _).alloc (Nat.le_refl _) _⟩
      case round =>
        obtain ⟨M, G, b, cp, rfl, rfl, hst, hown, hS, hW⟩ := hrel
        have hM5 := hst.2.2.2.2.1
        have hM1 := hst.2.2.2.1
        have hG5 := hst.2.2.2.2.2
        have hbs := hS.2.1
        have Hst := Lib.hid hst
        have Hown := Lib.hid hown
        have HS := Lib.hid hS
        have hsz := hW.size
        clear hst hown hS
        rcases ffI_cases M with ⟨hf, _⟩ | ⟨k, hk, hf, hfree, _⟩
        · have hfin := Hst.out.stop hf
          rw [hf]
          obtain ⟨a, ca, rfl, hca, hI⟩ := intsAt_of_own Hown.out
          have hI' := Lib.hid (hI.mono hW1.size)
          have c4 := l3Text_any b cp (netTexts M) (by rw [netTexts_length]; omega) (netTexts_size M hM5) wr HS.out.1
          rw [netTexts_length, netText_join] at c4
          have C4 := Lib.hid c4
          have Hfin := Lib.hid hfin
          clear hI c4 hfin hf
          go_wp2_with fail
          refine C4.out.mono ?_
          rintro e w' ⟨rfl, rfl⟩
          go_wp2_with fail
          go_ret3
          exact ⟨hW1.trans (hW.mono hW1.size), a, ca, by rw [Hfin.out.1, Hfin.out.2]; rfl, by rw [Hfin.out.1]; exact hI'.out⟩
        · have hnx := Hst.out.next hn.2 hf
          have h2M := freeB_two hfree
          have Hnx := Lib.hid hnx.2
          have hg0 := hnx.1
          rw [hf]
          clear hnx hf hfree
          obtain ⟨wo, rfl⟩ : ∃ wo : World, wo = wr := ⟨_, rfl⟩
          go_wp2_with (first | ((with_reducible show wpList _ _ _ (⟨_, .buildSlice 26 1 _, _, _, _, _⟩ :: _) _ _); refine wpList_buildSlice' rfl _ _ _ rfl rfl (int_one (k : Int) _) ?_) | (at_builtin; refine wpList_int_appendK rfl _ _ rfl w1.heap.size _ G rfl ((Hown.out.alloc _)) _ _ rfl (cell_new ?_) (by omega) (hW.alloc (by omega) _) ?_ ?_ ?_))
          · rfl
          · exact Nat.le_refl _
          · first | omega | (simp; omega)
          · intro v' w3 hown3 hB3 hk3
            have hS3 : StrsAt w3 b (netTexts M) ∧ b < w3.heap.size := by
              have h1 := hk3 b (by first | omega | (simp; omega)) HS.out.2.2
              refine ⟨HS.out.1.same (h1.1.trans (Below.heap_alloc _ _ _ hbs)), ?_⟩
              have h2 : ∃ o, w3.heap[b]? = some o := by rw [h1.1, Below.heap_alloc _ _ _ hbs]; exact ⟨_, Array.getElem?_eq_getElem hbs⟩
              exact block_lt h2.choose_spec
            have hown4 : w3.ownsRow w1.heap.size 3 1 v' (G ++ [(k : Int)]).length (ints (G ++ [(k : Int)])) := by rw [List.length_append]; exact hown3
            have Hown3 := Lib.hid hown4
            have HB3 := Lib.hid hB3
            have c3 := Lib.hid (l9Remove_any b cp k M h2M hM5 hk w3 hS3.1 hS3.2)
            clear hown3 hown4 hB3 hk3 hS3
            go_wp2_with fail
            refine c3.out.mono ?_
            rintro e w4 ⟨hW4, b', c', rfl, hb1', hb2', hat'⟩
            have hown5 := own_below Hown3.out hW4
            have hne : v'.ownBlock ≠ some b' := fun e => by have := own_lt Hown3.out e; omega
            have hWx := HB3.out.trans (hW4.mono HB3.out.size)
            have c5 := Lib.hid (l9First_any b' c' (remN M k) (by rw [remN_n]; omega) w4 hat')
            have Hown5 := Lib.hid hown5
            have Hat' := Lib.hid hat'
            clear hown5 hat'
            go_wp2_with fail
            refine c5.out.mono ?_
            rintro e w' ⟨rfl, rfl⟩
            go_wp2_with fail
            go_roundg (gk - 1)
            case measure => omega
            case rel => exact ⟨remN M k, G ++ [(k : Int)], b', c', rfl, rfl, Hnx.out, Hown5.out, ⟨Hat'.out, hb2', hne⟩, hWx⟩

theorem l9Point_any (f : Nat) : ∀ (N : Net) (b cap s : Nat) (w : World), N.n ≤ f → 1 ≤ N.n → N.n ≤ 5 → s < pw (redN f N).n → StrsAt w b (netTexts N) → b < w.heap.size →
    Calls Tryd.prog 153 #[.slice (some ⟨b, 0, none⟩) N.n cap, .int .i64 s] w fun e w' => Below w.heap.size w w' ∧ e = .returned (.int .i64 (redP f N s : Nat)) := by
  induction f with
  | zero => intro N b cap s w h0 h1; omega
  | succ f ih =>
    intro N b cap s w hnf h1 h5 hs hat hb
    have cF := Lib.hid (l9First_any b cap N h5 w hat)
    rcases ffI_cases N with ⟨hf, _⟩ | ⟨k, hk, hf, hfree, _⟩
    · have hr := redP_none hf (f + 1) s
      rw [hr]
      rw [hf] at cF
      clear hr hat ih hf hs
      go_enter Tryd.func153, Tryd.ntmps153
      go_wp2_with (go_at_call 151; refine cF.out.mono ?_; rintro e w' ⟨rfl, rfl⟩)
      go_ret
      exact ⟨Below.refl _ _, rfl⟩
    · have hr := redP_some hf f s
      rw [hr]
      rw [hf] at cF
      rw [redN_some hf] at hs
      have h2 := freeB_two hfree
      have hpl := redP_lt f (remN N k) s hs
      rw [remN_n] at hpl
      have c1 := Lib.hid (l9Remove_any b cap k N h2 h5 hk w hat hb)
      have c2 := Lib.hid (fun b' c' wx (ha : StrsAt wx b' (netTexts (remN N k))) (hb' : b' < wx.heap.size) => ih (remN N k) b' c' s wx (by rw [remN_n]; omega) (by rw [remN_n]; omega) (by rw [remN_n]; omega) hs ha hb')
      have c3 := Lib.hid (fun wx (hx : Below w.heap.size w wx) => l9Lift_any b cap (redP f (remN N k) s) k N h2 h5 hpl hk wx (hat.below hx hb))
      clear hr hat ih hf hs hfree
      go_enter Tryd.func153, Tryd.ntmps153
      go_wp2_with fail
      refine cF.out.mono ?_
      rintro e w' ⟨rfl, rfl⟩
      go_wp2_with fail
      refine c1.out.mono ?_
      rintro e w2 ⟨hW2, b', c', rfl, hb1', hb2', hat'⟩
      have c2' := Lib.hid (c2.out b' c' w2 hat' hb2')
      clear hat'
      go_wp2_with fail
      refine c2'.out.mono ?_
      rintro e w3 ⟨hW3, rfl⟩
      have hW13 := hW2.trans (hW3.mono hW2.size)
      go_wp2_with fail
      refine (c3.out _ hW13).mono ?_
      rintro e w' ⟨rfl, rfl⟩
      go_wp2_with fail
      go_ret
      exact ⟨hW13, rfl⟩

set_option maxHeartbeats 1000000 in
theorem liftPoint_spec (t : ByteArray) (s : Int) (w : World) (hs : t.size ≤ 1048576) :
    Calls Tryd.prog 107 #[.string t, .int .i64 s] w fun e w' => Below w.heap.size w w' ∧ e = .returned (.int .i64 (liftPI t s)) := by
  have cR := reduceNetwork_spec t w hs
  have cO := Lib.hid (fun wx => l3Open_any t wx hs)
  have hr : liftPI t s = if liftPB t s then ((redP (netOf t).n (netOf t) s.toNat : Nat) : Int) else -1 := rfl
  cases hok : netOk t
  · have hr2 : liftPI t s = -1 := by rw [hr, liftPB, hok]; rfl
    rw [hok] at cR
    rw [hr2]
    have CR := Lib.hid cR
    clear hr hr2 cR
    go_enter Tryd.func107, Tryd.ntmps107
    go_wp2_with fail
    refine CR.out.mono ?_
    rintro e w1 ⟨hW1, a, cap, rfl, hI⟩
    have Hok := Lib.hid hok
    clear hI hok
    go_wp2_with fail
    refine (cO.out _).mono ?_
    rintro e w2 ⟨hW2, ⟨hbad, v, rfl⟩ | ⟨hok, b, cap, rfl, hb1, hb2, hat⟩⟩
    · clear hbad
      go_wp2_with fail
      go_ret
      exact ⟨hW1.trans (hW2.mono hW1.size), rfl⟩
    · rw [Hok.out] at hok; cases hok
  · have hn := netOf_ok hok
    have hrt : redT t = netText (redN (netOf t).n (netOf t)) := by rw [redT, hok]; rfl
    obtain ⟨N, hN⟩ : ∃ N, netOf t = N := ⟨_, rfl⟩
    have hrp := redN_pos N.n N (by rw [hN] at hn; exact hn.1)
    have hlp : liftPI t s = if decide (0 ≤ s) && decide (s < (pw (redN N.n N).n : Nat)) then ((redP N.n N s.toNat : Nat) : Int) else -1 := by rw [hr, liftPB, hok, hN]; rfl
    rw [hN] at hn hrt cO
    rw [hok, hrt] at cR
    have hM5 : (redN N.n N).n ≤ 5 := by omega
    have hpm := pw_le hM5
    have hok2 := netOk_text hrp.1 hM5
    have hsz2 := netText_size hM5
    have hn2 := (netOf_text (N := redN N.n N) hrp.1).1
    have cS := fun wx => sizeOf_yes (netText (redN N.n N)) wx (by omega) hok2
    rw [hn2] at cS
    rw [hlp]
    have h2m := pow2_le (redN N.n N).n hM5
    have h3 : ((2 : Int) ^ (redN N.n N).n - 1) = ((pw (redN N.n N).n - 1 : Nat) : Int) := by rw [pw_cast]; omega
    have CR := Lib.hid cR
    have CS := Lib.hid cS
    have H3 := Lib.hid h3
    have Hok := Lib.hid hok
    cases ha : inI s 0 ((pw (redN N.n N).n - 1 : Nat) : Int)
    · have hc : (decide (0 ≤ s) && decide (s < (pw (redN N.n N).n : Nat))) = false := by
        simp only [inI, Bool.and_eq_false_iff, decide_eq_false_iff_not] at ha
        rw [Bool.and_eq_false_iff, decide_eq_false_iff_not, decide_eq_false_iff_not]; omega
      rw [hc, if_neg (by decide)]
      have ha' : inI s 0 ((2 : Int) ^ (redN N.n N).n - 1) = false := by rw [h3]; exact ha
      clear hr hrt hN hlp hok hok2 hsz2 hn2 cR cS h3 hc ha
      go_enter Tryd.func107, Tryd.ntmps107
      go_wp2_with fail
      refine CR.out.mono ?_
      rintro e w1 ⟨hW1, a, cap, rfl, hI⟩
      clear hI
      go_wp2_with fail
      refine (cO.out _).mono ?_
      rintro e w2 ⟨hW2, ⟨hbad, v, rfl⟩ | ⟨hok, b, cap2, rfl, hb1, hb2, hat⟩⟩
      · rw [Hok.out] at hbad; cases hbad
      · clear hok hat
        go_wp2_with fail
        refine (CS.out _).mono ?_
        rintro e w3 ⟨hW3, rfl⟩
        have hW12 := hW1.trans (hW2.mono hW1.size)
        go_wp2_with fail
        refine (l1In_b _ _ _ _ ha' _).mono ?_; rintro e w' ⟨rfl, rfl⟩
        go_wp2_with fail
        go_ret
        exact ⟨hW12.trans (hW3.mono hW12.size), rfl⟩
    · have hs0 : 0 ≤ s ∧ s ≤ ((pw (redN N.n N).n - 1 : Nat) : Int) := by simpa [inI] using ha
      obtain ⟨m, rfl⟩ := Int.eq_ofNat_of_zero_le hs0.1
      have hm : m < pw (redN N.n N).n := by omega
      have hc : (decide ((0 : Int) ≤ m) && decide ((m : Int) < (pw (redN N.n N).n : Nat))) = true := by
        rw [Bool.and_eq_true, decide_eq_true_eq, decide_eq_true_eq]; omega
      rw [hc, if_pos rfl, Int.toNat_natCast]
      have ha' : inI m 0 ((2 : Int) ^ (redN N.n N).n - 1) = true := by rw [h3]; exact ha
      have cP := Lib.hid (fun b c wx (h1 : StrsAt wx b (netTexts N)) (h2 : b < wx.heap.size) => l9Point_any N.n N b c m wx (Nat.le_refl _) hn.1 hn.2 hm h1 h2)
      clear hr hrt hN hlp hok hok2 hsz2 hn2 cR cS h3 hc ha hs0
      go_enter Tryd.func107, Tryd.ntmps107
      go_wp2_with fail
      refine CR.out.mono ?_
      rintro e w1 ⟨hW1, a, cap, rfl, hI⟩
      clear hI
      go_wp2_with fail
      refine (cO.out _).mono ?_
      rintro e w2 ⟨hW2, ⟨hbad, v, rfl⟩ | ⟨hok, b, cap2, rfl, hb1, hb2, hat⟩⟩
      · rw [Hok.out] at hbad; cases hbad
      · have hW12 := hW1.trans (hW2.mono hW1.size)
        have Hat := Lib.hid hat
        clear hok hat
        go_wp2_with fail
        refine (CS.out _).mono ?_
        rintro e w3 ⟨hW3, rfl⟩
        have c := Lib.hid (cP.out b cap2 w3 (Hat.out.below hW3 hb2) (Nat.lt_of_lt_of_le hb2 hW3.size))
        go_wp2_with fail
        refine (l1In_b _ _ _ _ ha' _).mono ?_; rintro e w' ⟨rfl, rfl⟩
        go_wp2_with fail
        refine c.out.mono ?_
        rintro e w4 ⟨hW4, rfl⟩
        have hW13 := hW12.trans (hW3.mono hW12.size)
        go_wp2_with fail
        go_ret
        exact ⟨hW13.trans (hW4.mono hW13.size), rfl⟩
end Go.Proofs.YtkfagolmpbbckaaDoor
