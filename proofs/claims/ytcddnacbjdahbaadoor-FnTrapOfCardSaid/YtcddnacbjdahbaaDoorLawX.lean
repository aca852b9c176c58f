/- Walk of the law on the least trap around a term. -/
import Derived.Test.YtcddnacbjdahbaaDoorDi
import Derived.Test.YtcddnacbjdahbaaDoorImplZ
import Derived.Test.YtcddnacbjdahbaaDoorRa
import Derived.Test.YtcddnacbjdahbaaDoorHu
import Derived.Test.YtcddnacbjdahbaaDoorSpecF
import Derived.Test.YtcddnacbjdahbaaDoorMk
namespace Go.Proofs.YtcddnacbjdahbaaDoor
open Go Go.RowKit Go.Sw
set_option maxRecDepth 100000
set_option linter.unusedVariables false

theorem trapB_termX {t : ByteArray} (h : netOk t = true) (p : Trm) : trapB t (termT (netOf t).n p) = trapP (netOf t) p := by
  unfold trapB termOk
  rw [h, termB_term, Bool.true_and, Bool.true_and]
  exact trapP_congr fun i hi => ofT_term hi
theorem close_trapX {N : Net} (f : Nat) : ∀ p, N.n + 1 ≤ f + starN N.n p → trapP N (closeP f N p) = true := by
  induction f with
  | zero => intro p h; have := starN_le N.n p; omega
  | succ f ih =>
    intro p h
    cases ht : trapP N p
    · rw [closeP_step ht]
      exact ih _ (by have := starN_grows ht; omega)
    · rw [closeP_done ht]; exact ht
theorem hasP_ins {n s : Nat} {p q : Trm} (h : insTo p q n = true) (hp : hasP n p s = true) : hasP n q s = true := by
  rw [insTo_iff] at h
  rw [hasP_iff] at hp ⊢
  intro i hi
  rcases h i hi with e | e
  · rw [e]; rfl
  · rw [← e]; exact hp i hi
theorem ins_hull {n : Nat} {L : List Nat} {q : Trm} (hne : L ≠ []) (h : ∀ s ∈ L, hasP n q s = true) : insTo (hullP L) q n = true := by
  rw [insTo_iff]
  intro i hi
  cases hq : q i with
  | none => exact .inl rfl
  | some c =>
    refine .inr (hull_of hne fun s hs => ?_)
    have := (hasP_iff _ _ _).1 (h s hs) i hi
    rw [hq] at this
    simp only [fitB, beq_iff_eq] at this
    exact this.symm
theorem ins_refl (p : Trm) (n : Nat) : insTo p p n = true := (insTo_iff _ _ _).2 fun _ _ => .inr rfl
theorem ins_trans {n : Nat} {p q r : Trm} (h : insTo p q n = true) (k : insTo q r n = true) : insTo p r n = true := by
  rw [insTo_iff] at *
  intro i hi
  rcases k i hi with e | e
  · exact .inl e
  · rcases h i hi with e2 | e2
    · exact .inl (by rw [← e]; exact e2)
    · exact .inr (e2.trans e)
theorem next_ins {N : Net} {p q : Trm} (hq : trapP N q = true) (h : insTo p q N.n = true) : insTo (nextP N p) q N.n = true := by
  unfold nextP
  refine ins_hull (by simp [statesP_ne]) fun s hs => ?_
  rcases List.mem_append.1 hs with hs | hs
  · exact hasP_ins h ((statesP_mem _ _ _).1 hs).2
  · obtain ⟨x, hx, rfl⟩ := List.mem_map.1 hs
    obtain ⟨h1, h2⟩ := (statesP_mem _ _ _).1 hx
    exact (trapP_iff _ _).1 hq x h1 (hasP_ins h h2)
theorem close_ins {N : Net} {q : Trm} (hq : trapP N q = true) (f : Nat) : ∀ p, insTo p q N.n = true → insTo (closeP f N p) q N.n = true := by
  induction f with
  | zero => intro p h; exact h
  | succ f ih =>
    intro p h
    rw [closeP]
    split
    · exact h
    · exact ih _ (next_ins hq h)
theorem ins_next (N : Net) (p : Trm) : insTo p (nextP N p) N.n = true := by
  rw [insTo_iff]
  intro i hi
  cases e : nextP N p i with
  | none => exact .inl rfl
  | some b => exact .inr (nextP_some hi e)
theorem ins_close {N : Net} (f : Nat) : ∀ p, insTo p (closeP f N p) N.n = true := by
  induction f with
  | zero => intro p; exact ins_refl p _
  | succ f ih =>
    intro p
    rw [closeP]
    split
    · exact ins_refl p _
    · exact ins_trans (ins_next N p) (ih _)
theorem reach_ins {N : Net} {p q : Trm} {s : Nat} (hs : s < pw N.n) (hp : hasP N.n q s = true) (hq : trapP N q = true) : insTo (hullP (stR N s)) q N.n = true := by
  refine ins_hull (fun e => ?_) fun r hr => trap_AR hq (arB_iff.1 (pickL_mem.1 hr).2) hs hp
  have : s ∈ stR N s := pickL_mem.2 ⟨hs, arB_refl N s⟩
  rw [e] at this; cases this
theorem TextsAt.cellsX {w : World} {B : Nat} {a : Option Addr} {L : List ByteArray} (h : TextsAt w B a L) (h0 : 0 < L.length) : ∃ g, a = some ⟨g, 0, none⟩ ∧ B ≤ g ∧ g < w.heap.size ∧ ∀ wx : World, Below w.heap.size w wx → ∀ j (hj : j < L.length), wx.cell? ⟨g, j, none⟩ = some (.string (L[j]'hj)) := by
  obtain ⟨g, cur, tt, rfl, hBg, hcur, hcs, hcells⟩ := h.at' h0
  exact ⟨g, rfl, hBg, block_lt hcur, fun wx hb j hj => cell_row wx g j ((hb.block g (block_lt hcur)).trans hcur) (hcells j hj)⟩
theorem trapsT_get (N : Net) (j : Nat) (hj : j < (trapsT N).length) : ∃ p, trapP N p = true ∧ (trapsT N)[j] = termT N.n p := by
  have hl : j < (trapsP N).length := by unfold trapsT at hj; rwa [List.length_map] at hj
  exact ⟨(trapsP N)[j], trapsP_mem (List.getElem_mem hl), by simp [trapsT]⟩
theorem trapsT_pos (N : Net) : 0 < (trapsT N).length := by
  obtain ⟨p0, rr, hhead, _⟩ := trapsP_head N
  unfold trapsT
  rw [List.length_map, hhead]; simp
set_option maxHeartbeats 4000000 in
theorem law_TrapOf (w : World) (a : Option Addr) (n c : Nat) (hc : c ≤ maxLen) (h : CodeAt w a n c) :
    Calls Tryd.prog 9 #[.slice a n c] w fun e w' => Below w.heap.size w w' ∧ e = .returned (.bool true) := by
  have hle := h.1
  have m0 : n ≤ 9223372036854775807 := by unfold maxLen at hc; omega
  have cD := Lib.hid (drawTrapOf_any a n c hc w h)
  clear h
  by_cases s0 : n ≤ 1048576
  case' neg =>
    go_enter Tryd.func9, Tryd.ntmps9
    go_wp2_with fail
    go_ret
    exact ⟨Below.refl _ _, rfl⟩
  go_enter Tryd.func9, Tryd.ntmps9
  go_wp2_with fail
  refine cD.out.mono ?_
  rintro e w1 ⟨hW1, t, u, ht, hu, rfl⟩
  have hW1s := hW1.size
  have c1 := Lib.hid (fun wx => trapOf_impl t u wx (by omega) (by omega))
  have c2 := Lib.hid (fun wx => trapOf_spec t u wx (by omega) (by omega))
  cases hok : termOk t u
  · rw [hok] at c1 c2
    obtain ⟨lt', hlt'⟩ : ∃ x, trapT t u = x := ⟨_, rfl⟩
    rw [hlt'] at c1 c2
    clear hok hlt'
    go_wp2_with fail
    refine (c1.out _).mono ?_
    rintro e w2 ⟨hW2, rfl⟩
    have hB2 := hW1.trans (hW2.mono hW1s)
    go_wp2_with fail
    refine (c2.out _).mono ?_
    rintro e w3 ⟨hW3, rfl⟩
    go_wp2_with fail
    go_ret
    exact ⟨hB2.trans (hW3.mono hB2.size), by first | rfl | simp⟩
  · have hnk : netOk t = true := by unfold termOk at hok; simp at hok; exact hok.1
    have hub : termB u (netOf t).n = true := by unfold termOk at hok; simp at hok; exact hok.2
    have hn := netOf_ok hnk
    have hut := termT_of hub
    have hus : u.size = (netOf t).n := by rw [← hut, termT_size]
    have hkt : trapT t u = termT (netOf t).n (closeP ((netOf t).n + 1) (netOf t) (ofT u)) := by rw [trapT, hok]; rfl
    have hg : trapsL t = trapsT (netOf t) := by unfold trapsL; rw [hnk]; rfl
    have cL := Lib.hid (fun wx => trapsOf_impl t wx (by omega))
    have hl243 := trapsL_length t
    have htc := close_trapX ((netOf t).n + 1) (N := netOf t) (ofT u) (by omega)
    have htb := trapB_termX hnk (closeP ((netOf t).n + 1) (netOf t) (ofT u))
    rw [htc] at htb
    have hci := fun q (h : trapP (netOf t) q = true) (h2 : insTo (ofT u) q (netOf t).n = true) => close_ins h ((netOf t).n + 1) (ofT u) h2
    have hic := ins_close ((netOf t).n + 1) (N := netOf t) (ofT u)
    have hri := fun s (h : s ∈ statesP (netOf t).n (ofT u)) => (show s < pw (netOf t).n ∧ _ from ⟨((statesP_mem _ _ s).1 h).1, reach_ins (p := ofT u) ((statesP_mem _ _ s).1 h).1 (hasP_ins hic ((statesP_mem _ _ s).1 h).2) htc⟩)
    have cSt := fun wx => hut ▸ statesOf_impl (netOf t).n (ofT u) hn.1 hn.2 wx
    have cI1 := fun q wx => hut ▸ isInside_impl (netOf t).n (ofT u) q hn.1 hn.2 wx
    have cI2 := fun p q wx => isInside_impl (netOf t).n p q hn.1 hn.2 wx
    have cR := Lib.hid (fun (s : Nat) (hs : s < pw (netOf t).n) wx => reachableFrom_impl t s wx (by omega) hnk hs)
    have cH := Lib.hid (fun B a cap (s : Nat) (hs : s < pw (netOf t).n) wx h => hullOf_impl B (netOf t).n a cap (stR (netOf t) s) hn.1 hn.2 (List.length_pos_of_mem (pickL_mem.2 ⟨hs, arB_refl (netOf t) s⟩)) (Nat.le_trans (pickL_length _ _) (by have := pw_le hn.2; omega)) (fun x hx => (pickL_mem.1 hx).1) wx h)
    have cT := fun wx => isTrap_impl t (termT (netOf t).n (closeP ((netOf t).n + 1) (netOf t) (ofT u))) wx (by omega) (by rw [termT_size]; omega)
    rw [htb] at cT
    have hlen := statesP_length (netOf t).n (ofT u)
    have hpw := pw_le hn.2
    rw [hok] at c1 c2
    rw [hkt] at c1 c2
    rw [hg] at cL hl243
    obtain ⟨N, hN⟩ : ∃ N, netOf t = N := ⟨_, rfl⟩
    obtain ⟨p, hp⟩ : ∃ p, ofT u = p := ⟨_, rfl⟩
    rw [hN] at c1 c2 cL hl243 hci hic hri cSt cI1 cI2 cR cH cT hlen hpw hn hus
    rw [hp] at c1 c2 hci hic hri cSt cI1 cT hlen
    obtain ⟨kp, hkp⟩ : ∃ k, closeP (N.n + 1) N p = k := ⟨_, rfl⟩
    rw [hkp] at c1 c2 hci hic hri cT
    have cI3 := Lib.hid (fun q wx => cI2 kp q wx)
    have cI4 := Lib.hid (fun q wx => cI2 q kp wx)
    have cI5 := fun wx => cI1 kp wx
    rw [hic] at cI5
    obtain ⟨kt, hkt0⟩ : ∃ k, termT N.n kp = k := ⟨_, rfl⟩
    rw [hkt0] at c1 c2 cI3 cI4 cI5 cT
    obtain ⟨L, hL, htg, htp⟩ : ∃ L : List ByteArray, trapsT N = L ∧ (∀ j (hj : j < L.length), ∃ p, trapP N p = true ∧ L[j] = termT N.n p) ∧ 0 < L.length := ⟨_, rfl, trapsT_get N, trapsT_pos N⟩
    rw [hL] at cL hl243
    obtain ⟨S, hS⟩ : ∃ S, statesP N.n p = S := ⟨_, rfl⟩
    rw [hS] at cSt hri hlen
    have CSt := Lib.hid cSt
    have CI1 := Lib.hid cI1
    have CI5 := Lib.hid cI5
    have CT := Lib.hid cT
    have Hci := Lib.hid hci
    have Hri := Lib.hid hri
    have Htg := Lib.hid htg
    have hhu : ((u.size : Nat) : Int) = (N.n : Int) := by omega
    clear hok hnk hub hut hkt hg htc htb hci hic hri cSt cI1 cI2 cI5 cT hN hp hkp hkt0 hL hS htg
    go_wp2_with fail
    refine (c1.out _).mono ?_
    rintro e w2 ⟨hW2, rfl⟩
    have hB2 := hW1.trans (hW2.mono hW1s)
    go_wp2_with fail
    refine (c2.out _).mono ?_
    rintro e w3 ⟨hW3, rfl⟩
    have hB3 := hB2.trans (hW3.mono hB2.size)
    clear c1 c2
    go_wp2_with fail
    refine (cL.out _).mono ?_
    rintro e w4 ⟨hW4, a4, p4, rfl, _, _, hT4⟩
    have hB4 := hB3.trans (hW4.mono hB3.size)
    obtain ⟨g, rfl, hBg, hgl, hcl⟩ := hT4.cellsX htp
    have Hcl := Lib.hid hcl
    clear hcl hT4 cL
    go_wp2_with fail
    go_loopw [10] (fun i wr => ∃ k : Nat, k ≤ L.length ∧ i = .int .i64 k ∧ Below w4.heap.size w4 wr) (fun i _ => L.length - (intOf i).toNat)
    case atStart => exact ⟨0, Nat.zero_le _, rfl, Below.refl _ _⟩
    case round =>
      obtain ⟨k, hk, rfl, hV⟩ := hrel
      have hVs := hV.size
      by_cases hlt : k < L.length
      · obtain ⟨q, hq, hLq⟩ := Htg.out k hlt
        have hck := Hcl.out wr hV k hlt
        rw [hLq] at hck
        have D1 := CI1.out q
        have D2 := cI3.out q
        have hcq := Hci.out q hq
        obtain ⟨qt, hqt⟩ : ∃ z, termT N.n q = z := ⟨_, rfl⟩
        rw [hqt] at hck D1 D2 hLq
        obtain ⟨iv, hiv⟩ : ∃ b, insTo p q N.n = b := ⟨_, rfl⟩
        rw [hiv] at D1 hcq
        have E1 := Lib.hid D1
        have E2 := Lib.hid D2
        have HLq := Lib.hid hLq
        have hki : (k : Int) < (L.length : Int) := by omega
        clear D1 D2 hqt hiv hLq
        go_wp2_with fail
        refine (E1.out _).mono ?_
        rintro e v1 ⟨hV1, rfl⟩
        have hU1 := hV.trans (hV1.mono hVs)
        have hck1 := Hcl.out v1 hU1 k hlt
        rw [HLq.out] at hck1
        clear hck
        cases iv
        · clear hcq
          go_wp2_with fail
          go_roundw
          case rel => exact ⟨k + 1, by omega, by go_num, hU1⟩
          case measure => simp [intOf] <;> omega
        · have E3 := Lib.hid ((hcq rfl) ▸ E2.out)
          clear hcq
          go_wp2_with fail
          refine (E3.out _).mono ?_
          rintro e v2 ⟨hV2, rfl⟩
          go_wp2_with fail
          go_roundw
          case rel => exact ⟨k + 1, by omega, by go_num, hU1.trans (hV2.mono hU1.size)⟩
          case measure => simp [intOf] <;> omega
      · have hB5 := hB4.trans (hV.mono hB4.size)
        go_wp2_with fail
        refine (CSt.out _).mono ?_
        rintro e w6 ⟨hW6, a6, p6, rfl, hI6⟩
        have hB6 := hB5.trans (hW6.mono hB5.size)
        have HI6 := Lib.hid (show IntsAt w6 _ a6 (natI S) from hI6)
        clear hI6 CSt
        go_wp2_with fail
        go_loopw [12, 13, 14, 15] (fun i _ _ _ wx => ∃ m : Nat, m ≤ S.length ∧ i = .int .i64 m ∧ Below w6.heap.size w6 wx) (fun i _ _ _ _ => S.length - (intOf i).toNat)
        case atStart => exact ⟨0, Nat.zero_le _, rfl, Below.refl _ _⟩
        case round =>
          obtain ⟨m, hm, rfl, hY⟩ := hrel
          have hYs := hY.size
          by_cases hlt2 : m < S.length
          · obtain ⟨g6, rfl, hg6, hcell⟩ := ints_cell (HI6.out.below hY) hlt2
            obtain ⟨hx, hins⟩ := Hri.out _ (List.getElem_mem hlt2)
            obtain ⟨x, hx0⟩ : ∃ x, S[m] = x := ⟨_, rfl⟩
            rw [hx0] at hcell hx hins
            have D1 := cR.out x hx
            have D2 := fun B a cap wx h => cH.out B a cap x hx wx h
            have D3 := cI4.out (hullP (stR N x))
            rw [hins] at D3
            obtain ⟨R, hR⟩ : ∃ R, stR N x = R := ⟨_, rfl⟩
            rw [hR] at D1 D2 D3
            obtain ⟨htx, hhtx⟩ : ∃ z, termT N.n (hullP R) = z := ⟨_, rfl⟩
            simp only [hhtx] at D2 D3
            have E1 := Lib.hid D1
            have E2 := Lib.hid D2
            have E3 := Lib.hid D3
            have hmi : (m : Int) < (S.length : Int) := by omega
            clear hx0 hins D1 D2 D3 hR hhtx
            go_wp2_with fail
            refine (E1.out _).mono ?_
            rintro e y1 ⟨hY1, a9, c9, rfl, hI9⟩
            have F2 := Lib.hid (E2.out _ a9 c9 y1 hI9)
            have hZ1 := hY.trans (hY1.mono hYs)
            clear hI9
            go_wp2_with fail
            refine F2.out.mono ?_
            rintro e y2 ⟨hY2, rfl⟩
            have hZ2 := hZ1.trans (hY2.mono hZ1.size)
            go_wp2_with fail
            refine (E3.out _).mono ?_
            rintro e y3 ⟨hY3, rfl⟩
            go_wp2_with fail
            go_roundw
            case rel => exact ⟨m + 1, by omega, by go_num, hZ2.trans (hY3.mono hZ2.size)⟩
            case measure => simp [intOf] <;> omega
          · have hB7 := hB6.trans (hY.mono hB6.size)
            go_wp2_with fail
            refine (CT.out _).mono ?_
            rintro e w8 ⟨hW8, rfl⟩
            have hB8 := hB7.trans (hW8.mono hB7.size)
            go_wp2_with fail
            refine (CI5.out _).mono ?_
            rintro e w9 ⟨hW9, rfl⟩
            go_wp2_with fail
            go_ret
            exact ⟨hB8.trans (hW9.mono hB8.size), by first | rfl | simp⟩
end Go.Proofs.YtcddnacbjdahbaaDoor
