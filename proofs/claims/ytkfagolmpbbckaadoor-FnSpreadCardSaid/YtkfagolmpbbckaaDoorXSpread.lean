/- Walk of the law on spreading. -/
import Derived.Test.YtkfagolmpbbckaaDoorDi
import Derived.Test.YtkfagolmpbbckaaDoorImplZ
import Derived.Test.YtkfagolmpbbckaaDoorImplB
import Derived.Test.YtkfagolmpbbckaaDoorHu
import Derived.Test.YtkfagolmpbbckaaDoorSq
namespace Go.Proofs.YtkfagolmpbbckaaDoor
open Go Go.RowKit Go.Sw
set_option maxRecDepth 100000
set_option linter.unusedVariables false

theorem trapB_termS {t : ByteArray} (h : netOk t = true) (p : Trm) : trapB t (termT (netOf t).n p) = trapP (netOf t) p := by
  unfold trapB termOk
  rw [h, termB_term, Bool.true_and, Bool.true_and]
  exact trapP_congr fun i hi => ofT_term hi
theorem hasP_insS {n s : Nat} {p q : Trm} (h : insTo p q n = true) (hp : hasP n p s = true) : hasP n q s = true := by
  rw [insTo_iff] at h
  rw [hasP_iff] at hp ⊢
  intro i hi
  rcases h i hi with e | e
  · rw [e]; rfl
  · rw [← e]; exact hp i hi
theorem ins_reflS (p : Trm) (n : Nat) : insTo p p n = true := (insTo_iff _ _ _).2 fun _ _ => .inr rfl
theorem ins_transS {n : Nat} {p q r : Trm} (h : insTo p q n = true) (k : insTo q r n = true) : insTo p r n = true := by
  rw [insTo_iff] at *
  intro i hi
  rcases k i hi with e | e
  · exact .inl e
  · rcases h i hi with e2 | e2
    · exact .inl (by rw [← e]; exact e2)
    · exact .inr (e2.trans e)
theorem ins_sprF {N : Net} (f : Nat) : ∀ p, insTo (sprF f N p) p N.n = true := by
  induction f with
  | zero => intro p; exact ins_reflS p _
  | succ f ih => intro p; exact ins_transS (ih (sprP N p)) (ins_spr N p)
theorem sprF_point {N : Net} {s : Nat} (hs : s < pw N.n) (h : stepN N s = s) (f : Nat) : ∀ p, hasP N.n p s = true → hasP N.n (sprF f N p) s = true := by
  induction f with
  | zero => intro p hp; exact hp
  | succ f ih => intro p hp; exact ih _ (spr_point hs hp h)
theorem hullP_one (x : Nat) : hullP [x] = pointP x := rfl
theorem point_hasS (n x : Nat) : hasP n (pointP x) x = true := by
  rw [hasP_iff]
  intro i _
  simp [pointP, fitB]
theorem ins_pointS {n x : Nat} {q : Trm} (h : hasP n q x = true) : insTo (pointP x) q n = true := by
  rw [insTo_iff]
  rw [hasP_iff] at h
  intro i hi
  have := h i hi
  cases hq : q i with
  | none => exact .inl rfl
  | some c =>
    rw [hq] at this
    simp only [fitB, beq_iff_eq] at this
    exact .inr (by rw [this]; rfl)
/-- a fixed point within a term lies within what the term spreads to -/
theorem point_spr {N : Net} {p : Trm} {x : Nat} (hx : x < pw N.n) (h : stepN N x = x) (f : Nat) (hi : insTo (hullP [x]) p N.n = true) : insTo (hullP [x]) (sprF f N p) N.n = true := by
  rw [hullP_one] at hi ⊢
  exact ins_pointS (sprF_point hx h f p (hasP_insS hi (point_hasS N.n x)))
theorem spr_again {t : ByteArray} (h : netOk t = true) (p : Trm) : termOk t (termT (netOf t).n (sprF (netOf t).n (netOf t) p)) = true ∧ sprT t (termT (netOf t).n (sprF (netOf t).n (netOf t) p)) = termT (netOf t).n (sprF (netOf t).n (netOf t) p) := by
  have hok : termOk t (termT (netOf t).n (sprF (netOf t).n (netOf t) p)) = true := by
    unfold termOk; rw [h, termB_term]; rfl
  refine ⟨hok, ?_⟩
  rw [sprT, hok, if_pos rfl]
  obtain ⟨N, hN⟩ : ∃ N, netOf t = N := ⟨_, rfl⟩
  rw [hN]
  have hd : sprD N (sprF N.n N p) := sprF_end N.n p (starN_le N.n p)
  have he : ∀ i, i < N.n → ofT (termT N.n (sprF N.n N p)) i = sprF N.n N p i := fun i hi => ofT_term hi
  have hd2 : sprD N (ofT (termT N.n (sprF N.n N p))) := fun i hi => by
    rw [sprP_congr he hi, hd i hi, he i hi]
  exact termT_congr fun i hi => by rw [sprF_done N.n _ hd2 i hi, he i hi]
set_option maxHeartbeats 8000000 in
theorem law_Spread (w : World) (a : Option Addr) (n c : Nat) (hc : c ≤ maxLen) (h : CodeAt w a n c) :
    Calls Tryd.prog 8 #[.slice a n c] w fun e w' => Below w.heap.size w w' ∧ e = .returned (.bool true) := by
  have hle := h.1
  have m0 : n ≤ 9223372036854775807 := by unfold maxLen at hc; omega
  have cD := Lib.hid (drawSpread_any a n c hc w h)
  clear h
  by_cases s0 : n ≤ 1048576
  case' neg =>
    go_enter Tryd.func8, Tryd.ntmps8
    go_wp2_with fail
    go_ret
    exact ⟨Below.refl _ _, rfl⟩
  go_enter Tryd.func8, Tryd.ntmps8
  go_wp2_with fail
  refine cD.out.mono ?_
  rintro e w1 ⟨hW1, t, u, ht, hu, rfl⟩
  have hW1s := hW1.size
  have c1 := Lib.hid (fun wx => spreadTerm_impl t u wx (by omega) (by omega))
  have c2 := Lib.hid (fun wx => spreadTerm_spec t u wx (by omega) (by omega))
  cases hok : termOk t u
  · rw [hok] at c1 c2
    obtain ⟨lt', hlt'⟩ : ∃ x, sprT t u = x := ⟨_, rfl⟩
    rw [hlt'] at c1 c2
    clear hok hlt'
    go_wp2_with fail
    refine (c1.out _).mono ?_
    rintro e w2 ⟨hW2, rfl⟩
    have hB2 := hW1.trans (hW2.mono hW1s)
    go_wp2_with fail
    refine (c2.out _).mono ?_
    rintro e w3 ⟨hW3, rfl⟩
    go_wp2_with fail
    go_ret
    exact ⟨hB2.trans (hW3.mono hB2.size), by first | rfl | simp⟩
  · have hnk : netOk t = true := by unfold termOk at hok; simp at hok; exact hok.1
    have hub : termB u (netOf t).n = true := by unfold termOk at hok; simp at hok; exact hok.2
    have hn := netOf_ok hnk
    have hut := termT_of hub
    have hus : u.size = (netOf t).n := by rw [← hut, termT_size]
    have hkt : sprT t u = termT (netOf t).n (sprF (netOf t).n (netOf t) (ofT u)) := by rw [sprT, hok]; rfl
    have hag := spr_again hnk (ofT u)
    have hpt : pointsL t = fixL (netOf t) := by rw [pointsL, hnk]; rfl
    have cp := Lib.hid (fun wx => hpt ▸ fixedPoints_impl t wx (by omega))
    have htb1 := trapB_termS hnk (ofT u)
    have htb2 := trapB_termS hnk (sprF (netOf t).n (netOf t) (ofT u))
    have htt := Lib.hid (fun h : trapP (netOf t) (ofT u) = true => sprF_trap (netOf t).n (ofT u) h)
    have hin := ins_sprF (N := netOf t) (netOf t).n (ofT u)
    have hps := Lib.hid (fun x (h : x ∈ fixL (netOf t)) (hi : insTo (hullP [x]) (ofT u) (netOf t).n = true) => point_spr (fixL_mem.1 h).1 (fixL_mem.1 h).2 (netOf t).n hi)
    have hlm := Lib.hid (fun x (h : x ∈ fixL (netOf t)) => (fixL_mem.1 h).1)
    have cI := fun q wx => isInside_impl (netOf t).n q (ofT u) hn.1 hn.2 wx
    have cJ := fun q wx => isInside_impl (netOf t).n q (sprF (netOf t).n (netOf t) (ofT u)) hn.1 hn.2 wx
    have cT1 := fun wx => isTrap_impl t u wx (by omega) (by omega)
    have cT2 := fun wx => isTrap_impl t (termT (netOf t).n (sprF (netOf t).n (netOf t) (ofT u))) wx (by omega) (by rw [termT_size]; omega)
    have cAg := fun wx => spreadTerm_impl t (termT (netOf t).n (sprF (netOf t).n (netOf t) (ofT u))) wx (by omega) (by rw [termT_size]; omega)
    have cH := Lib.hid (fun x hx wx => hull1_impl (netOf t).n x hn.1 hn.2 hx wx)
    have hfl : (fixL (netOf t)).length ≤ 32 := Nat.le_trans (pickL_length _ _) (pw_le hn.2).2
    simp only [hag.1, hag.2] at cAg
    rw [hok, hkt] at c1 c2
    rw [hut] at htb1
    simp only [htb1] at cT1
    simp only [htb2] at cT2
    simp only [hut] at cI
    obtain ⟨N, hN⟩ : ∃ N, netOf t = N := ⟨_, rfl⟩
    obtain ⟨p, hp⟩ : ∃ p, ofT u = p := ⟨_, rfl⟩
    rw [hN] at c1 c2 cp htt hin hps hlm cI cJ cT1 cT2 cAg cH hfl hn hus
    rw [hp] at c1 c2 htt hin hps cI cJ cT1 cT2 cAg
    obtain ⟨v, hv⟩ : ∃ q, sprF N.n N p = q := ⟨_, rfl⟩
    rw [hv] at c1 c2 htt hin hps cJ cT2 cAg
    have cI2 := cI v
    rw [hin] at cI2
    obtain ⟨kt, hkt0⟩ : ∃ k, termT N.n v = k := ⟨_, rfl⟩
    rw [hkt0] at c1 c2 cJ cT2 cAg cI2
    obtain ⟨tr, htr⟩ : ∃ b, trapP N p = b := ⟨_, rfl⟩
    obtain ⟨tv, htv⟩ : ∃ b, trapP N v = b := ⟨_, rfl⟩
    rw [htr] at cT1 htt
    rw [htv] at cT2 htt
    obtain ⟨L, hL⟩ : ∃ L, fixL N = L := ⟨_, rfl⟩
    rw [hL] at cp hps hlm hfl
    have CI := Lib.hid cI
    have CJ := Lib.hid cJ
    have CI2 := Lib.hid cI2
    have CT1 := Lib.hid cT1
    have CT2 := Lib.hid cT2
    have CAg := Lib.hid cAg
    have hhu : ((u.size : Nat) : Int) = (N.n : Int) := by omega
    clear hok hnk hub hut hkt hag hpt htb1 htb2 hin cI cJ cI2 cT1 cT2 cAg hN hp hv hkt0 htr htv hL
    go_wp2_with fail
    refine (c1.out _).mono ?_
    rintro e w2 ⟨hW2, rfl⟩
    have hB2 := hW1.trans (hW2.mono hW1s)
    go_wp2_with fail
    refine (c2.out _).mono ?_
    rintro e w3 ⟨hW3, rfl⟩
    have hB3 := hB2.trans (hW3.mono hB2.size)
    clear c1 c2
    go_wp2_with fail
    refine (CAg.out _).mono ?_
    rintro e w4 ⟨hW4, rfl⟩
    have hB4 := hB3.trans (hW4.mono hB3.size)
    go_wp2_with fail
    refine (CT1.out _).mono ?_
    rintro e w5 ⟨hW5, rfl⟩
    have hB5 := hB4.trans (hW5.mono hB4.size)
    go_wp2_with fail
    refine (cp.out _).mono ?_
    rintro e w6 ⟨hW6, a6, p6, rfl, hI6⟩
    have hB6 := hB5.trans (hW6.mono hB5.size)
    have HI6 := Lib.hid hI6
    clear hI6 CAg CT1 cp
    go_wp2_with fail
    go_loopw [13, 14, 15] (fun i _ _ wr => ∃ k : Nat, k ≤ L.length ∧ i = .int .i64 k ∧ Below w6.heap.size w6 wr) (fun i _ _ _ => L.length - (intOf i).toNat)
    case atStart => exact ⟨0, Nat.zero_le _, rfl, Below.refl _ _⟩
    case round =>
      obtain ⟨k, hk, rfl, hV⟩ := hrel
      have hVs := hV.size
      by_cases hlt : k < L.length
      · obtain ⟨g, cur, tt, rfl, hBg, hcur, hcs, hcells⟩ := (HI6.out.below hV).at' (by rw [nats_length]; omega)
        have hcl : wr.cell? ⟨g, k, none⟩ = some (.int .i64 ((L[k] : Nat) : Int)) := by
          rw [cell_of_row wr _ _ _ _ _ hcur, hcells k (by rw [nats_length]; exact hlt)]; simp [nats]
        have hx := hlm.out _ (List.getElem_mem hlt)
        have hpx := hps.out _ (List.getElem_mem hlt)
        obtain ⟨x, hx0⟩ : ∃ x, L[k] = x := ⟨_, rfl⟩
        rw [hx0] at hcl hx hpx
        have D1 := cH.out x hx wr
        have D2 := CI.out (hullP [x])
        have D3 := CJ.out (hullP [x])
        obtain ⟨iv, hiv⟩ : ∃ b, insTo (hullP [x]) p N.n = b := ⟨_, rfl⟩
        obtain ⟨jv, hjv⟩ : ∃ b, insTo (hullP [x]) v N.n = b := ⟨_, rfl⟩
        rw [hiv] at D2 hpx
        rw [hjv] at D3 hpx
        obtain ⟨htx, hhtx⟩ : ∃ z, termT N.n (hullP [x]) = z := ⟨_, rfl⟩
        rw [hhtx] at D1 D2 D3
        have E1 := Lib.hid D1
        have E2 := Lib.hid D2
        have E3 := Lib.hid D3
        have hki : (k : Int) < (L.length : Int) := by omega
        clear D1 D2 D3 hcells hcur hx0 hiv hjv hhtx hx
        go_wp2_with ((with_reducible show wpList _ _ _ (⟨_, .buildSlice 26 1 _, _, _, _, _⟩ :: _) _ _); refine wpList_buildSlice' rfl _ _ _ rfl rfl (int_one (x : Int) _) ?_)
        refine E1.out.mono ?_
        rintro e v1 ⟨hV1, rfl⟩
        have hU1 := hV.trans (hV1.mono hVs)
        go_wp2_with fail
        refine (E2.out _).mono ?_
        rintro e v2 ⟨hV2, rfl⟩
        have hU2 := hU1.trans (hV2.mono hU1.size)
        cases iv
        · clear hpx
          go_wp2_with fail
          go_roundw
          case rel => exact ⟨k + 1, by omega, by go_num, hU2⟩
          case measure => simp [intOf] <;> omega
        · obtain rfl := hpx rfl
          go_wp2_with fail
          refine (E3.out _).mono ?_
          rintro e v3 ⟨hV3, rfl⟩
          go_wp2_with fail
          go_roundw
          case rel => exact ⟨k + 1, by omega, by go_num, hU2.trans (hV3.mono hU2.size)⟩
          case measure => simp [intOf] <;> omega
      · have hB7 := hB6.trans (hV.mono hB6.size)
        have htq := htt.out
        go_wp2_with fail
        refine (CI2.out _).mono ?_
        rintro e w8 ⟨hW8, rfl⟩
        have hB8 := hB7.trans (hW8.mono hB7.size)
        cases tr
        · clear htq
          go_wp2_with fail
          go_ret
          exact ⟨hB8, by first | rfl | simp⟩
        · obtain rfl := htq rfl
          go_wp2_with fail
          refine (CT2.out _).mono ?_
          rintro e w9 ⟨hW9, rfl⟩
          go_wp2_with fail
          go_ret
          exact ⟨hB8.trans (hW9.mono hB8.size), by first | rfl | simp⟩
end Go.Proofs.YtkfagolmpbbckaaDoor
