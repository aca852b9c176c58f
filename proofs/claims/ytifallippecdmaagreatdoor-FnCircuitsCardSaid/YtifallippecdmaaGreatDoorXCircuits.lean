/- Walk of the law on circuits. -/
import Derived.Test.YtifallippecdmaaGreatDoorDn
import Derived.Test.YtifallippecdmaaGreatDoorP2
import Derived.Test.YtifallippecdmaaGreatDoorTn
import Derived.Test.YtifallippecdmaaGreatDoorCc
import Derived.Test.YtifallippecdmaaGreatDoorBn
import Derived.Test.YtifallippecdmaaGreatDoorSpecI
import Derived.Test.YtifallippecdmaaGreatDoorImplB
import Derived.Deep.QuietTactic
import Derived.Deep.RegionHeld3
namespace Go.Proofs.YtifallippecdmaaGreatDoor
open Go Go.RowKit Go.Sw
set_option maxRecDepth 100000
set_option linter.unusedVariables false

/-- is one of the first m influences of a circuit both plus and minus? -/
def bothC (N : Net) (c : List Nat) : Nat → Bool
  | 0 => false
  | m + 1 => bothC N c m || decide (codeC N c m = 3)
theorem bothC_iff (N : Net) (c : List Nat) (m : Nat) : bothC N c m = true ↔ ∃ j, j < m ∧ codeC N c j = 3 := by
  induction m with
  | zero => exact ⟨fun h => absurd h (by simp [bothC]), fun ⟨j, h, _⟩ => absurd h (Nat.not_lt_zero _)⟩
  | succ m ih =>
    rw [bothC, Bool.or_eq_true, ih, decide_eq_true_eq]
    constructor
    · rintro (⟨j, h1, h2⟩ | h)
      · exact ⟨j, by omega, h2⟩
      · exact ⟨m, by omega, h⟩
    · rintro ⟨j, h1, h2⟩
      by_cases e : j = m
      · subst e; exact .inr h2
      · exact .inl ⟨j, by omega, h2⟩
/-- the sign of a circuit, as the law finds it -/
theorem circ_sign {N : Net} {c : List Nat} (hc : c ∈ circL N) : signT (circC N c) = if bothC N c c.length then 42 else if minusC N c c.length % 2 = 0 then 43 else 45 := by
  obtain ⟨hw, he⟩ := circ_sound hc
  rw [circC_fold hw.1]
  cases hb : bothC N c c.length
  · have hno : ∀ j, j < c.length → codeC N c j ≠ 3 := fun j hj e => by
      rw [(bothC_iff N c c.length).2 ⟨j, hj, e⟩] at hb; cases hb
    rw [foldC_minus fun j hj => by
      have h1 := he j hj
      have h2 := hno j hj
      have h3 : codeC N c j ≤ 3 := edgeC_le N _ _
      omega]
    have h2 : minusC N c c.length % 2 = 0 ∨ minusC N c c.length % 2 = 1 := by omega
    rcases h2 with h2 | h2 <;> rw [h2] <;> decide
  · obtain ⟨j, hj, e⟩ := (bothC_iff N c c.length).1 hb
    rw [foldC_three hj e]; rfl
theorem infT_natC {t : ByteArray} (h : netOk t = true) {i k : Nat} (hi : i < (netOf t).n) (hk : k < (netOf t).n) : infT t i k = ⟨#[signT (edgeC (netOf t) i k)]⟩ := by
  unfold infT
  rw [swB_natT h hi, swB_natT h hk, Int.toNat_natCast, Int.toNat_natCast, sgT_code]; rfl
theorem circT_atC (N : Net) (c : List Nat) (hc : ∀ k ∈ c, k < 10) (k : Nat) (hk : k < c.length) : ∃ h : k < (circT N c).size, ((circT N c)[k].toNat : Int) - 48 = ((c.getD k 0 : Nat) : Int) := by
  have h : k < (circT N c).size := by rw [circT_size]; omega
  refine ⟨h, ?_⟩
  rw [← Sw.byte_at (circT N c) k h]
  have h2 : k < (digT c).length := by simp [digT]; exact hk
  have : (circT N c).data.toList = digT c ++ [signT (circC N c)] := bs_data _
  have h3 : (circT N c).data.toList[k]'(by simpa using h) = UInt8.ofNat (48 + c[k]) := by
    have : (circT N c).data.toList[k]? = some (UInt8.ofNat (48 + c[k])) := by
      rw [this, List.getElem?_append_left h2]; simp [digT, hk]
    rw [List.getElem?_eq_getElem (by simpa using h)] at this
    simpa using this
  rw [h3, UInt8.toNat_ofNat', List.getD_eq_getElem?_getD, List.getElem?_eq_getElem hk, Option.getD_some]
  have := hc _ (List.getElem_mem hk)
  omega
theorem sign_texts (z : Nat) (h : z ≤ 3) (h0 : 0 < z) : ((⟨#[signT z]⟩ : ByteArray).toList == [48]) = false ∧ ((⟨#[signT z]⟩ : ByteArray).toList == []) = false ∧ ((⟨#[signT z]⟩ : ByteArray).toList == [42]) = decide (z = 3) ∧ ((⟨#[signT z]⟩ : ByteArray).toList == [45]) = decide (z = 2) := by
  have : z = 1 ∨ z = 2 ∨ z = 3 := by omega
  rw [ByteArray.toList_eq]
  rcases this with rfl | rfl | rfl <;> decide
theorem plus_cut (m : Nat) (h : m < 2) : (⟨#[43, 45]⟩ : ByteArray).extract m (m + 1) = bs [if m = 0 then 43 else 45] := by
  have : m = 0 ∨ m = 1 := by omega
  rcases this with rfl | rfl <;> (apply ba_ext; decide +kernel)
set_option maxHeartbeats 8000000 in
theorem law_Circuits (w : World) (a : Option Addr) (n c : Nat) (hc : c ≤ maxLen) (h : CodeAt w a n c) (a' : Option Addr) (n' c' : Nat) (hc' : c' ≤ maxLen) (h' : CodeAt w a' n' c') :
    Calls Tryz.prog 3 #[.slice a n c, .slice a' n' c'] w fun e w' => Below w.heap.size w w' ∧ e = .returned (.bool true) := by
  have hle := h.1
  have hle' := h'.1
  have m0 : n ≤ 9223372036854775807 := by unfold maxLen at hc; omega
  have m0' : n' ≤ 9223372036854775807 := by unfold maxLen at hc'; omega
  have cD := Lib.hid (drawCircs_any a n c hc w h)
  clear h h'
  by_cases s0 : n ≤ 1048576
  case' neg =>
    have s1 : 1048576 < n := by omega
    go_enter Tryz.func3, Tryz.ntmps3
    go_wp2_with fail
    go_ret
    exact ⟨Below.refl _ _, rfl⟩
  by_cases s0' : n' ≤ 1048576
  case' neg =>
    go_enter Tryz.func3, Tryz.ntmps3
    go_wp2_with fail
    go_ret
    exact ⟨Below.refl _ _, rfl⟩
  go_enter Tryz.func3, Tryz.ntmps3
  go_wp2_with fail
  refine cD.out.mono ?_
  rintro e w1 ⟨hW1, t, ht, rfl⟩
  have hW1s := hW1.size
  have c1 := Lib.hid (fun wx => circuitsOf_impl t wx (by omega))
  have c2 := Lib.hid (fun wx => (show Calls Tryz.prog 7 #[.string t] wx fun e w' => Below wx.heap.size wx w' ∧ ∃ a cap, e = .returned (.slice a (circsL t).length cap) ∧ TextsAt w' wx.heap.size a (circsL t) from by
    refine (circuitsOf_spec t wx (by omega)).mono ?_
    rintro e w' ⟨h1, v, rfl, _, hO⟩
    obtain ⟨a, cp, rfl, _, hT⟩ := textsAt_of_own hO
    exact ⟨h1, a, cp, rfl, hT⟩))
  have c3 := Lib.hid (fun wx => networkValid_impl t wx (by omega))
  have hcl0 := circsL_length t
  have hno := Lib.hid (fun h : netOk t = false => (show circsL t = [] by rw [circsL, h]; rfl))
  obtain ⟨X, hX0⟩ : ∃ X, circsL t = X := ⟨_, rfl⟩
  rw [hX0] at c1 c2 hcl0 hno
  go_wp2_with fail
  refine (c1.out _).mono ?_
  rintro e w2 ⟨hW2, a2, p2, rfl, hT2⟩
  have HT2 := Lib.hid hT2
  clear hT2
  go_wp2_with fail
  refine (c2.out _).mono ?_
  rintro e w3 ⟨hW3, a3, p3, rfl, hT3⟩
  have cS := Lib.hid (bnTexts_any _ _ a2 a3 p2 p3 X w3 (HT2.out.below hW3) hT3 (by omega))
  clear hT3
  go_wp2_with fail
  refine cS.out.mono ?_
  rintro e w4 ⟨hW4, rfl⟩
  go_wp2_with fail
  refine (c3.out _).mono ?_
  rintro e w5 ⟨hW5, rfl⟩
  have k2 := hW2.size
  have k3 := hW3.size
  have k4 := hW4.size
  have k5 := hW5.size
  have hB5 : Below w.heap.size w w5 := (((hW1.trans (hW2.mono (by omega))).trans (hW3.mono (by omega))).trans (hW4.mono (by omega))).trans (hW5.mono (by omega))
  have hB5s := hB5.size
  have HT5 := Lib.hid (((HT2.out.below hW3).below hW4).below hW5)
  cases hok : netOk t
  · have hx := hno.out hok
    subst hx
    clear hok hX0
    go_wp2_with fail
    refine (c2.out _).mono ?_
    rintro e w6 ⟨hW6, a6, p6, rfl, hT6⟩
    have cS2 := Lib.hid (fun wx => bnTexts_any 0 0 a2 a6 p2 p6 [] wx (textsAt_nil _ _ _) (textsAt_nil _ _ _) (by simp))
    clear hT6
    go_wp2_with fail
    refine (cS2.out _).mono ?_
    rintro e w7 ⟨hW7, rfl⟩
    have k6 := hW6.size
    go_wp2_with fail
    go_ret
    exact ⟨(hB5.trans (hW6.mono hB5s)).trans (hW7.mono (by omega)), by first | rfl | simp⟩
  · have hn := netOf_ok hok
    have cz := Lib.hid (fun wx => (sizI_yes hok) ▸ sizeOf_impl t wx (by omega))
    have cT := Lib.hid (fun (i : Nat) (hi : i < (netOf t).n) (wx : World) => turnNetwork_impl t i wx (by omega) hok hi)
    have cI := Lib.hid (fun (i k : Nat) (hi : i < (netOf t).n) (hk : k < (netOf t).n) (wx : World) => (infT_natC hok hi hk) ▸ influence_impl t (i : Int) (k : Int) wx (by omega))
    have cU := Lib.hid (fun (i : Nat) (hi : i < (netOf t).n) (wx : World) => (by
      have hlt : 2 ^ i < pw (netOf t).n := Nat.pow_lt_pow_right (by decide) hi
      have h1 : netOk (netText (turnN (netOf t) (2 ^ i))) = true := netOk_text (N := turnN (netOf t) (2 ^ i)) hn.1 hn.2
      have h2 : (netOf (netText (turnN (netOf t) (2 ^ i)))).eqv (turnN (netOf t) (2 ^ i)) := netOf_text (N := turnN (netOf t) (2 ^ i)) hn.1
      have h3 := twist_circs ((turn_twist hlt).eqv h2.symm) hok h1
      have hz : (netText (turnN (netOf t) (2 ^ i))).size ≤ 165 := netText_size (N := turnN (netOf t) (2 ^ i)) hn.2
      have := circuitsOf_impl (netText (turnN (netOf t) (2 ^ i))) wx (by omega)
      rw [h3, hX0] at this
      exact this : Calls Tryz.prog 5 #[.string (netText (turnN (netOf t) (2 ^ i)))] wx fun e w' => Below wx.heap.size wx w' ∧ ∃ a cap, e = .returned (.slice a X.length cap) ∧ TextsAt w' wx.heap.size a X))
    have hfl : flowB t = ((X.length : Int) == 0) := by
      rw [← hX0]
      unfold flowB circsL
      rw [hok, Bool.true_and, if_pos rfl, List.length_map]
      cases circL (netOf t) with
      | nil => rfl
      | cons x r =>
        have : ((((x :: r).length : Nat) : Int) == 0) = false := by rw [beq_eq_false_iff_ne, List.length_cons]; omega
        rw [this]; rfl
    have cF := Lib.hid (fun wx => hfl ▸ isFlowing_impl t wx (by omega))
    have hXm : X = (circL (netOf t)).map (circT (netOf t)) := by rw [← hX0, circsL_yes hok]
    have hcs := Lib.hid (fun c (h : c ∈ circL (netOf t)) => (circ_sound h))
    have hsg := Lib.hid (fun c (h : c ∈ circL (netOf t)) => circ_sign h)
    obtain ⟨N, hN⟩ : ∃ N, netOf t = N := ⟨_, rfl⟩
    rw [hN] at hn cz cT cI cU hXm hcs hsg
    obtain ⟨cs, hcs0⟩ : ∃ cs, circL N = cs := ⟨_, rfl⟩
    rw [hcs0] at hXm hcs hsg
    have hXl : X.length = cs.length := by rw [hXm, List.length_map]
    have hXg := Lib.hid (fun j (h : j < cs.length) => (by rw [hXm]; simp [h] : X[j]? = some (circT N (cs[j]'h))))
    have HXl := Lib.hid hXl
    have hmod : n' % N.n < N.n := Nat.mod_lt _ (by omega)
    have etm : (n' : Int).tmod (N.n : Int) = ((n' % N.n : Nat) : Int) := (Int.ofNat_tmod n' N.n).symm
    have D1 := Lib.hid (cT.out _ hmod)
    have D2 := Lib.hid (cU.out _ hmod)
    obtain ⟨md, hmd⟩ : ∃ k, n' % N.n = k := ⟨_, rfl⟩
    rw [hmd] at D1 D2 etm hmod
    obtain ⟨kt, hkt⟩ : ∃ x, netText (turnN N (2 ^ md)) = x := ⟨_, rfl⟩
    rw [hkt] at D1 D2
    have hnz : ((N.n : Int) == 0) = false := by rw [beq_eq_false_iff_ne]; omega
    have hnz2 : ¬ ((N.n : Int) = 0) := by omega
    clear hok hX0 hno hfl hXm hN hcs0 hXl hmd hkt
    go_wp2_with fail
    refine (cz.out _).mono ?_
    rintro e w6 ⟨hW6, rfl⟩
    go_wp2_with fail
    refine (D1.out _).mono ?_
    rintro e w7 ⟨hW7, rfl⟩
    have k6 := hW6.size
    have hB7 := (hB5.trans (hW6.mono hB5s)).trans (hW7.mono (by omega))
    have hB7s := hB7.size
    have HT7 := Lib.hid ((HT5.out.below hW6).below hW7)
    clear etm
    have HB7 := Lib.hid hB7
    clear hB7
    have H4 := Lib.hid hn.2
    go_wp2_with fail
    go_loopw [9, 10, 11, 12, 13, 14, 15, 16] (fun i _ _ _ _ _ _ _ wr => ∃ k : Nat, k ≤ X.length ∧ i = .int .i64 k ∧ Below w7.heap.size w7 wr) (fun i _ _ _ _ _ _ _ _ => X.length - (intOf i).toNat)
    case atStart => exact ⟨0, Nat.zero_le _, rfl, Below.refl _ _⟩
    case round =>
      obtain ⟨k, hk, rfl, hWr⟩ := hrel
      have hWrs := hWr.size
      by_cases hlt : k < X.length
      · obtain ⟨g, rfl, hcell⟩ := (HT7.out.below hWr).cell hlt
        have hkc : k < cs.length := by rw [← HXl.out]; exact hlt
        have hx := hXg.out k hkc
        rw [List.getElem?_eq_getElem hlt] at hx
        rw [Option.some.inj hx] at hcell
        have hmem : cs[k] ∈ cs := List.getElem_mem hkc
        obtain ⟨hway, hedge⟩ := hcs.out _ hmem
        have hsign := hsg.out _ hmem
        obtain ⟨c0, hc0⟩ : ∃ x, cs[k] = x := ⟨_, rfl⟩
        rw [hc0] at hcell hway hedge hsign
        have h1 := circT_size N c0
        have h2 := circT_end N c0
        rw [hsign] at h2
        have hbt := Lib.hid (circT_atC N c0 (fun j hj => by have := (hway.2.2 j hj).1; have := H4.out; omega))
        have hcl := hway.length
        have hcp : 0 < c0.length := List.length_pos_iff.2 hway.1
        have Hway := Lib.hid hway
        have Hedge := Lib.hid hedge
        obtain ⟨ct, hct⟩ : ∃ q, circT N c0 = q := ⟨_, rfl⟩
        rw [hct] at h1 h2 hcell hbt
        have h4 := H4.out
        have H2 := Lib.hid h2
        have hi1 : (k : Int) < (X.length : Int) := by omega
        have hki : (0 : Int) ≤ (k : Int) := by omega
        obtain ⟨sz, hsz⟩ : ∃ z, ct.size = z := ⟨_, rfl⟩
        rw [hsz] at h1 H2
        obtain ⟨m, hm⟩ : ∃ z, c0.length = z := ⟨_, rfl⟩
        rw [hm] at h1 H2 hcl hcp hbt
        clear hx hsign hmem hct hway hedge hc0 h2
        go_wp2_with fail
        go_loopw [11, 12, 13, 14, 15] (fun mi bo j _ _ wr' => ∃ k : Nat, k ≤ m ∧ mi = .int .i64 (minusC N c0 k : Nat) ∧ bo = .bool (bothC N c0 k) ∧ j = .int .i64 k ∧ Below wr.heap.size wr wr') (fun _ _ j _ _ _ => m - (intOf j).toNat)
        case atStart => exact ⟨0, Nat.zero_le _, rfl, rfl, rfl, Below.refl _ _⟩
        case round =>
          obtain ⟨j, hj, rfl, rfl, rfl, hWi⟩ := hrel
          have hWis := hWi.size
          have hsz1 : (sz : Int) - 1 = (m : Int) := by omega
          have hszl : ct.size ≤ 6 := by omega
          by_cases hjm : j < m
          · have hj1 : (j : Int) + 1 < (sz : Int) := by omega
            have hnx : (j + 1) % m < m := Nat.mod_lt _ (by omega)
            have etm : ((j : Int) + 1).tmod (m : Int) = (((j + 1) % m : Nat) : Int) := (Int.ofNat_tmod (j + 1) m).symm
            obtain ⟨nx, hnxe⟩ : ∃ z, (j + 1) % m = z := ⟨_, rfl⟩
            rw [hnxe] at hnx etm
            have hmz : ((m : Int) == 0) = false := by rw [beq_eq_false_iff_ne]; omega
            have hmz2 : ¬ ((m : Int) = 0) := by omega
            obtain ⟨hb1, hb2⟩ := hbt.out j hjm
            obtain ⟨hb3, hb4⟩ := hbt.out nx hnx
            have v1 : c0.getD j 0 < N.n := by
              rw [List.getD_eq_getElem?_getD, List.getElem?_eq_getElem (by omega), Option.getD_some]
              exact (Hway.out.2.2 _ (List.getElem_mem _)).1
            have v2 : c0.getD nx 0 < N.n := by
              rw [List.getD_eq_getElem?_getD, List.getElem?_eq_getElem (by omega), Option.getD_some]
              exact (Hway.out.2.2 _ (List.getElem_mem _)).1
            have hcode : codeC N c0 j = edgeC N (c0.getD j 0) (c0.getD nx 0) := by unfold codeC; rw [hm, hnxe]
            have hpos := Hedge.out j (by omega)
            rw [hcode] at hpos
            have hz3 : edgeC N (c0.getD j 0) (c0.getD nx 0) ≤ 3 := edgeC_le N _ _
            have w1' : IntKind.i64.wrap (IntKind.i64.wrap ((ct[j]'hb1).toNat : Int) - 48) = ((c0.getD j 0 : Nat) : Int) := by
              rw [wraps_i64 ((ct[j]'hb1).toNat : Int) (by omega) (by have := (ct[j]'hb1).toNat_lt; omega), hb2]
              exact wraps_i64 _ (by omega) (by omega)
            have w2' : IntKind.i64.wrap (IntKind.i64.wrap ((ct[nx]'hb3).toNat : Int) - 48) = ((c0.getD nx 0 : Nat) : Int) := by
              rw [wraps_i64 ((ct[nx]'hb3).toNat : Int) (by omega) (by have := (ct[nx]'hb3).toNat_lt; omega), hb4]
              exact wraps_i64 _ (by omega) (by omega)
            have cc := Lib.hid (fun wx => w1' ▸ w2' ▸ cI.out _ _ v1 v2 wx)
            clear w1' w2'
            have Hz := Lib.hid (And.intro hz3 hpos)
            obtain ⟨zc, hzc⟩ : ∃ z, edgeC N (c0.getD j 0) (c0.getD nx 0) = z := ⟨_, rfl⟩
            rw [hzc] at cc hcode Hz
            have hsg2 := sign_texts zc Hz.out.1 Hz.out.2
            have hba : bothC N c0 (j + 1) = (bothC N c0 j || decide (zc = 3)) := by rw [← hcode]; rfl
            have hma : minusC N c0 (j + 1) = minusC N c0 j + if zc = 2 then 1 else 0 := by rw [← hcode]; rfl
            obtain ⟨st, hst⟩ : ∃ x, (⟨#[signT zc]⟩ : ByteArray) = x := ⟨_, rfl⟩
            rw [hst] at cc hsg2
            obtain ⟨q1, q2, q3, q4⟩ := hsg2
            obtain ⟨hb0, hb00⟩ := hbt.out 0 (by omega)
            have hge : ((ct[0]'hb0).toNat : Int) ≤ ((ct[j]'hb1).toNat : Int) := by
              have hh : headN c0 = c0.getD 0 0 := by cases c0 <;> rfl
              have hl : headN c0 ≤ c0.getD j 0 := by
                rw [List.getD_eq_getElem?_getD, List.getElem?_eq_getElem (by omega), Option.getD_some]
                exact (Hway.out.2.2 _ (List.getElem_mem _)).2
              omega
            have hge2 : (ct[0]'hb0).toNat ≤ (ct[j]'hb1).toNat := by omega
            have q5 : ¬ st.toList = [48] := by rw [beq_eq_false_iff_ne] at q1; exact q1
            have q6 : ¬ st.toList = [] := by rw [beq_eq_false_iff_ne] at q2; exact q2
            have p0 : (0 : Int) < (sz : Int) := by omega
            have p00 : 0 < sz := by omega
            have p1 : (0 : Int) ≤ (j : Int) := by omega
            have p2 : (j : Int) < (sz : Int) := by omega
            have p3 : (0 : Int) ≤ (nx : Int) := by omega
            have p4 : (nx : Int) < (sz : Int) := by omega
            have H1 := Lib.hid h1
            have hmj5 := minusC_le N c0 j
            obtain ⟨mj, hmj⟩ : ∃ x, minusC N c0 j = x := ⟨_, rfl⟩
            obtain ⟨mk, hmk⟩ : ∃ x, minusC N c0 (j + 1) = x := ⟨_, rfl⟩
            obtain ⟨bj, hbj⟩ : ∃ x, bothC N c0 j = x := ⟨_, rfl⟩
            obtain ⟨bk, hbk⟩ : ∃ x, bothC N c0 (j + 1) = x := ⟨_, rfl⟩
            rw [hmj, hmk] at hma
            rw [hbj, hbk] at hba
            rw [hmj] at hmj5 ⊢
            rw [hbj]
            have HM := Lib.hid (And.intro (fun h : zc = 2 => (by rw [hma, if_pos h] : mk = mj + 1)) (fun h : ¬ zc = 2 => (by rw [hma, if_neg h]; rfl : mk = mj)))
            have HB := Lib.hid hba
            have hmk0 := Lib.hid hmk
            have hbk0 := Lib.hid hbk
            clear hpos hz3 hzc hst hcode hnxe h1 hj1 hma hba hmj hmk hbj hbk
            have hj1 : (j : Int) + 1 < (sz : Int) := by have := H1.out; omega
            go_wp2_with fail
            go_region_held3 (fun _ => True)
              (first | trivial)
              (first
                | (go_at_call 11; with_reducible refine Calls.mono (cc.out _) ?_; rintro e w8 ⟨hW8, rfl⟩))
            all_goals
              go_wp2_with fail
              (refine wp_region_quiet_lit (by kernel_rfl) (by kernel_rfl) ?_; (repeat ((with_reducible refine wpQuiet_step ?_); intro K hK; go_simp; first | ((with_reducible refine hK _ ?_); clear hK K) | (rw [if_neg (by decide)]; (with_reducible refine hK _ ?_); clear hK K) | (apply Exists.intro; refine ⟨fun _ => ?_, hK _ ?_⟩; (fail); clear hK K))); (with_reducible refine wpQuiet_nil ?_); intro _ hw'; obtain ⟨nq, hw''⟩ := hw'; subst hw'')
              cases bj
              all_goals
                by_cases z2 : zc = 2
                · rw [decide_eq_true z2] at q4
                  have M := (HM.out.1 z2)
                  clear z2 HM
                  subst M
                  go_wp2_with fail
                  go_roundw
                  case rel => exact ⟨j + 1, by omega, by rw [hmk0.out]; go_num, by rw [hbk0.out, HB.out]; first | rfl | simp, by go_num, hWi.trans ((below_drewN (((Below.refl wr.heap.size wr).drew).trans hW8) _).mono hWi.size)⟩
                  case measure => simp [intOf] <;> omega
                · rw [decide_eq_false z2] at q4
                  have M := (HM.out.2 z2)
                  clear z2 HM
                  subst M
                  go_wp2_with fail
                  go_roundw
                  case rel => exact ⟨j + 1, by omega, by rw [hmk0.out], by rw [hbk0.out, HB.out]; first | rfl | simp, by go_num, hWi.trans ((below_drewN (((Below.refl wr.heap.size wr).drew).trans hW8) _).mono hWi.size)⟩
                  case measure => simp [intOf] <;> omega
          · obtain rfl : j = m := by omega
            have hj1 : ¬ (j : Int) + 1 < (sz : Int) := by omega
            have h2 := H2.out
            rw [show sz - 1 = j by omega, show sz = j + 1 by omega] at h2
            cases hbv : bothC N c0 j
            · rw [hbv, if_neg (by decide)] at h2
              have F1 : ((ct.extract j (j + 1)).toList == ((⟨#[43, 45]⟩ : ByteArray).extract (minusC N c0 j % 2) (minusC N c0 j % 2 + 1)).toList) = true := by
                rw [beq_iff_eq, h2, plus_cut _ (Nat.mod_lt _ (by decide))]
              have F2 := F1
              rw [beq_iff_eq] at F2
              clear hbv h2
              go_wp2_with fail
              go_roundw
              case rel => exact ⟨k + 1, by omega, by go_num, hWr.trans (hWi.mono (by omega))⟩
              case measure => simp [intOf] <;> omega
            · rw [hbv, if_pos rfl] at h2
              have F1 : ((ct.extract j (j + 1)).toList == [42]) = true := by
                rw [beq_iff_eq, h2, ByteArray.toList_eq]; rfl
              have F2 := F1
              rw [beq_iff_eq] at F2
              clear hbv h2
              go_wp2_with fail
              go_roundw
              case rel => exact ⟨k + 1, by omega, by go_num, hWr.trans (hWi.mono (by omega))⟩
              case measure => simp [intOf] <;> omega
      · obtain rfl : k = X.length := by omega
        have hw2 : ¬ ((X.length : Int) < (X.length : Int)) := by omega
        have zz : (((X.length : Int) == 0) == ((X.length : Int) == 0)) = true := by simp
        go_wp2_with fail
        refine (D2.out _).mono ?_
        rintro e w8 ⟨hW8, a8, q8, rfl, hT8⟩
        have hW8s := hW8.size
        have cS := Lib.hid (bnTexts_any _ _ a8 a2 q8 p2 X w8 hT8 ((HT7.out.below hWr).below hW8) (by omega))
        clear hT8
        go_wp2_with fail
        refine cS.out.mono ?_
        rintro e w9 ⟨hW9, rfl⟩
        go_wp2_with fail
        refine (cF.out _).mono ?_
        rintro e w10 ⟨hW10, rfl⟩
        have k9 := hW9.size
        have hB10 := (((HB7.out.trans (hWr.mono HB7.out.size)).trans (hW8.mono (by omega))).trans (hW9.mono (by omega))).trans (hW10.mono (by omega))
        go_wp2_with fail
        go_ret
        exact ⟨hB10, by first | rfl | simp⟩
end Go.Proofs.YtifallippecdmaaGreatDoor
