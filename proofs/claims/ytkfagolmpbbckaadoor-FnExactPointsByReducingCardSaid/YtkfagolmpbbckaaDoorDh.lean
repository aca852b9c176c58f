/- The reference's draws of networks that are mostly monotone. -/
import Derived.Test.YtkfagolmpbbckaaDoorMa
namespace Go.Proofs.YtkfagolmpbbckaaDoor
open Go Go.RowKit Go.Sw
set_option maxRecDepth 100000
set_option linter.unusedVariables false

/-- n times one byte -/
def repT (c : UInt8) (n : Nat) : ByteArray := bs (List.replicate n c)
theorem repT_size (c : UInt8) (n : Nat) : (repT c n).size = n := by simp [repT]
theorem repT_add (c : UInt8) (a b : Nat) : repT c a ++ repT c b = repT c (a + b) := by
  apply ba_ext
  simp [repT, List.replicate_append_replicate]
theorem many_any (c : UInt8) (N : Nat) (hN : N ≤ 32) (w : World) :
    Calls Tryd.prog 204 #[.string (repT c 1), .int .i64 N] w fun e w' => e = .returned (.string (repT c N)) ∧ w = w' := by
  go_enter Tryd.func204, Tryd.ntmps204
  go_wp2_with fail
  go_loop [0, 1, 5] (fun s n out => ∃ a b m : Nat, s = .string (repT c b) ∧ n = .int .i64 m ∧ out = .string (repT c a) ∧ m ≤ 32 ∧ (m = 0 → a = N) ∧ (0 < m → a + b * m = N) ∧ b ≤ 64 ∧ a ≤ 32 ∧ (0 < m → b ≤ 32)) (fun _ n _ => (intOf n).toNat)
  case atStart => exact ⟨0, 1, N, rfl, rfl, rfl, hN, fun h => by omega, fun _ => by omega, by omega, by omega, fun _ => by omega⟩
  case round =>
    obtain ⟨a, b, m, rfl, rfl, rfl, hm, h0, h1, hb, ha, hb2⟩ := hrel
    have hsa := repT_size c a
    have hsb := repT_size c b
    by_cases hp : 0 < m
    · have h2 := h1 hp
      have hb3 := hb2 hp
      have hpi : (0 : Int) < (m : Int) := by omega
      have emod : (m : Int).tmod 2 = ((m % 2 : Nat) : Int) := (Int.ofNat_tmod m 2).symm
      have emod2 : (m : Int) % 2 = ((m % 2 : Nat) : Int) := by omega
      have ediv : (m : Int).tdiv 2 = ((m / 2 : Nat) : Int) := (Int.ofNat_tdiv m 2).symm
      have ediv2 : (m : Int) / 2 = ((m / 2 : Nat) : Int) := by omega
      have hbm : b * m = 2 * (b * (m / 2)) + b * (m % 2) := by
        have : m = 2 * (m / 2) + m % 2 := by omega
        calc b * m = b * (2 * (m / 2) + m % 2) := by rw [← this]
          _ = _ := by rw [Nat.mul_add, Nat.mul_left_comm]
      have hdb : (b + b) * (m / 2) = 2 * (b * (m / 2)) := by rw [Nat.add_mul]; omega
      have add1 := repT_add c a b
      have add2 := repT_add c b b
      have hle2 : m / 2 ≤ 16 := by omega
      have hhalf : 0 < m / 2 → b ≤ 16 := fun h => by
        have : b * 1 ≤ b * (m / 2) := Nat.mul_le_mul_left b h
        have h3 : b * m ≤ 32 := by
          have : a + b * m ≤ 32 := by rw [h2]; exact hN
          omega
        omega
      by_cases ho : m % 2 = 1
      · have hodd : (((m % 2 : Nat) : Int) == 1) = true := by rw [ho]; rfl
        have hb4 : b * (m % 2) = b := by rw [ho, Nat.mul_one]
        have hanew : a + b ≤ 32 := by omega
        obtain ⟨q, hq⟩ : ∃ q, m / 2 = q := ⟨_, rfl⟩
        obtain ⟨r, hr⟩ : ∃ q, m % 2 = q := ⟨_, rfl⟩
        obtain ⟨sa, hsa0⟩ : ∃ x, repT c a = x := ⟨_, rfl⟩
        obtain ⟨sb, hsb0⟩ : ∃ x, repT c b = x := ⟨_, rfl⟩
        rw [hsa0] at hsa add1
        rw [hsb0] at hsb add1 add2
        rw [hsa0, hsb0]
        rw [hq] at ediv ediv2 hbm hdb hhalf hle2
        rw [hr] at emod emod2 hodd
        have hfin : (q = 0 → a + b = N) ∧ (0 < q → (a + b) + (b + b) * q = N) := by
          constructor
          · intro h; subst h; simp at hbm hdb; omega
          · intro h; omega
        have Hfin := Lib.hid hfin
        have A1 := Lib.hid add1
        have A2 := Lib.hid add2
        have hsum1 : sa.size + sb.size ≤ 200 := by omega
        have hsum2 : sb.size + sb.size ≤ 200 := by omega
        have hqm : q < m := by omega
        clear hq hr hsa0 hsb0 add1 add2 hfin hbm hdb ho hsa hsb h0 h1 h2
        go_wp2_with fail
        go_round
        case rel => exact ⟨a + b, b + b, q, by rw [A2.out], by first | rfl | go_num, by rw [A1.out], by omega, Hfin.out.1, Hfin.out.2, by omega, hanew, fun h => by have := hhalf h; omega⟩
        case measure => simp [intOf] <;> omega
      · have ho2 : m % 2 = 0 := by omega
        have hodd : (((m % 2 : Nat) : Int) == 1) = false := by rw [ho2]; rfl
        have hb4 : b * (m % 2) = 0 := by rw [ho2, Nat.mul_zero]
        obtain ⟨q, hq⟩ : ∃ q, m / 2 = q := ⟨_, rfl⟩
        obtain ⟨r, hr⟩ : ∃ q, m % 2 = q := ⟨_, rfl⟩
        obtain ⟨sb, hsb0⟩ : ∃ x, repT c b = x := ⟨_, rfl⟩
        rw [hsb0] at hsb add2
        rw [hsb0]
        have hq0 : 0 < q := by omega
        rw [hq] at ediv ediv2 hbm hdb hhalf hle2
        rw [hr] at emod emod2 hodd
        have hfin : 0 < q → a + (b + b) * q = N := by intro h; omega
        have Hfin := Lib.hid hfin
        have A2 := Lib.hid add2
        have hsum2 : sb.size + sb.size ≤ 200 := by omega
        have hqm : q < m := by omega
        clear hq hr hsb0 add1 add2 hfin hbm hdb ho ho2 hsa hsb h0 h1 h2
        go_wp2_with fail
        go_round
        case rel => exact ⟨a, b + b, q, by rw [A2.out], by first | rfl | go_num, rfl, by omega, fun h => by omega, Hfin.out, by omega, ha, fun h => by have := hhalf h; omega⟩
        case measure => simp [intOf] <;> omega
    · have hmz : m = 0 := by omega
      have haN := h0 hmz
      subst haN
      clear h0 h1 hmz
      go_wp2_with fail
      go_ret
      exact ⟨rfl, rfl⟩
theorem l1Value_any (b : Bool) (w : World) : Calls Tryd.prog 203 #[.int .i64 ((b.toNat : Nat) : Int)] w fun e w' => e = .returned (.bool true) ∧ w = w' := by
  cases b
  all_goals
    go_enter Tryd.func203, Tryd.ntmps203
    go_wp2_with fail
    go_ret
    exact ⟨rfl, rfl⟩
theorem rep_tab (n : Nat) (b : Bool) : repT (if b then 49 else 48) (pw n) = tabText n fun _ => b := by
  apply ba_ext
  simp [repT, tabText, List.map_const']
theorem const_any (n : Nat) (b : Bool) (h1 : 1 ≤ n) (hn : n ≤ 5) (w : World) :
    Calls Tryd.prog 169 #[.int .i64 n, .int .i64 ((b.toNat : Nat) : Int)] w fun e w' => e = .returned (.tuple #[.string (tabText n fun _ => b), .bool true]) ∧ w = w' := by
  have hp := pw_le hn
  have h2 := pow2_le n hn
  have hpc := pw_cast n
  have a1 : inI n 1 5 = true := by unfold inI; simp; omega
  have A1 := Lib.hid a1
  have cV := Lib.hid (l1Value_any b w)
  have cM := Lib.hid (many_any (if b then 49 else 48) (pw n) hp.2 w)
  have hr := rep_tab n b
  rw [hr] at cM
  have hs : (⟨#[48, 49]⟩ : ByteArray).extract b.toNat (b.toNat + 1) = repT (if b then 49 else 48) 1 := by cases b <;> decide +kernel
  obtain ⟨o, ho⟩ : ∃ o, repT (if b then 49 else 48) 1 = o := ⟨_, rfl⟩
  rw [ho] at cM hs
  obtain ⟨tb, htb⟩ : ∃ o, tabText n (fun _ => b) = o := ⟨_, rfl⟩
  rw [htb] at cM ⊢
  clear a1 hr ho htb
  cases b
  all_goals
    simp only [Bool.toNat_true, Bool.toNat_false, Nat.zero_add, Nat.reduceAdd] at hs cV ⊢
    have Hs := Lib.hid hs
    clear hs
    go_enter Tryd.func169, Tryd.ntmps169
    go_wp2_with fail
    refine (l1In_b _ _ _ _ A1.out _).mono ?_
    rintro e w' ⟨rfl, rfl⟩
    go_wp2_with fail
    refine cV.out.mono ?_
    rintro e w' ⟨rfl, rfl⟩
    have hs2 := Hs.out
    go_wp2_with fail
    refine cM.out.mono ?_
    rintro e w' ⟨rfl, rfl⟩
    go_wp2_with fail
    go_ret2
    exact ⟨rfl, rfl⟩
set_option maxHeartbeats 1000000 in
theorem l8Rule_any (r m n : Nat) (h1 : 1 ≤ n) (hn : n ≤ 5) (hm : m ≤ 800000) (w : World) (h : Rd w r m) :
    Calls Tryd.prog 132 #[.pointer (some ⟨r, 0, none⟩), .int .i64 n] w fun e w' => TbAt w w' r (m + 20) n e := by
  have hrw := h.lt
  have C := Lib.hid (fun (wx : World) (m' k : Nat) (hx : Rd wx r m') (h1 : m' ≤ 1000000) (h2 : k ≤ 2000000) => pick_any r m' k h1 h2 wx hx)
  have cI := Lib.hid (fun (i : Nat) (hi : i < n) (wx : World) => inputTable_any n i h1 hn hi wx)
  have cA := Lib.hid (fun (f g : Nat → Bool) (wx : World) => andTables_any n f g h1 hn wx)
  have cO := Lib.hid (fun (f g : Nat → Bool) (wx : World) => orTables_any n f g h1 hn wx)
  have c0 := Lib.hid (pick_any r m 2 (by omega) (by omega) w h)
  clear h
  go_enter Tryd.func132, Tryd.ntmps132
  go_wp2_with fail
  refine c0.out.mono ?_
  rintro e w1 ⟨hD1, hR1, b0, rfl, _, hb0⟩
  obtain ⟨b, rfl⟩ := nat_bool (hb0 (by omega))
  have cC := Lib.hid (const_any n b h1 hn w1)
  have HD1 := Lib.hid hD1
  have HR1 := Lib.hid hR1
  clear hD1 hR1 hb0
  go_wp2_with fail
  refine cC.out.mono ?_
  rintro e w' ⟨rfl, rfl⟩
  go_wp2_with fail
  refine (C.out w1 _ 3 HR1.out (by omega) (by omega)).mono ?_
  rintro e w2 ⟨hD2, hR2, k0, rfl, hk0, _⟩
  have HD2 := Lib.hid (HD1.out.trans hD2)
  have HR2 := Lib.hid hR2
  clear hD2 hR2
  go_wp2_with fail
  go_loopw [5, 7, 8, 9] (fun f k _ _ wr => ∃ (q : Nat) (F : Nat → Bool) (m' : Nat), k = .int .i64 q ∧ f = .string (tabText n F) ∧ q ≤ 3 ∧ m' + 5 * q ≤ m + 20 ∧ Drw w wr r ∧ Rd wr r m') (fun _ k _ _ _ => (intOf k).toNat)
  case atStart => exact ⟨k0, _, m + 1 + 1, rfl, rfl, hk0, by omega, HD2.out, HR2.out⟩
  case round =>
    obtain ⟨q, F, m', rfl, rfl, hq, hmm, hD, hR⟩ := hrel
    have HD := Lib.hid hD
    have HR := Lib.hid hR
    clear hD hR
    by_cases hlt : 0 < q
    · have hlti : (0 : Int) < (q : Int) := by omega
      obtain ⟨ft, hft⟩ : ∃ x, tabText n F = x := ⟨_, rfl⟩
      have cA1 := fun g wx => cA.out F g wx
      have cO1 := fun g wx => cO.out F g wx
      rw [hft] at cA1 cO1 ⊢
      have CA := Lib.hid cA1
      have CO := Lib.hid cO1
      clear hft cA1 cO1
      go_wp2_with fail
      refine (C.out wr m' n HR.out (by omega) (by omega)).mono ?_
      rintro e w3 ⟨hD3, hR3, i, rfl, _, hi⟩
      have hi := hi (by omega)
      have HD3 := Lib.hid (HD.out.trans hD3)
      have HR3 := Lib.hid hR3
      have hs3 := HD3.out.size
      clear hD3 hR3
      go_wp2_with fail
      refine (cI.out i hi w3).mono ?_
      rintro e w4 ⟨hW4, rfl⟩
      have HD4 := Lib.hid (HD3.out.below hW4 hs3)
      have HR4 := Lib.hid (HR3.out.below hW4 HR3.out.lt)
      obtain ⟨g0, hg0⟩ : ∃ f : Nat → Bool, (fun s : Nat => s.testBit i) = f := ⟨_, rfl⟩
      rw [hg0]
      have CA2 := Lib.hid (fun wx => CA.out g0 wx)
      have CO2 := Lib.hid (fun wx => CO.out g0 wx)
      obtain ⟨gt, hgt⟩ : ∃ x, tabText n g0 = x := ⟨_, rfl⟩
      rw [hgt] at CA2 CO2 ⊢
      clear hW4 hg0 hgt
      go_wp2_with fail
      refine (C.out w4 _ 2 HR4.out (by omega) (by omega)).mono ?_
      rintro e w5 ⟨hD5, hR5, c2, rfl, _, _⟩
      have HD5 := Lib.hid (HD4.out.trans hD5)
      have HR5 := Lib.hid hR5
      have hs5 := HD5.out.size
      clear hD5 hR5
      by_cases hc : c2 = 0
      · have e0 : ((c2 : Int) == 0) = true := by rw [beq_iff_eq]; omega
        clear hc
        go_wp2_with fail
        refine (CA2.out w5).mono ?_
        rintro e w6 ⟨hW6, rfl⟩
        have HD6 := Lib.hid (HD5.out.below hW6 hs5)
        have HR6 := Lib.hid (HR5.out.below hW6 HR5.out.lt)
        clear hW6
        go_wp2_with fail
        go_roundw
        case rel => exact ⟨q - 1, _, m' + 1 + 1, by first | go_num | (congr 1; omega), rfl, by omega, by omega, HD6.out, HR6.out⟩
        case measure => simp [intOf] <;> omega
      · have e0 : ((c2 : Int) == 0) = false := by rw [beq_eq_false_iff_ne]; omega
        clear hc
        go_wp2_with fail
        refine (CO2.out w5).mono ?_
        rintro e w6 ⟨hW6, rfl⟩
        have HD6 := Lib.hid (HD5.out.below hW6 hs5)
        have HR6 := Lib.hid (HR5.out.below hW6 HR5.out.lt)
        clear hW6
        go_wp2_with fail
        go_roundw
        case rel => exact ⟨q - 1, _, m' + 1 + 1, by first | go_num | (congr 1; omega), rfl, by omega, by omega, HD6.out, HR6.out⟩
        case measure => simp [intOf] <;> omega
    · go_wp2_with fail
      go_ret
      exact ⟨HD.out, HR.out.more (by omega), F, rfl⟩
set_option maxHeartbeats 1000000 in
theorem l8Draw_any (r m : Nat) (hm : m ≤ 500000) (w : World) (h : Rd w r m) :
    Calls Tryd.prog 80 #[.pointer (some ⟨r, 0, none⟩)] w fun e w' => TxAt w w' r (m + 400) 1100 e := by
  have C := Lib.hid (pick_any r m 6 (by omega) (by omega) w h)
  clear h
  go_enter Tryd.func80, Tryd.ntmps80
  go_wp2_with fail
  refine C.out.mono ?_
  rintro e w0 ⟨hD0, hR0, c6, rfl, _, _⟩
  have HD0 := Lib.hid hD0
  have HR0 := Lib.hid hR0
  clear hD0 hR0
  by_cases h3 : c6 = 0
  · have e3 : ((c6 : Int) == 0) = true := by rw [beq_iff_eq]; omega
    have cS := Lib.hid (l7Open_any r (m + 1) (by omega) w0 HR0.out)
    clear h3
    go_wp2_with fail
    refine cS.out.mono ?_
    rintro e w2 ⟨hD2, hR2, t, ht, rfl⟩
    go_wp2_with fail
    go_ret
    exact ⟨HD0.out.trans hD2, hR2.more (by omega), t, ht, rfl⟩
  · have e3 : ((c6 : Int) == 0) = false := by rw [beq_eq_false_iff_ne]; omega
    clear h3
    go_wp2_with ((with_reducible show wpList _ _ _ (⟨_, .buildSlice 26 5 _, _, _, _, _⟩ :: _) _ _); refine wpList_buildSlice' rfl _ _ _ rfl rfl (ints_built5 _ _ _ _ _ _) ?_)
    refine (num5_any (fun v => 1 ≤ v ∧ v ≤ 5) r _ _ _ _ _ _ (by omega) w0 HR0.out (by decide) (by decide) (by decide) (by decide) (by decide)).mono ?_
    rintro e w1 ⟨hD1, hR1, v, hv, rfl⟩
    obtain ⟨n, rfl⟩ : ∃ k : Nat, v = (k : Int) := ⟨v.toNat, by omega⟩
    have h1 : 1 ≤ n := by omega
    have hn : n ≤ 5 := by omega
    have HD1 := Lib.hid (HD0.out.trans hD1)
    have HR1 := Lib.hid hR1
    have hrw := hR1.lt
    have cL := Lib.hid (fun (wx : World) (m' : Nat) (hx : Rd wx r m') (h2 : m' ≤ 800000) => l8Rule_any r m' n h1 hn h2 wx hx)
    clear hv hD1 hR1
    go_wp2_with ((with_reducible show wpList _ _ _ (⟨_, .buildSlice 41 0 _, _, _, _, _⟩ :: _) _ _); refine wpList_buildSlice' rfl _ _ _ rfl rfl (str_none _) ?_)
    go_loopw [4, 5] (fun out s wr => ∃ (k : Nat) (F : Nat → Nat → Bool), k ≤ n ∧ s = .int .i64 k ∧ L3D w1 wr r (m + 2 + 20 * k) n k out F) (fun _ s _ => n - (intOf s).toNat)
    case atStart => exact ⟨0, fun _ _ => false, Nat.zero_le _, rfl, World.ownsRow_made w1 #[] 0 (Nat.le_refl _) (by unfold maxLen; omega) rfl, (Drw.refl _ _).below ((Below.refl _ _).alloc (Nat.le_refl _) _) (Nat.le_refl _), HR1.out.alloc _⟩
    case round =>
      obtain ⟨k, F, hk, rfl, hL⟩ := hrel
      have HL := Lib.hid hL
      have hws := hL.drw.size
      clear hL
      have hbl : (tabsL n k F).length ≤ 5 := by rw [tabsL_length]; omega
      by_cases hlt : k < n
      · go_wp2_with fail
        refine (cL.out wr _ HL.out.rd (by omega)).mono ?_
        rintro e w5 ⟨hD5, hR5, f, rfl⟩
        have HL5 := Lib.hid (HL.out.step hrw hD5 hR5)
        have hws5 := hD5.size
        clear hD5 hR5
        obtain ⟨tt, htt⟩ : ∃ t, tabText n f = t := ⟨_, rfl⟩
        have Hput := Lib.hid (tabsL_put n k F f)
        rw [htt] at Hput ⊢
        clear htt
        go_wp2_with (first | ((with_reducible show wpList _ _ _ (⟨_, .buildSlice 41 1 _, _, _, _, _⟩ :: _) _ _); refine wpList_buildSlice' rfl _ _ _ rfl rfl (str_one _ _) ?_) | (at_builtin; refine wpList_text_appendK rfl _ _ rfl w1.heap.size _ (tabsL n k F) rfl ((HL5.out.own.alloc _)) _ _ rfl (cell_new ?_) (by omega) ((Below.refl w1.heap.size w5).alloc (by omega) _) ?_ ?_ ?_))
        · first | rfl | simp
        · exact Nat.le_refl _
        · first | omega | (simp; omega)
        · intro v' w6 hown6 hB6 _
          have Hf := Lib.hid (show L3D w1 w6 r (m + 2 + 20 * (k + 1)) n (k + 1) v' (fun i => if i = k then f else F i) from
            ⟨by rw [Hput.out, List.length_append]; exact hown6, HL5.out.drw.below hB6 (Nat.le_refl _), (HL5.out.rd.below hB6 hrw).more (by omega)⟩)
          clear hown6 hB6
          go_wp2_with fail
          go_roundw
          case rel => exact ⟨k + 1, _, by omega, by go_num, Hf.out⟩
          case measure => simp [intOf] <;> omega
      · obtain rfl : k = n := by omega
        obtain ⟨b, cap, rfl, _, _⟩ := own_slice HL.out.own (by rw [tabsL_length]; omega)
        have hcells : StrsAt wr b (tabsL k k F) := strsAt_of_own HL.out.own
        have hsz : ∀ p ∈ tabsL k k F, p.size ≤ 64 := fun p hp => by
          obtain ⟨i, _, rfl⟩ := List.mem_map.1 hp
          rw [tabText_size]; have := pw_le hn; omega
        have cT := Lib.hid (l3Text_any b cap (tabsL k k F) (by omega) hsz wr hcells)
        have hfin : netText ⟨k, F⟩ = bs (joinL ((tabsL k k F).map (·.data.toList))) := rfl
        rw [← hfin] at cT
        have Hz := Lib.hid (netText_size (N := ⟨k, F⟩) hn)
        clear hcells hsz hfin
        go_wp2_with fail
        refine cT.out.mono ?_
        rintro e w5 ⟨rfl, rfl⟩
        go_wp2_with fail
        go_ret
        exact ⟨HD1.out.trans HL.out.drw, HL.out.rd.more (by omega), _, Nat.le_trans Hz.out (by omega), rfl⟩
end Go.Proofs.YtkfagolmpbbckaaDoor
