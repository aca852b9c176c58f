/- The statement's smallest breaking sets. -/
import Derived.Test.YtkfagolmpbbckaaGreatDoorSpecI
import Derived.Test.YtkfagolmpbbckaaGreatDoorP2
namespace Go.Proofs.YtkfagolmpbbckaaGreatDoor
open Go Go.RowKit Go.Sw
set_option maxRecDepth 100000
set_option linter.unusedVariables false

def onesTo (s : Nat) : Nat → Nat
  | 0 => 0
  | k + 1 => onesTo s k + (s.testBit k).toNat
theorem onesTo_five (s : Nat) : onesTo s 5 = onesN s := by simp [onesTo, onesN]
theorem onesTo_le (s k : Nat) : onesTo s k ≤ k := by
  induction k with
  | zero => exact Nat.le_refl _
  | succ k ih =>
    rw [onesTo]
    cases s.testBit k <;> simp <;> omega
theorem l7Size_any (s : Nat) (hs : s < 32) (w : World) :
    Calls Tryz.prog 76 #[.int .i64 s] w fun e w' => e = .returned (.int .i64 (onesN s : Nat)) ∧ w = w' := by
  have h5 := Lib.hid (onesTo_five s)
  go_enter Tryz.func76, Tryz.ntmps76
  go_wp2_with fail
  go_loopw [3, 4] (fun n i wr => ∃ k : Nat, k ≤ 5 ∧ i = .int .i64 k ∧ n = .int .i64 ((onesTo s k : Nat) : Int) ∧ w = wr) (fun _ i _ => 5 - (intOf i).toNat)
  case atStart => exact ⟨0, Nat.zero_le _, rfl, rfl, rfl⟩
  case round =>
    obtain ⟨k, hk, rfl, rfl, rfl⟩ := hrel
    have hle := onesTo_le s k
    by_cases hlt : k < 5
    · have hnx := Lib.hid (show onesTo s (k + 1) = onesTo s k + (s.testBit k).toNat from rfl)
      have c := fun wx => l1Bit_any s k (by omega) (by omega) wx
      obtain ⟨o, ho⟩ : ∃ o, onesTo s k = o := ⟨_, rfl⟩
      rw [ho] at hle ⊢
      have Ho := Lib.hid ho
      cases hb : s.testBit k <;> rw [hb] at c
      all_goals
        have C := Lib.hid c
        have Hb := Lib.hid hb
        clear c hb ho
        go_wp2_with fail
        refine (C.out _).mono ?_
        rintro e w' ⟨rfl, rfl⟩
        go_wp2_with fail
        go_roundw
        case rel => exact ⟨k + 1, by omega, by go_num, by rw [hnx.out, Ho.out, Hb.out]; go_num, by trivial⟩
        case measure => simp [intOf] <;> omega
    · obtain rfl : k = 5 := by omega
      rw [h5.out]
      go_wp2_with fail
      go_ret
      exact ⟨rfl, rfl⟩
theorem circT_at (N : Net) (c : List Nat) (hc : ∀ k ∈ c, k < 10) (k : Nat) (hk : k < c.length) : ∃ h : k < (circT N c).size, ((circT N c)[k].toNat : Int) - 48 = (c[k] : Int) := by
  have h : k < (circT N c).size := by rw [circT_size]; omega
  refine ⟨h, ?_⟩
  rw [← Sw.byte_at (circT N c) k h]
  have h2 : k < (digT c).length := by simp [digT]; exact hk
  have : (circT N c).data.toList = digT c ++ [signT (circC N c)] := bs_data _
  have h3 : (circT N c).data.toList[k]'(by simpa using h) = UInt8.ofNat (48 + c[k]) := by
    have : (circT N c).data.toList[k]? = some (UInt8.ofNat (48 + c[k])) := by
      rw [this, List.getElem?_append_left h2]; simp [digT, hk]
    rw [List.getElem?_eq_getElem (by simpa using h)] at this
    simpa using this
  rw [h3, UInt8.toNat_ofNat']
  have := hc _ (List.getElem_mem hk)
  omega
def hitTo (set : Nat) (h0 : Bool) (c : List Nat) (k : Nat) : Bool := h0 || (c.take k).any fun j => set.testBit j
theorem hitTo_succ (set : Nat) (h0 : Bool) (c : List Nat) (k : Nat) (hk : k < c.length) : hitTo set h0 c (k + 1) = (hitTo set h0 c k || set.testBit c[k]) := by
  unfold hitTo
  rw [List.take_succ_eq_append_getElem hk, List.any_append, Bool.or_assoc]; simp
theorem hitTo_end (N : Net) (sign : ByteArray) (set : Nat) (c : List Nat) : hitTo set (!isC (circC N c) sign) c c.length = !missB N sign set c := by
  unfold hitTo missB
  rw [List.take_length, meet_zero]
  cases isC (circC N c) sign <;> simp
set_option maxHeartbeats 1000000 in
theorem l7Breaks_any (B : Nat) (a : Option Addr) (cap : Nat) (N : Net) (hn : N.n ≤ 5) (sign : ByteArray) (set : Nat) (hset : set < 32) (w : World) (hT : TextsAt w B a ((circL N).map (circT N))) :
    Calls Tryz.prog 75 #[.slice a (circL N).length cap, .string sign, .int .i64 set] w fun e w' => e = .returned (.bool (brB N sign set)) ∧ w = w' := by
  have HT := Lib.hid hT
  have hlen := circL_length hn
  have hsnd : ∀ c ∈ circL N, c.length ≤ 5 ∧ ∀ k ∈ c, k < 10 := fun c hc => by
    have h1 := (circ_sound hc).1
    have := h1.length
    exact ⟨by omega, fun k hk => by have := (h1.2.2 k hk).1; omega⟩
  have hbr : brB N sign set = !(circL N).any (missB N sign set) := rfl
  obtain ⟨cs, hcs⟩ : ∃ cs, circL N = cs := ⟨_, rfl⟩
  rw [hcs] at HT hlen hsnd hbr ⊢
  have Hsnd := Lib.hid hsnd
  have Hbr := Lib.hid hbr
  clear hT hcs hsnd hbr
  go_enter Tryz.func75, Tryz.ntmps75
  go_wp2_with fail
  go_loopw [7, 8, 9] (fun i _ _ wr => ∃ m : Nat, m ≤ cs.length ∧ i = .int .i64 m ∧ (∀ j (hj : j < cs.length), j < m → missB N sign set cs[j] = false) ∧ w = wr) (fun i _ _ _ => cs.length - (intOf i).toNat)
  case atStart => exact ⟨0, Nat.zero_le _, rfl, fun _ _ h => absurd h (Nat.not_lt_zero _), rfl⟩
  case round =>
    obtain ⟨m, hm, rfl, hall, rfl⟩ := hrel
    have Hall := Lib.hid hall
    clear hall
    by_cases hlt : m < cs.length
    · obtain ⟨g, rfl, hcell⟩ := HT.out.cell (j := m) (by rw [List.length_map]; exact hlt)
      rw [List.getElem_map] at hcell
      obtain ⟨hcl, hcd⟩ := Hsnd.out cs[m] (List.getElem_mem hlt)
      have Hin := Lib.hid (fun hq : missB N sign set cs[m] = false => show ∀ j (hj : j < cs.length), j < m + 1 → missB N sign set cs[j] = false from fun j hj h => by
        by_cases e : j = m
        · subst e; exact hq
        · exact Hall.out j hj (by omega))
      have Hout := Lib.hid (fun hq : missB N sign set cs[m] = true => show brB N sign set = false by
        rw [Hbr.out, Bool.not_eq_false']
        exact List.any_eq_true.2 ⟨_, List.getElem_mem hlt, hq⟩)
      obtain ⟨c, hc⟩ : ∃ c, cs[m] = c := ⟨_, rfl⟩
      rw [hc] at hcell hcl hcd Hin Hout
      have c5 := Lib.hid (fun wx => l7Is_any N c hcl sign wx)
      have hat := Lib.hid (circT_at N c hcd)
      have hsz := circT_size N c
      have hend := Lib.hid (hitTo_end N sign set c)
      have hsuc := Lib.hid (fun k hk => hitTo_succ set (!isC (circC N c) sign) c k hk)
      have h0 := Lib.hid (show hitTo set (!isC (circC N c) sign) c 0 = !isC (circC N c) sign by simp [hitTo])
      have Hcd := Lib.hid (fun k (hk : k < c.length) => hcd _ (List.getElem_mem hk))
      obtain ⟨t, ht⟩ : ∃ t, circT N c = t := ⟨_, rfl⟩
      obtain ⟨q, hq⟩ : ∃ q, isC (circC N c) sign = q := ⟨_, rfl⟩
      rw [ht, hq] at c5
      rw [ht] at hat hcell hsz
      rw [hq] at hend hsuc h0
      clear ht hq hc hcd
      go_wp2_with fail
      refine (c5.out _).mono ?_
      rintro e w' ⟨rfl, rfl⟩
      go_wp2_with fail
      go_loopw [8, 9] (fun hit i wr => ∃ k : Nat, k ≤ c.length ∧ i = .int .i64 k ∧ hit = .bool (hitTo set (!q) c k) ∧ w = wr) (fun _ i _ => c.length - (intOf i).toNat)
      case atStart => exact ⟨0, Nat.zero_le _, rfl, by rw [h0.out], rfl⟩
      case round =>
        obtain ⟨k, hk, rfl, rfl, rfl⟩ := hrel
        by_cases hlt2 : k < c.length
        · obtain ⟨hks, hkb⟩ := hat.out k hlt2
          have hs2 := hsuc.out k hlt2
          have hck := Hcd.out k hlt2
          obtain ⟨x, hx⟩ : ∃ x, c[k] = x := ⟨_, rfl⟩
          rw [hx] at hkb hs2 hck
          have cb := fun wx => l1Bit_any set x (by omega) (by omega) wx
          obtain ⟨h, hh⟩ : ∃ h, hitTo set (!q) c k = h := ⟨_, rfl⟩
          rw [hh] at hs2 ⊢
          have Hx := Lib.hid hx
          clear hx hh
          cases h
          · rw [Bool.false_or] at hs2
            cases hb : set.testBit x <;> rw [hb] at cb hs2
            all_goals
              have Cb := Lib.hid cb
              have Hs2 := Lib.hid hs2
              clear cb hs2 hb
              go_wp2_with fail
              refine (Cb.out _).mono ?_
              rintro e w' ⟨rfl, rfl⟩
              go_wp2_with fail
              go_roundw
              case rel => exact ⟨k + 1, by omega, by go_num, by rw [Hs2.out], by trivial⟩
              case measure => simp [intOf] <;> omega
          · rw [Bool.true_or] at hs2
            have Hs2 := Lib.hid hs2
            clear cb hs2
            go_wp2_with fail
            go_roundw
            case rel => exact ⟨k + 1, by omega, by go_num, by rw [Hs2.out], by trivial⟩
            case measure => simp [intOf] <;> omega
        · obtain rfl : k = c.length := by omega
          rw [hend.out]
          obtain ⟨mi, hmi⟩ : ∃ mi, missB N sign set c = mi := ⟨_, rfl⟩
          rw [hmi] at Hin Hout ⊢
          clear hmi
          cases mi
          · have Hin2 := Lib.hid (Hin.out rfl)
            go_wp2_with fail
            go_roundw
            case rel => exact ⟨m + 1, by omega, by go_num, Hin2.out, by trivial⟩
            case measure => simp [intOf] <;> omega
          · have Hr := Lib.hid (Hout.out rfl)
            go_wp2_with fail
            go_ret
            exact ⟨by rw [Hr.out]; rfl, rfl⟩
    · have Hr := Lib.hid (show brB N sign set = true by
        rw [Hbr.out, Bool.not_eq_true', List.any_eq_false]
        intro c hc
        obtain ⟨j, hj, rfl⟩ := List.getElem_of_mem hc
        rw [Hall.out j hj (by omega)]; decide)
      go_wp2_with fail
      go_ret
      exact ⟨by rw [Hr.out]; rfl, rfl⟩
/-- the best of the sets from m on, as the statement finds it -/
def bestFrom (N : Net) (sign : ByteArray) (m b : Nat) : Prop := brB N sign b = true ∧ (m ≤ b ∨ b = pw N.n - 1) ∧ ∀ s, m ≤ s → s < pw N.n → brB N sign s = true → noWorse b s
theorem bestFrom_start (N : Net) (sign : ByteArray) : bestFrom N sign (pw N.n) (pw N.n - 1) := ⟨br_all sign, .inr rfl, fun s h1 h2 => by omega⟩
theorem bestFrom_skip {N : Net} {sign : ByteArray} {m b : Nat} (h : bestFrom N sign (m + 1) b) (hm : brB N sign m = false ∨ onesN b < onesN m) : bestFrom N sign m b := by
  obtain ⟨h1, h2, h3⟩ := h
  refine ⟨h1, by omega, fun s hs hlt hb => ?_⟩
  by_cases e : s = m
  · subst e
    rcases hm with hm | hm
    · rw [hb] at hm; cases hm
    · exact .inl hm
  · exact h3 s (by omega) hlt hb
theorem bestFrom_take {N : Net} {sign : ByteArray} {m b : Nat} (h : bestFrom N sign (m + 1) b) (hlt : m < pw N.n) (hm : brB N sign m = true) (ho : onesN m ≤ onesN b) : bestFrom N sign m m := by
  obtain ⟨h1, h2, h3⟩ := h
  refine ⟨hm, .inl (Nat.le_refl _), fun s hs hlt2 hb => ?_⟩
  by_cases e : s = m
  · subst e; exact .refl _
  · have := h3 s (by omega) hlt2 hb
    unfold noWorse at *
    omega
set_option maxHeartbeats 1000000 in
theorem breakingSet_spec (t sign : ByteArray) (w : World) (hs : t.size ≤ 1048576) (hs2 : sign.size ≤ 1048576) :
    Calls Tryz.prog 32 #[.string t, .string sign] w fun e w' => Below w.heap.size w w' ∧ e = .returned (.int .i64 (breakI t sign)) := by
  have cO := Lib.hid (l3Open_any t w hs)
  have cP := Lib.hid (fun wx => l7Plus_any sign wx)
  cases hok0 : netOk t
  · have hr : breakI t sign = -1 := breakI_no (.inl hok0)
    rw [hr]
    have Hok := Lib.hid hok0
    clear hr hok0
    go_enter Tryz.func32, Tryz.ntmps32
    go_wp2_with fail
    refine cO.out.mono ?_
    rintro e w1 ⟨hW1, ⟨hbad, v, rfl⟩ | ⟨hok, b, cap, rfl, hb1, hb2, hat⟩⟩
    · clear hbad
      go_wp2_with fail
      go_ret
      exact ⟨hW1, rfl⟩
    · rw [Hok.out] at hok; cases hok
  · have hn := netOf_ok hok0
    have hr : breakI t sign = if plusB sign then ((bestTo (netOf t) sign (pw (netOf t).n) : Nat) : Int) else -1 := by rw [breakI, hok0]; rfl
    obtain ⟨N, hN⟩ : ∃ N, netOf t = N := ⟨_, rfl⟩
    rw [hN] at hr hn cO
    have Hok := Lib.hid hok0
    obtain ⟨p, hp⟩ : ∃ p, plusB sign = p := ⟨_, rfl⟩
    rw [hp] at hr cP
    cases p
    · rw [hr]
      clear hr hok0 hp hN
      go_enter Tryz.func32, Tryz.ntmps32
      go_wp2_with fail
      refine cO.out.mono ?_
      rintro e w1 ⟨hW1, ⟨hbad, v, rfl⟩ | ⟨hok, b, cap, rfl, hb1, hb2, hat⟩⟩
      · rw [Hok.out] at hbad; cases hbad
      · clear hok hat
        go_wp2_with fail
        refine (cP.out _).mono ?_
        rintro e w' ⟨rfl, rfl⟩
        go_wp2_with fail
        go_ret
        exact ⟨hW1, rfl⟩
    · rw [if_pos rfl] at hr
      rw [hr]
      have hpw := pw_le hn.2
      clear hr hok0 hp hN
      go_enter Tryz.func32, Tryz.ntmps32
      go_wp2_with fail
      refine cO.out.mono ?_
      rintro e w1 ⟨hW1, ⟨hbad, v, rfl⟩ | ⟨hok, b, cap, rfl, hb1, hb2, hat⟩⟩
      · rw [Hok.out] at hbad; cases hbad
      · have cC := Lib.hid (l7Circuits_any b cap N hn.2 w1 hat hb2)
        have cA := Lib.hid (fun wx => l3All_any (some ⟨b, 0, none⟩) N.n cap hn.2 wx)
        clear hok hat
        go_wp2_with fail
        refine (cP.out _).mono ?_
        rintro e w' ⟨rfl, rfl⟩
        go_wp2_with fail
        refine cC.out.mono ?_
        rintro e w2 ⟨hW2, v, rfl, hv, hC⟩
        obtain ⟨a, cp, rfl, hcp, hT⟩ := textsAt_of_own hC
        have hl0 : (txC N N.n).length = (circL N).length := by rw [txC, List.length_map, circP_all]
        have hT2 : TextsAt w2 w1.heap.size a ((circL N).map (circT N)) := hT
        rw [hl0]
        have cB := Lib.hid (fun set (hset : set < 32) => l7Breaks_any w1.heap.size a cp N hn.2 sign set hset w2 hT2)
        clear hv hC hT hT2 hl0
        go_wp2_with fail
        refine (cA.out _).mono ?_
        rintro e w' ⟨rfl, rfl⟩
        go_wp2_with fail
        refine (cA.out _).mono ?_
        rintro e w' ⟨rfl, rfl⟩
        go_wp2_with fail
        go_loopw [8, 9] (fun best i wr => ∃ m be : Nat, m ≤ pw N.n ∧ i = .int .i64 ((m : Int) - 1) ∧ best = .int .i64 (be : Int) ∧ be < pw N.n ∧ bestFrom N sign m be ∧ w2 = wr) (fun _ i _ => (intOf i + 1).toNat)
        case atStart => exact ⟨pw N.n, pw N.n - 1, Nat.le_refl _, by rw [Int.natCast_sub hpw.1]; rfl, rfl, by omega, bestFrom_start N sign, rfl⟩
        case round =>
          obtain ⟨m, be, hm, rfl, rfl, hbe, hinv, rfl⟩ := hrel
          have Hinv := Lib.hid hinv
          clear hinv
          rcases m with _ | m
          · have Hr := Lib.hid (bestTo_end hn.2 sign Hinv.out.1 hbe fun s h => Hinv.out.2.2 s (Nat.zero_le _) h)
            go_wp2_with fail
            go_ret
            exact ⟨hW1.trans (hW2.mono hW1.size), by rw [← Hr.out]; rfl⟩
          · have em : (((m + 1 : Nat) : Int) - 1) = (m : Int) := by omega
            rw [em]
            have cB1 := cB.out m (by omega)
            have cZ1 := Lib.hid (fun wx => l7Size_any m (by omega) wx)
            have cZ2 := Lib.hid (fun wx => l7Size_any be (by omega) wx)
            have hpos : (0 : Int) ≤ (m : Int) := by omega
            cases hbr : brB N sign m <;> rw [hbr] at cB1
            · have Hs := Lib.hid (bestFrom_skip Hinv.out (.inl hbr))
              have CB := Lib.hid cB1
              clear cB1 hbr em
              go_wp2_with fail
              refine CB.out.mono ?_
              rintro e w' ⟨rfl, rfl⟩
              go_wp2_with fail
              go_roundw
              case rel => exact ⟨m, be, by omega, by go_num, rfl, hbe, Hs.out, by trivial⟩
              case measure => simp [intOf] <;> omega
            · have CB := Lib.hid cB1
              clear cB1 em
              by_cases ho : onesN m ≤ onesN be
              · have Hs := Lib.hid (bestFrom_take Hinv.out (by omega) hbr ho)
                have ho2 : ((onesN m : Nat) : Int) ≤ ((onesN be : Nat) : Int) := by omega
                obtain ⟨o1, ho1⟩ : ∃ o1, onesN m = o1 := ⟨_, rfl⟩
                obtain ⟨o2, ho3⟩ : ∃ o2, onesN be = o2 := ⟨_, rfl⟩
                rw [ho1] at cZ1 ho2
                rw [ho3] at cZ2 ho2
                clear hbr ho ho1 ho3
                go_wp2_with fail
                refine CB.out.mono ?_
                rintro e w' ⟨rfl, rfl⟩
                go_wp2_with fail
                refine (cZ1.out _).mono ?_
                rintro e w' ⟨rfl, rfl⟩
                go_wp2_with fail
                refine (cZ2.out _).mono ?_
                rintro e w' ⟨rfl, rfl⟩
                go_wp2_with fail
                go_roundw
                case rel => exact ⟨m, m, by omega, by go_num, rfl, by omega, Hs.out, by trivial⟩
                case measure => simp [intOf] <;> omega
              · have Hs := Lib.hid (bestFrom_skip Hinv.out (.inr (by omega)))
                have ho2 : ¬ ((onesN m : Nat) : Int) ≤ ((onesN be : Nat) : Int) := by omega
                obtain ⟨o1, ho1⟩ : ∃ o1, onesN m = o1 := ⟨_, rfl⟩
                obtain ⟨o2, ho3⟩ : ∃ o2, onesN be = o2 := ⟨_, rfl⟩
                rw [ho1] at cZ1 ho2
                rw [ho3] at cZ2 ho2
                clear hbr ho ho1 ho3
                go_wp2_with fail
                refine CB.out.mono ?_
                rintro e w' ⟨rfl, rfl⟩
                go_wp2_with fail
                refine (cZ1.out _).mono ?_
                rintro e w' ⟨rfl, rfl⟩
                go_wp2_with fail
                refine (cZ2.out _).mono ?_
                rintro e w' ⟨rfl, rfl⟩
                go_wp2_with fail
                go_roundw
                case rel => exact ⟨m, be, by omega, by go_num, rfl, hbe, Hs.out, by trivial⟩
                case measure => simp [intOf] <;> omega
end Go.Proofs.YtkfagolmpbbckaaGreatDoor
