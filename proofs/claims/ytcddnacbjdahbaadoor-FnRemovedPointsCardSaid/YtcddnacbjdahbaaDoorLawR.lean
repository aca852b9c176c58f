/- Walk of the law on the fixed points of what is left when a switch is removed. -/
import Derived.Test.YtcddnacbjdahbaaDoorLawQ
import Derived.Test.YtcddnacbjdahbaaDoorPh
import Derived.Deep.RegionHeld3
namespace Go.Proofs.YtcddnacbjdahbaaDoor
open Go Go.RowKit Go.Sw
set_option maxRecDepth 100000
set_option linter.unusedVariables false

theorem fixL_nodup (N : Net) : (fixL N).Nodup := pickL_nodup _ _
theorem fixL_eqv {N M : Net} (h : N.eqv M) : fixL N = fixL M := by
  unfold fixL
  rw [← h.1]
  exact pickL_congr fun s hs => by unfold fixB; rw [h.step hs]
theorem fixed_count {N : Net} {i : Nat} (hf : freeB N i = true) (hi : i < N.n) : (fixL N).length = (fixL (remN N i)).length := by
  have hrn : (remN N i).n = N.n - 1 := rfl
  apply Nat.le_antisymm
  · have := len_le (l := (fixL N).map fun s => dropN s i) (m := fixL (remN N i)) (nodup_map (fixL_nodup N) fun x hx y hy e => by
      obtain ⟨x1, x2⟩ := fixL_mem.1 hx
      obtain ⟨y1, y2⟩ := fixL_mem.1 hy
      rw [← (drop_point hf hi x1 x2).2, ← (drop_point hf hi y1 y2).2, e]) fun x hx => by
      obtain ⟨s, hs, rfl⟩ := List.mem_map.1 hx
      obtain ⟨s1, s2⟩ := fixL_mem.1 hs
      exact fixL_mem.2 ⟨dropN_lt hi s1, (drop_point hf hi s1 s2).1⟩
    rwa [List.length_map] at this
  · have := len_le (l := (fixL (remN N i)).map fun s => liftN N i s) (m := fixL N) (nodup_map (fixL_nodup _) fun x hx y hy e => by
      rw [← drop_lift N i x, ← drop_lift N i y, e]) fun x hx => by
      obtain ⟨s, hs, rfl⟩ := List.mem_map.1 hx
      obtain ⟨s1, s2⟩ := fixL_mem.1 hs
      exact fixL_mem.2 ⟨liftN_lt N i s hi s1, lift_point hf hi s1 s2⟩
    rwa [List.length_map] at this
set_option maxHeartbeats 2000000 in
theorem law_RemovedPoints (w : World) (a : Option Addr) (n c : Nat) (hc : c ≤ maxLen) (h : CodeAt w a n c) :
    Calls Tryd.prog 10 #[.slice a n c] w fun e w' => Below w.heap.size w w' ∧ e = .returned (.bool true) := by
  have hle := h.1
  have m0 : n ≤ 9223372036854775807 := by unfold maxLen at hc; omega
  have cD := Lib.hid (drawRemove_any a n c hc w h)
  clear h
  by_cases s0 : n ≤ 1048576
  case' neg =>
    go_enter Tryd.func10, Tryd.ntmps10
    go_wp2_with fail
    go_ret
    exact ⟨Below.refl _ _, rfl⟩
  go_enter Tryd.func10, Tryd.ntmps10
  go_wp2_with fail
  refine cD.out.mono ?_
  rintro e w1 ⟨hW1, t, i, ht, hi, rfl⟩
  have hW1s := hW1.size
  have c1 := Lib.hid (fun wx => removeSwitch_impl t i wx (by omega))
  have c2 := Lib.hid (fun wx => removeSwitch_spec t i wx (by omega))
  have hyes := Lib.hid (fun h : remB t i = true => remB_yes h)
  have hrt := Lib.hid (fun h : remB t i = true => show remT t i = netText (remN (netOf t) i.toNat) by rw [remT, h]; rfl)
  have e2 : (remB t i != remB t i) = false := by simp
  obtain ⟨rt, hrt0⟩ : ∃ x, remT t i = x := ⟨_, rfl⟩
  obtain ⟨rb, hrb⟩ : ∃ x, remB t i = x := ⟨_, rfl⟩
  rw [hrt0, hrb] at c1 c2
  rw [hrb] at hyes hrt e2
  rw [hrt0] at hrt
  clear hrt0 hrb
  go_wp2_with fail
  refine (c1.out _).mono ?_
  rintro e w2 ⟨hW2, rfl⟩
  go_wp2_with fail
  refine (c2.out _).mono ?_
  rintro e w3 ⟨hW3, rfl⟩
  have k2 := hW2.size
  have k3 := hW3.size
  have hB3 : Below w.heap.size w w3 := (hW1.trans (hW2.mono hW1s)).trans (hW3.mono (by omega))
  cases rb
  · go_wp2_with fail
    go_ret
    exact ⟨hB3, rfl⟩
  · obtain ⟨hnok, i', rfl, hi', hf⟩ := hyes.out rfl
    have hrtt := hrt.out rfl
    rw [Int.toNat_natCast] at hrtt
    have hn := netOf_ok hnok
    have h2 := (free_inf hf).1
    obtain ⟨rk, re⟩ := rem_text (i := i') h2 hn.2
    rw [← hrtt] at rk re
    have hz := netText_size (N := remN (netOf t) i') (by show (netOf t).n - 1 ≤ 5; omega)
    rw [← hrtt] at hz
    have hre1 : (netOf rt).n = (netOf t).n - 1 := re.1
    have hpt : pointsL t = fixL (netOf t) := by rw [pointsL, hnok]; rfl
    have hprt : pointsL rt = fixL (remN (netOf t) i') := by rw [pointsL, rk, if_pos rfl]; exact fixL_eqv re
    have hcnt := fixed_count hf hi'
    have cp := Lib.hid (fun wx => hpt ▸ fixedPoints_impl t wx (by omega))
    have cp2 := Lib.hid (fun wx => hprt ▸ fixedPoints_impl rt wx (by omega))
    have cz := Lib.hid (fun wx => (sizI_yes hnok) ▸ sizeOf_impl t wx (by omega))
    have cl := Lib.hid (fun (s : Nat) (hs : s < pw ((netOf t).n - 1)) wx => (liftI_nat hnok hi' hf hs) ▸ liftState_impl t i' s wx (by omega))
    have cd := Lib.hid (fun (s : Nat) (hs : s < pw (netOf t).n) wx => (dropI_nat h2 hn.2 hi' hs) ▸ (drop_both s (netOf t).n i' wx).1)
    have cr := Lib.hid (fun (s : Nat) (hs : s < pw ((netOf t).n - 1)) (h : stepN (remN (netOf t) i') s = s) wx => show Calls Tryd.prog 32 #[.string t, .int .i64 ((liftN (netOf t) i' s : Nat) : Int)] wx fun e w' => Below wx.heap.size wx w' ∧ e = .returned (.int .i64 0) from by
      have hc := restless_impl t ((liftN (netOf t) i' s : Nat) : Int) wx (by omega)
      rw [restI_nat hnok (liftN_lt _ _ _ hi' hs), lift_point hf hi' hs h, Nat.xor_self] at hc
      exact hc)
    have cr2 := Lib.hid (fun (s : Nat) (hs : s < pw (netOf t).n) (h : stepN (netOf t) s = s) wx => show Calls Tryd.prog 32 #[.string rt, .int .i64 ((dropN s i' : Nat) : Int)] wx fun e w' => Below wx.heap.size wx w' ∧ e = .returned (.int .i64 0) from by
      have hc := restless_impl rt ((dropN s i' : Nat) : Int) wx (by omega)
      have hdl := dropN_lt hi' hs
      rw [restI_nat rk (by rw [hre1]; exact hdl), re.step (by rw [hre1]; exact hdl), (drop_point hf hi' hs h).1, Nat.xor_self] at hc
      exact hc)
    have hm1 := Lib.hid (fun s (h : s ∈ fixL (netOf t)) => fixL_mem.1 h)
    have hm2 := Lib.hid (fun s (h : s ∈ fixL (remN (netOf t) i')) => fixL_mem.1 h)
    have hl1 : (fixL (netOf t)).length ≤ 32 := by rw [← hpt]; exact pointsL_length t
    obtain ⟨L1, hL1⟩ : ∃ L, fixL (netOf t) = L := ⟨_, rfl⟩
    obtain ⟨L2, hL2⟩ : ∃ L, fixL (remN (netOf t) i') = L := ⟨_, rfl⟩
    rw [hL1] at cp hm1 hl1 hcnt
    rw [hL2] at cp2 hm2 hcnt
    obtain ⟨N, hN⟩ : ∃ N, netOf t = N := ⟨_, rfl⟩
    rw [hN] at cz cl cd cr cr2 hm1 hm2 hn h2 hi'
    clear hnok hf hrtt rk re hre1 hpt hprt hN hL1 hL2 hi
    go_wp2_with fail
    refine (cp.out _).mono ?_
    rintro e w4 ⟨hW4, a4, c4, rfl, hI4⟩
    have k4 := hW4.size
    go_wp2_with fail
    refine (cp2.out _).mono ?_
    rintro e w5 ⟨hW5, a5, c5, rfl, hI5⟩
    have k5 := hW5.size
    have hB5 : Below w.heap.size w w5 := (hB3.trans (hW4.mono hB3.size)).trans (hW5.mono (by have := hB3.size; omega))
    have HI4 := Lib.hid (hI4.below hW5)
    have HI5 := Lib.hid hI5
    clear hI4 hI5
    go_wp2_with fail
    go_loopw [11] (fun j wr => ∃ k : Nat, k ≤ L2.length ∧ j = .int .i64 k ∧ Below w5.heap.size w5 wr) (fun j _ => L2.length - (intOf j).toNat)
    case atStart => exact ⟨0, Nat.zero_le _, rfl, Below.refl _ _⟩
    case round =>
      obtain ⟨k, hk, rfl, hV⟩ := hrel
      have hVs := hV.size
      by_cases hlt : k < L2.length
      · obtain ⟨g, cur, tt, rfl, hBg, hcur, hcs, hcells⟩ := (HI5.out.below hV).at' (by rw [nats_length]; omega)
        have hcell : wr.cell? ⟨g, k, none⟩ = some (.int .i64 ((L2[k] : Nat) : Int)) := by
          rw [cell_of_row wr _ _ _ _ _ hcur, hcells k (by rw [nats_length]; exact hlt)]; simp [nats]
        obtain ⟨q1, q2⟩ := hm2.out _ (List.getElem_mem hlt)
        have D1 := Lib.hid (cl.out _ q1)
        have D2 := Lib.hid (cr.out _ q1 q2)
        obtain ⟨x, hx⟩ : ∃ x, L2[k] = x := ⟨_, rfl⟩
        rw [hx] at hcell D1 D2
        clear hcells hcur hx q1 q2
        go_wp2_with fail
        refine (D1.out _).mono ?_
        rintro e v1 ⟨hV1, rfl⟩
        go_wp2_with fail
        refine (D2.out _).mono ?_
        rintro e v2 ⟨hV2, rfl⟩
        have g1 := hV1.size
        have hV3 : Below w5.heap.size w5 v2 := (hV.trans (hV1.mono hVs)).trans (hV2.mono (by omega))
        go_wp2_with fail
        go_roundw
        case rel => exact ⟨k + 1, by omega, by go_num, hV3⟩
        case measure => simp [intOf] <;> omega
      · go_wp2_with fail
        go_loopw [12] (fun j wr => ∃ k : Nat, k ≤ L1.length ∧ j = .int .i64 k ∧ Below w5.heap.size w5 wr) (fun j _ => L1.length - (intOf j).toNat)
        case atStart => exact ⟨0, Nat.zero_le _, rfl, hV⟩
        case round =>
          obtain ⟨k', hk', rfl, hV⟩ := hrel
          have hVs := hV.size
          by_cases hlt : k' < L1.length
          · obtain ⟨g, cur, tt, rfl, hBg, hcur, hcs, hcells⟩ := (HI4.out.below hV).at' (by rw [nats_length]; omega)
            have hcell : wr.cell? ⟨g, k', none⟩ = some (.int .i64 ((L1[k'] : Nat) : Int)) := by
              rw [cell_of_row wr _ _ _ _ _ hcur, hcells k' (by rw [nats_length]; exact hlt)]; simp [nats]
            obtain ⟨q1, q2⟩ := hm1.out _ (List.getElem_mem hlt)
            have D1 := Lib.hid (cd.out _ q1)
            have D2 := Lib.hid (cr2.out _ q1 q2)
            obtain ⟨x, hx⟩ : ∃ x, L1[k'] = x := ⟨_, rfl⟩
            rw [hx] at hcell D1 D2
            have hgl0 := block_lt hcur
            clear hcells hcur hx q1 q2
            have hgl : g < wr.heap.size := hgl0
            go_wp2_with fail
            go_region_held3 (fun w' => w'.cell? ⟨g, k', none⟩ = some (.int .i64 (x : Int)))
              (first | exact hkeep3 | exact hkeep | go_keep)
              (first
                | (go_at_call 25; refine Calls.mono (cz.out _) ?_; rintro e v0 ⟨hV0, rfl⟩; have hkeep : v0.cell? ⟨g, k', none⟩ = some (.int .i64 (x : Int)) := (hV0.cell (by simpa using hgl)).trans hcell)
                | (go_at_call 31; refine Calls.mono (D1.out _) ?_; rintro e v1 ⟨rfl, rfl⟩)
                | (go_at_call 32; refine Calls.mono (D2.out _) ?_; rintro e v2 ⟨hV2, rfl⟩; have hgl2 : g < v0.heap.size := Nat.lt_of_lt_of_le hgl (by simpa using hV0.size); have hkeep3 : v2.cell? ⟨g, k', none⟩ = some (.int .i64 (x : Int)) := (hV2.cell (by simpa using hgl2)).trans (by first | exact hkeep | simpa using hkeep)))
            have g0 : wr.heap.size ≤ v0.heap.size := hV0.size
            have hV3 : Below w5.heap.size w5 v2 := ((hV.drew).trans (hV0.mono hVs)).trans (hV2.mono (by omega))
            go_wp2_with fail
            go_roundw
            case rel => exact ⟨k' + 1, by omega, by go_num, hV3⟩
            case measure => simp [intOf] <;> omega
          · go_wp2_with fail
            go_ret
            exact ⟨hB5.trans (hV.mono hB5.size), by simp [hcnt]⟩
end Go.Proofs.YtcddnacbjdahbaaDoor
