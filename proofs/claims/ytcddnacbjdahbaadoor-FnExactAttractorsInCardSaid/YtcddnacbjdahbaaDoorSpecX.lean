/- The reference's list of attractors of a text, and its count of those within a trap. -/
import Derived.Test.YtcddnacbjdahbaaDoorSpecW
namespace Go.Proofs.YtcddnacbjdahbaaDoor
open Go Go.RowKit Go.Sw
set_option maxRecDepth 100000
set_option linter.unusedVariables false

theorem head_get {l : List Nat} (h : 0 < l.length) : l[0] = l.headD 0 := by cases l with
  | nil => simp at h
  | cons a r => rfl
noncomputable def attrL (t : ByteArray) : List (List Nat) := if netOk t then attL (netOf t) else []
theorem attractorsOf_spec (t : ByteArray) (w : World) (hs : t.size ≤ 1048576) :
    Calls Tryd.prog 73 #[.string t] w fun e w' => Below w.heap.size w w' ∧ ∃ out vs, e = .returned out ∧ RowsAt w' w.heap.size out (attrL t) vs := by
  have cO := Lib.hid (l3Open_any t w hs)
  cases hok0 : netOk t
  · have hr : attrL t = [] := by rw [attrL, hok0]; rfl
    rw [hr]
    have Hok := Lib.hid hok0
    clear hr hok0
    go_enter Tryd.func73, Tryd.ntmps73
    go_wp2_with fail
    refine cO.out.mono ?_
    rintro e w1 ⟨hW1, ⟨hbad, v, rfl⟩ | ⟨hok, b, cap, rfl, hb1, hb2, hat⟩⟩
    · clear hbad
      go_wp2_with ((with_reducible show wpList _ _ _ (⟨_, .buildSlice 53 _ _, _, _, _, _⟩ :: _) _ _); refine wpList_buildSlice' rfl _ _ _ rfl rfl (intss_none _) ?_)
      go_ret
      exact ⟨hW1.alloc hW1.size _, _, [], rfl, ⟨World.ownsRow_made w1 #[] 0 hW1.size (by unfold maxLen; omega) rfl, rfl, fun j hj => by cases hj⟩⟩
    · rw [Hok.out] at hok; cases hok
  · have hn := netOf_ok hok0
    have hr : attrL t = attL (netOf t) := by rw [attrL, hok0]; rfl
    rw [hr]
    obtain ⟨N, hN⟩ : ∃ N, netOf t = N := ⟨_, rfl⟩
    rw [hN] at hn cO ⊢
    have Hok := Lib.hid hok0
    clear hr hok0
    go_enter Tryd.func73, Tryd.ntmps73
    go_wp2_with fail
    refine cO.out.mono ?_
    rintro e w1 ⟨hW1, ⟨hbad, v, rfl⟩ | ⟨hok, b, cap, rfl, hb1, hb2, hat⟩⟩
    · rw [Hok.out] at hbad; cases hbad
    · have cC := Lib.hid (l5Attractors_any b cap N hn.2 w1 hat hb2)
      clear hok hat
      go_wp2_with fail
      refine cC.out.mono ?_
      rintro e w2 ⟨hW2, out, vs, rfl, hR⟩
      have HR := Lib.hid hR
      have hW1s := hW1.size
      clear hR
      go_wp2_with fail
      go_ret
      exact ⟨hW1.trans (hW2.mono hW1s), out, vs, rfl, HR.out.mono hW1s⟩
set_option maxHeartbeats 2000000 in
theorem attractorsIn_spec (t u : ByteArray) (w : World) (hs : t.size ≤ 1048576) (hu : u.size ≤ 1048576) :
    Calls Tryd.prog 15 #[.string t, .string u] w fun e w' => Below w.heap.size w w' ∧ e = .returned (.int .i64 (attI t u)) := by
  have c0 := isTrap_spec t u w hs hu
  have cA := Lib.hid (fun wx => attractorsOf_spec t wx hs)
  cases hb : (termOk t u && trapP (netOf t) (ofT u))
  · have hr : attI t u = -1 := by rw [attI, hb]; rfl
    rw [hr]
    rw [hb] at c0
    have C0 := Lib.hid c0
    clear c0 hr hb
    go_enter Tryd.func15, Tryd.ntmps15
    go_wp2_with fail
    refine C0.out.mono ?_
    rintro e w1 ⟨hW1, rfl⟩
    go_wp2_with fail
    go_ret
    exact ⟨hW1, rfl⟩
  · have hr : attI t u = ((attIn (netOf t) (ofT u) : Nat) : Int) := by rw [attI, hb]; rfl
    rw [hr]
    rw [hb] at c0
    rw [Bool.and_eq_true] at hb
    have hok2 := hb.1
    unfold termOk at hok2
    rw [Bool.and_eq_true] at hok2
    have hn := netOf_ok hok2.1
    have hut : termT (netOf t).n (ofT u) = u := termT_of hok2.2
    have hal : attrL t = attL (netOf t) := by rw [attrL, hok2.1]; rfl
    rw [hal] at cA
    obtain ⟨p, hp0⟩ : ∃ p0, ofT u = p0 := ⟨_, rfl⟩
    rw [hp0] at hut ⊢
    rw [← hut]
    rw [← hut] at c0
    obtain ⟨N, hN⟩ : ∃ N, netOf t = N := ⟨_, rfl⟩
    rw [hN] at hn c0 cA ⊢
    have hpw := pw_le hn.2
    have C0 := Lib.hid c0
    have hLL : (attL N).length ≤ 32 := by
      have := attTo_length N (pw N.n)
      rw [attTo_all] at this
      omega
    clear hr hb hok2 hut hal hp0 hN c0 hu
    go_enter Tryd.func15, Tryd.ntmps15
    go_wp2_with fail
    refine C0.out.mono ?_
    rintro e w1 ⟨hW1, rfl⟩
    have hW1s := hW1.size
    go_wp2_with fail
    refine (cA.out w1).mono ?_
    rintro e w3 ⟨hW3, out, vs, rfl, hR⟩
    obtain ⟨a, co, rfl, hget⟩ := hR.get
    have Hget := Lib.hid hget
    have hB3 : Below w.heap.size w w3 := hW1.trans (hW3.mono hW1s)
    clear hget hR
    go_wp2_with fail
    go_loopw [6, 7] (fun cv i wr => ∃ k : Nat, k ≤ (attL N).length ∧ i = .int .i64 k ∧ cv = .int .i64 (cntTo N p (leastB N) k) ∧ Below w3.heap.size w3 wr) (fun _ i _ => (attL N).length - (intOf i).toNat)
    case atStart => exact ⟨0, Nat.zero_le _, rfl, rfl, Below.refl _ _⟩
    case round =>
      obtain ⟨k, hk, rfl, rfl, hW⟩ := hrel
      have hWs := hW.size
      have hle := cntTo_le N p (leastB N) k
      by_cases hlt : k < (attL N).length
      · obtain ⟨g, rfl, hg, hgs⟩ := Hget.out (by omega)
        obtain ⟨x, d, hx, hI⟩ := hgs k hlt
        have hx' := (hW.cell hg).trans hx
        have hkS : k < (attS N).length := by rw [attL, List.length_map] at hlt; exact hlt
        obtain ⟨s, hs0⟩ : ∃ s, (attS N)[k] = s := ⟨_, rfl⟩
        have hsm := pickL_mem.1 (show s ∈ pickL (leastB N) (pw N.n) from by rw [← hs0]; exact List.getElem_mem hkS)
        have hLk : (attL N)[k] = stR N s := by
          rw [← hs0]; simp [attL]
        have hsuc : cntTo N p (leastB N) (k + 1) = cntTo N p (leastB N) k + if hasP N.n p s then 1 else 0 := by rw [← hs0]; exact cntTo_suc N p (leastB N) k hkS
        obtain ⟨hh1, hh2⟩ := stR_head hsm.1 hsm.2
        rw [hLk] at hx' hI
        have h0l : 0 < (stR N s).length := List.length_pos_iff.2 hh2
        obtain ⟨g2, cur, tt, rfl, hBg, hcur, hcs, hcells⟩ := hI.at' (by rw [nats_length]; exact h0l)
        have hc2 : wr.cell? ⟨g2, 0, none⟩ = some (.int .i64 (s : Int)) := by
          rw [hW.cell (block_lt hcur), cell_of_row w3 _ _ _ _ _ hcur, hcells 0 (by rw [nats_length]; exact h0l)]
          congr 2
          have e : (nats (stR N s))[0]'(by rw [nats_length]; exact h0l) = (((stR N s)[0] : Nat) : Int) := by simp [nats]
          rw [e]
          congr 1
          exact (head_get h0l).trans hh1
        have cH := l2Has_any N.n s p hn.2 (by omega) wr
        clear hx hI hgs hs0 hsm hLk hkS hcells hcur hh1 hh2
        cases hh : hasP N.n p s <;> rw [hh] at cH hsuc
        · have CH := Lib.hid cH
          have Hs := Lib.hid (show cntTo N p (leastB N) (k + 1) = cntTo N p (leastB N) k from hsuc)
          clear cH hsuc hh
          go_wp2_with fail
          refine CH.out.mono ?_
          rintro e w5 ⟨hW5, rfl⟩
          go_wp2_with fail
          go_roundw
          case rel => exact ⟨k + 1, by omega, by go_num, by rw [Hs.out], hW.trans (hW5.mono hWs)⟩
          case measure => simp [intOf] <;> omega
        · have CH := Lib.hid cH
          have Hs := Lib.hid (show cntTo N p (leastB N) (k + 1) = cntTo N p (leastB N) k + 1 from hsuc)
          clear cH hsuc hh
          obtain ⟨cn, hcn⟩ : ∃ cn, cntTo N p (leastB N) k = cn := ⟨_, rfl⟩
          rw [hcn] at Hs hle ⊢
          clear hcn
          go_wp2_with fail
          refine CH.out.mono ?_
          rintro e w5 ⟨hW5, rfl⟩
          go_wp2_with fail
          go_roundw
          case rel => exact ⟨k + 1, by omega, by go_num, by rw [Hs.out]; go_num, hW.trans (hW5.mono hWs)⟩
          case measure => simp [intOf] <;> omega
      · obtain rfl : k = (attL N).length := by omega
        rw [cntTo_all]
        go_wp2_with fail
        go_ret
        exact ⟨hB3.trans (hW.mono hB3.size), rfl⟩
end Go.Proofs.YtcddnacbjdahbaaDoor
