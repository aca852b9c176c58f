/- Walk of the law on traps. -/
import Derived.Test.YtcddnacbjdahbaaDoorDi
import Derived.Test.YtcddnacbjdahbaaDoorImplB
import Derived.Test.YtcddnacbjdahbaaDoorImplZ
import Derived.Test.YtcddnacbjdahbaaDoorImplN
import Derived.Test.YtcddnacbjdahbaaDoorSpecN
import Derived.Test.YtcddnacbjdahbaaDoorBn
import Derived.Test.YtcddnacbjdahbaaDoorPk
import Derived.Deep.RegionHeld3
import Derived.WalkLawsBesides
namespace Go.Proofs.YtcddnacbjdahbaaDoor
open Go Go.RowKit Go.Sw
set_option maxRecDepth 100000
set_option linter.unusedVariables false

theorem trapB_term {t : ByteArray} (h : netOk t = true) (p : Trm) : trapB t (termT (netOf t).n p) = trapP (netOf t) p := by
  unfold trapB termOk
  rw [h, termB_term, Bool.true_and, Bool.true_and]
  exact trapP_congr fun i hi => ofT_term hi
theorem stars_eq {n : Nat} (h1 : 1 ≤ n) (h5 : n ≤ 5) : ((⟨#[42, 42, 42, 42, 42]⟩ : ByteArray).extract 0 n) = termT n fun _ => none := by
  have : n = 1 ∨ n = 2 ∨ n = 3 ∨ n = 4 ∨ n = 5 := by omega
  rcases this with rfl | rfl | rfl | rfl | rfl <;> decide +kernel
theorem traps_facts (N : Net) (hsorted : (trapsT N).Pairwise ltT) : ∃ (ps : List Trm) (L : List ByteArray), trapsT N = L ∧ trapsP N = ps ∧ L.length = ps.length ∧ 0 < L.length ∧
    (∀ j (hj : j < ps.length) (hj2 : j < L.length), L[j] = termT N.n ps[j]) ∧ (∀ h : 0 < L.length, L[0] = termT N.n fun _ => none) ∧ (∀ p, p ∈ ps → trapP N p = true) ∧
    (∀ j k (hj : j < L.length) (hk : k < L.length), j < k → (Op.bytesLess (L[k]).toList (L[j]).toList || (L[k]).toList == (L[j]).toList) = false) := by
  have hlt : (trapsT N).length = (trapsP N).length := by unfold trapsT; rw [List.length_map]
  obtain ⟨p0, rr, hhead, hp0⟩ := trapsP_head N
  have h0l : 0 < (trapsT N).length := by rw [hlt, hhead]; simp
  have hpw := List.pairwise_iff_getElem.1 hsorted
  refine ⟨trapsP N, trapsT N, rfl, rfl, hlt, h0l, fun j hj hj2 => by simp [trapsT], fun h => ?_, fun p h => trapsP_mem h, fun j k hj hk hjk => ltT_leq (hpw j k hj hk hjk)⟩
  have : (trapsT N)[0]? = some (termT N.n p0) := by unfold trapsT; rw [hhead]; rfl
  rw [List.getElem?_eq_getElem h] at this
  rw [Option.some.inj this]
  exact termT_congr hp0
theorem TextsAt.cells {w : World} {B : Nat} {a : Option Addr} {L : List ByteArray} (h : TextsAt w B a L) (h0 : 0 < L.length) : ∃ g, a = some ⟨g, 0, none⟩ ∧ B ≤ g ∧ g < w.heap.size ∧ ∀ wx : World, Below w.heap.size w wx → ∀ j (hj : j < L.length), wx.cell? ⟨g, j, none⟩ = some (.string (L[j]'hj)) := by
  obtain ⟨g, cur, tt, rfl, hBg, hcur, hcs, hcells⟩ := h.at' h0
  exact ⟨g, rfl, hBg, block_lt hcur, fun wx hb j hj => cell_row wx g j ((hb.block g (block_lt hcur)).trans hcur) (hcells j hj)⟩
set_option maxHeartbeats 4000000 in
theorem law_Traps (w : World) (a : Option Addr) (n c : Nat) (hc : c ≤ maxLen) (h : CodeAt w a n c) :
    Calls Tryd.prog 4 #[.slice a n c] w fun e w' => Below w.heap.size w w' ∧ e = .returned (.bool true) := by
  have hle := h.1
  have m0 : n ≤ 9223372036854775807 := by unfold maxLen at hc; omega
  have cD := Lib.hid (drawTraps_any a n c hc w h)
  clear h
  by_cases s0 : n ≤ 1048576
  case' neg =>
    go_enter Tryd.func4, Tryd.ntmps4
    go_wp2_with fail
    go_ret
    exact ⟨Below.refl _ _, rfl⟩
  go_enter Tryd.func4, Tryd.ntmps4
  go_wp2_with fail
  refine cD.out.mono ?_
  rintro e w1 ⟨hW1, t, ht, rfl⟩
  have hW1s := hW1.size
  have c1 := Lib.hid (fun wx => trapsOf_impl t wx (by omega))
  have c2 := Lib.hid (fun wx => trapsOf_spec t wx (by omega))
  have cV := Lib.hid (fun wx => networkValid_impl t wx (by omega))
  have hl243 := trapsL_length t
  cases hok : netOk t
  · have hg : trapsL t = [] := by unfold trapsL; rw [hok]; rfl
    rw [hg] at c1 c2
    rw [hok] at cV
    have cS := Lib.hid (fun a4 a5 p4 p5 wx => bnTexts_any 0 0 a4 a5 p4 p5 [] wx (textsAt_nil _ _ _) (textsAt_nil _ _ _) (by simp))
    clear hg hok
    go_wp2_with fail
    refine (c1.out _).mono ?_
    rintro e w3 ⟨hW3, a3, p3, rfl, _, _, _⟩
    have hB3 : Below w.heap.size w w3 := hW1.trans (hW3.mono hW1s)
    go_wp2_with fail
    refine (c2.out _).mono ?_
    rintro e w5 ⟨hW5, a5, p5, rfl, _⟩
    have hB5 := hB3.trans (hW5.mono hB3.size)
    go_wp2_with fail
    refine (cS.out _ _ _ _ _).mono ?_
    rintro e w6 ⟨hW6, rfl⟩
    have hB6 := hB5.trans (hW6.mono hB5.size)
    go_wp2_with fail
    refine (c2.out _).mono ?_
    rintro e w7 ⟨hW7, a7, p7, rfl, _⟩
    have hB7 := hB6.trans (hW7.mono hB6.size)
    go_wp2_with fail
    refine (cS.out _ _ _ _ _).mono ?_
    rintro e w8 ⟨hW8, rfl⟩
    have hB8 := hB7.trans (hW8.mono hB7.size)
    go_wp2_with fail
    refine (cV.out _).mono ?_
    rintro e w9 ⟨hW9, rfl⟩
    go_wp2_with fail
    go_ret
    exact ⟨hB8.trans (hW9.mono hB8.size), rfl⟩
  · have hn := netOf_ok hok
    have hg : trapsL t = trapsT (netOf t) := by unfold trapsL; rw [hok]; rfl
    have hsorted := trapsL_sorted t
    have htb := fun p => trapB_term hok p
    have hpt : pointsL t = fixL (netOf t) := by rw [pointsL, hok]; rfl
    have cz := Lib.hid (fun wx => (sizI_yes hok) ▸ sizeOf_impl t wx (by omega))
    have cp := Lib.hid (fun wx => hpt ▸ fixedPoints_impl t wx (by omega))
    rw [hg] at c1 c2 hl243 hsorted
    obtain ⟨N, hN⟩ : ∃ N, netOf t = N := ⟨_, rfl⟩
    rw [hN] at cz cp hn c1 c2 hl243 hsorted htb
    have cT := Lib.hid (fun (p : Trm) wx => (htb p) ▸ isTrap_impl t (termT N.n p) wx (by omega) (by rw [termT_size]; omega))
    have cM := Lib.hid (fun (p q : Trm) wx => meet_impl N.n p q hn.1 hn.2 wx)
    have cSt := Lib.hid (fun (p : Trm) wx => statesOf_impl N.n p hn.1 hn.2 wx)
    have hcnt := one_count N
    have hfl : (pickL (fun s => stepN N s == s) (pw N.n)).length = (fixL N).length := rfl
    rw [hfl] at hcnt
    have hfx32 : (fixL N).length ≤ 32 := by rw [← hN, ← hpt]; exact pointsL_length t
    obtain ⟨ps, L, hL, hps, hlt, hL0, hget, hst0, hmemT, hleq⟩ := traps_facts N hsorted
    rw [hps] at hcnt
    rw [hL] at c1 c2 hl243
    have h0l : 0 < ps.length := by omega
    have hl1 : L.length ≤ ps.length := by omega
    have hl2 : ps.length ≤ L.length := by omega
    have Hlt := Lib.hid hlt
    have Hget := Lib.hid hget
    have Hst0 := Lib.hid hst0
    have Hleq := Lib.hid hleq
    have HmemT := Lib.hid hmemT
    have Hcnt := Lib.hid hcnt
    have Hstar := Lib.hid (stars_eq hn.1 hn.2)
    have hone := Lib.hid (fun k => oneTo_le N.n ps k)
    clear hok hg hsorted htb hpt hN hcnt hfl hst0 hmemT hget hleq hps hL hlt
    go_wp2_with fail
    refine (c1.out _).mono ?_
    rintro e w3 ⟨hW3, a3, p3, rfl, _, _, hT3⟩
    have hB3 : Below w.heap.size w w3 := hW1.trans (hW3.mono hW1s)
    have HT3 := Lib.hid hT3
    clear hT3
    go_wp2_with fail
    refine (c2.out _).mono ?_
    rintro e w5 ⟨hW5, a5, p5, rfl, hT5⟩
    have hB5 := hB3.trans (hW5.mono hB3.size)
    have cS := Lib.hid (bnTexts_any _ _ a3 a5 p3 p5 L w5 (HT3.out.below hW5) hT5 (by omega))
    clear hT5
    go_wp2_with fail
    refine cS.out.mono ?_
    rintro e w6 ⟨hW6, rfl⟩
    have hB6 := hB5.trans (hW6.mono hB5.size)
    obtain ⟨g, rfl, hBg, hgl, hcl0⟩ := ((HT3.out.below hW5).below hW6).cells hL0
    have Hcl := Lib.hid hcl0
    have hLz : ((L.length : Int) == 0) = false := by rw [beq_eq_false_iff_ne]; omega
    clear hcl0
    go_wp2_with fail
    go_loopw [5, 6, 7, 8, 9] (fun pt i _ _ _ wr => ∃ k : Nat, k ≤ L.length ∧ i = .int .i64 k ∧ pt = .int .i64 ((oneTo N.n ps k : Nat) : Int) ∧ Below w6.heap.size w6 wr) (fun _ i _ _ _ _ => L.length - (intOf i).toNat)
    case atStart => exact ⟨0, Nat.zero_le _, rfl, rfl, Below.refl _ _⟩
    case round =>
      obtain ⟨k, hk, rfl, rfl, hV⟩ := hrel
      have hVs := hV.size
      by_cases hlt1 : k < L.length
      · have hkp : k < ps.length := by omega
        have hck := Hcl.out wr hV k hlt1
        have hgk := Hget.out k hkp hlt1
        have htk := HmemT.out _ (List.getElem_mem hkp)
        have D1 := cT.out ps[k]
        rw [htk] at D1
        have D2 := cSt.out ps[k]
        have hs1 : oneTo N.n ps (k + 1) = oneTo N.n ps k + if (statesP N.n ps[k]).length = 1 then 1 else 0 := by
          rw [oneTo]
          have : ps.getD k (fun _ => none) = ps[k] := by rw [List.getD_eq_getElem?_getD, List.getElem?_eq_getElem hkp]; rfl
          rw [this]
        have hol := hone.out k
        have hprev := Lib.hid (fun (h0 : 0 < k) => show ∃ y, (∀ wx : World, Below w6.heap.size w6 wx → wx.cell? ⟨g, k - 1, none⟩ = some (.string y)) ∧ (Op.bytesLess (L[k]'hlt1).toList y.toList || (L[k]'hlt1).toList == y.toList) = false from
          ⟨L[k - 1]'(by omega), fun wx hb => Hcl.out wx hb (k - 1) (by omega), Hleq.out (k - 1) k (by omega) hlt1 (by omega)⟩)
        rw [hgk] at hck hprev
        have hgrw : g < wr.heap.size := by omega
        obtain ⟨P, hP⟩ : ∃ P, ps[k] = P := ⟨_, rfl⟩
        rw [hP] at hck D1 D2 hs1 htk hprev
        have Htk := Lib.hid htk
        obtain ⟨x, hx⟩ : ∃ x, termT N.n P = x := ⟨_, rfl⟩
        have Hx := Lib.hid hx
        rw [hx] at hck D1 D2 hprev
        have Hck := Lib.hid (show L[k]'hlt1 = x by rw [hgk, hP, hx])
        have E1 := Lib.hid D1
        have E2 := Lib.hid D2
        have Hs1 := Lib.hid hs1
        obtain ⟨wo, rfl⟩ : ∃ wo : World, wo = wr := ⟨_, rfl⟩
        have HV := Lib.hid hV
        clear hgk htk hP hx D1 D2 hs1
        by_cases h0 : 0 < k
        · obtain ⟨y, hy, hxy⟩ := hprev.out h0
          have h0i : (0 : Int) < (k : Int) := by omega
          have hcy := hy wo HV.out
          have fk1 : IntKind.i64.wrap ((k : Int) - 1) = (k : Int) - 1 := wraps_i64 _ (by omega) (by omega)
          have fk2 : (0 : Int) ≤ (k : Int) - 1 := by omega
          have fk3 : (k : Int) - 1 < (L.length : Int) := by omega
          have fk4 : ((k : Int) - 1).toNat = k - 1 := by omega
          have fk5 : (1 : Int) ≤ (k : Int) := by omega
          clear hy
          go_wp2_with fail
          go_region_held3 (fun w' => w'.cell? ⟨g, k, none⟩ = some (.string x) ∧ w'.cell? ⟨g, k - 1, none⟩ = some (.string y))
            (first | exact hkeep | go_keep)
            (first
              | (go_at_call 22; refine Calls.mono (E1.out _) ?_; rintro e w7 ⟨hW7, rfl⟩; have hkeep : w7.cell? ⟨g, k, none⟩ = some (.string x) ∧ w7.cell? ⟨g, k - 1, none⟩ = some (.string y) := ⟨(hW7.cell (by simpa using hgrw)).trans hck, (hW7.cell (by simpa using hgrw)).trans hcy⟩))
          clear hcy fk1 fk2 fk3 fk4 fk5
          have hV7b : Below w6.heap.size w6 w7 := (HV.out.drew).trans (hW7.mono hVs)
          go_wp2_with fail
          refine (E2.out _).mono ?_
          rintro e w8 ⟨hW8, a8, c8, rfl, hI8⟩
          have hV8b : Below w6.heap.size w6 w8 := hV7b.trans (hW8.mono hV7b.size)
          clear hI8
          obtain ⟨m, hm⟩ : ∃ m, (statesP N.n P).length = m := ⟨_, rfl⟩
          rw [hm] at Hs1 ⊢
          clear hm
          by_cases hm1 : m = 1
          · have em : ((m : Int) == 1) = true := by rw [hm1]; rfl
            have Hs2 := Lib.hid (show oneTo N.n ps (k + 1) = oneTo N.n ps k + 1 by rw [Hs1.out, if_pos hm1])
            obtain ⟨oc, hoc⟩ : ∃ o, oneTo N.n ps k = o := ⟨_, rfl⟩
            rw [hoc] at Hs2 hol ⊢
            clear hm1 hoc
            go_wp2_with fail
            go_loopw [7, 8, 9] (fun j _ _ wr => ∃ q : Nat, q ≤ k ∧ j = .int .i64 q ∧ Below w6.heap.size w6 wr) (fun j _ _ _ => k - (intOf j).toNat)
            case atStart => exact ⟨0, Nat.zero_le _, rfl, hV8b⟩
            case round =>
              obtain ⟨q, hq, rfl, hY⟩ := hrel
              by_cases hltq : q < k
              · have hqp : q < ps.length := by omega
                have hqL : q < L.length := by omega
                have hcq := Hcl.out wr hY q hqL
                have hckk := Hcl.out wr hY k hlt1
                rw [Hget.out q hqp hqL] at hcq
                rw [Hck.out] at hckk
                have htq := HmemT.out _ (List.getElem_mem hqp)
                obtain ⟨Q, hQ⟩ : ∃ Q, ps[q] = Q := ⟨_, rfl⟩
                rw [hQ] at hcq htq
                have D3 := cM.out P Q
                rw [Hx.out] at D3
                have hmr : okT P Q N.n = true → meetR N.n P Q = termT N.n (meetT P Q) := fun h => by rw [meetR, h]; rfl
                have D4 := fun h : okT P Q N.n = true => (show trapP N (meetT P Q) = true from meet_trap h Htk.out htq) ▸ cT.out (meetT P Q)
                obtain ⟨z, hz⟩ : ∃ z, termT N.n Q = z := ⟨_, rfl⟩
                rw [hz] at hcq D3
                obtain ⟨mr, hmr0⟩ : ∃ z, meetR N.n P Q = z := ⟨_, rfl⟩
                rw [hmr0] at D3 hmr
                obtain ⟨ov, hov⟩ : ∃ v, okT P Q N.n = v := ⟨_, rfl⟩
                rw [hov] at D3 hmr D4
                have E3 := Lib.hid D3
                have Hmr := Lib.hid hmr
                have E4 := Lib.hid D4
                have hgrw2 : g < wr.heap.size := by have := hY.size; omega
                have hqi : (q : Int) < (L.length : Int) := by omega
                obtain ⟨wi, rfl⟩ : ∃ wi : World, wi = wr := ⟨_, rfl⟩
                clear htq hQ D3 D4 hz hmr hmr0 hov
                go_wp2_with fail
                go_region_held3 (fun w' => w'.cell? ⟨g, k, none⟩ = some (.string x) ∧ w'.cell? ⟨g, q, none⟩ = some (.string z))
                  (first | exact hkeep2 | go_keep)
                  (first
                    | (go_at_call 24; refine Calls.mono (E3.out _) ?_; rintro e v7 ⟨hV7, rfl⟩; have hkeep2 : v7.cell? ⟨g, k, none⟩ = some (.string x) ∧ v7.cell? ⟨g, q, none⟩ = some (.string z) := ⟨(hV7.cell (by simpa using hgrw2)).trans hckk, (hV7.cell (by simpa using hgrw2)).trans hcq⟩))
                have hV8 : Below w6.heap.size w6 v7 := (hY.drew).trans (hV7.mono hY.size)
                cases ov
                · go_wp2_with fail
                  go_roundw
                  case rel => exact ⟨q + 1, by omega, by go_num, hV8⟩
                  case measure => simp [intOf] <;> omega
                · have hmz := Hmr.out rfl
                  have E5 := Lib.hid (E4.out rfl)
                  rw [← hmz] at E5
                  clear hmz
                  go_wp2_with fail
                  refine (E5.out _).mono ?_
                  rintro e v8 ⟨hV9, rfl⟩
                  go_wp2_with fail
                  go_roundw
                  case rel => exact ⟨q + 1, by omega, by go_num, hV8.trans (hV9.mono hV8.size)⟩
                  case measure => simp [intOf] <;> omega
              · obtain rfl : q = k := by omega
                go_wp2_with fail
                go_roundw
                case rel => exact ⟨q + 1, by omega, by go_num, by first | (rw [Hs2.out]; done) | (rw [Hs2.out]; rfl) | (rw [Hs2.out]; go_num), hY⟩
                case measure => simp [intOf] <;> omega
          · have em : ((m : Int) == 1) = false := by rw [beq_eq_false_iff_ne]; omega
            have Hs2 := Lib.hid (show oneTo N.n ps (k + 1) = oneTo N.n ps k by rw [Hs1.out, if_neg hm1]; rfl)
            obtain ⟨oc, hoc⟩ : ∃ o, oneTo N.n ps k = o := ⟨_, rfl⟩
            rw [hoc] at Hs2 hol ⊢
            clear hm1 hoc
            go_wp2_with fail
            go_loopw [7, 8, 9] (fun j _ _ wr => ∃ q : Nat, q ≤ k ∧ j = .int .i64 q ∧ Below w6.heap.size w6 wr) (fun j _ _ _ => k - (intOf j).toNat)
            case atStart => exact ⟨0, Nat.zero_le _, rfl, hV8b⟩
            case round =>
              obtain ⟨q, hq, rfl, hY⟩ := hrel
              by_cases hltq : q < k
              · have hqp : q < ps.length := by omega
                have hqL : q < L.length := by omega
                have hcq := Hcl.out wr hY q hqL
                have hckk := Hcl.out wr hY k hlt1
                rw [Hget.out q hqp hqL] at hcq
                rw [Hck.out] at hckk
                have htq := HmemT.out _ (List.getElem_mem hqp)
                obtain ⟨Q, hQ⟩ : ∃ Q, ps[q] = Q := ⟨_, rfl⟩
                rw [hQ] at hcq htq
                have D3 := cM.out P Q
                rw [Hx.out] at D3
                have hmr : okT P Q N.n = true → meetR N.n P Q = termT N.n (meetT P Q) := fun h => by rw [meetR, h]; rfl
                have D4 := fun h : okT P Q N.n = true => (show trapP N (meetT P Q) = true from meet_trap h Htk.out htq) ▸ cT.out (meetT P Q)
                obtain ⟨z, hz⟩ : ∃ z, termT N.n Q = z := ⟨_, rfl⟩
                rw [hz] at hcq D3
                obtain ⟨mr, hmr0⟩ : ∃ z, meetR N.n P Q = z := ⟨_, rfl⟩
                rw [hmr0] at D3 hmr
                obtain ⟨ov, hov⟩ : ∃ v, okT P Q N.n = v := ⟨_, rfl⟩
                rw [hov] at D3 hmr D4
                have E3 := Lib.hid D3
                have Hmr := Lib.hid hmr
                have E4 := Lib.hid D4
                have hgrw2 : g < wr.heap.size := by have := hY.size; omega
                have hqi : (q : Int) < (L.length : Int) := by omega
                obtain ⟨wi, rfl⟩ : ∃ wi : World, wi = wr := ⟨_, rfl⟩
                clear htq hQ D3 D4 hz hmr hmr0 hov
                go_wp2_with fail
                go_region_held3 (fun w' => w'.cell? ⟨g, k, none⟩ = some (.string x) ∧ w'.cell? ⟨g, q, none⟩ = some (.string z))
                  (first | exact hkeep2 | go_keep)
                  (first
                    | (go_at_call 24; refine Calls.mono (E3.out _) ?_; rintro e v7 ⟨hV7, rfl⟩; have hkeep2 : v7.cell? ⟨g, k, none⟩ = some (.string x) ∧ v7.cell? ⟨g, q, none⟩ = some (.string z) := ⟨(hV7.cell (by simpa using hgrw2)).trans hckk, (hV7.cell (by simpa using hgrw2)).trans hcq⟩))
                have hV8 : Below w6.heap.size w6 v7 := (hY.drew).trans (hV7.mono hY.size)
                cases ov
                · go_wp2_with fail
                  go_roundw
                  case rel => exact ⟨q + 1, by omega, by go_num, hV8⟩
                  case measure => simp [intOf] <;> omega
                · have hmz := Hmr.out rfl
                  have E5 := Lib.hid (E4.out rfl)
                  rw [← hmz] at E5
                  clear hmz
                  go_wp2_with fail
                  refine (E5.out _).mono ?_
                  rintro e v8 ⟨hV9, rfl⟩
                  go_wp2_with fail
                  go_roundw
                  case rel => exact ⟨q + 1, by omega, by go_num, hV8.trans (hV9.mono hV8.size)⟩
                  case measure => simp [intOf] <;> omega
              · obtain rfl : q = k := by omega
                go_wp2_with fail
                go_roundw
                case rel => exact ⟨q + 1, by omega, by go_num, by first | (rw [Hs2.out]; done) | (rw [Hs2.out]; rfl) | (rw [Hs2.out]; go_num), hY⟩
                case measure => simp [intOf] <;> omega
        · obtain rfl : k = 0 := by omega
          clear hprev h0
          go_wp2_with fail
          refine wp_region_held_drew (S := fun w' => w'.cell? ⟨g, 0, none⟩ = some (.string x)) (by kernel_rfl) (by simpa using hck) (fun hHeld => ?_)
          refine wpAnyH_take (i := 0) (oi := { dst := some 43, op := Op.move (Operand.tmp 3), type := 9, pos := "laws.go:1003", after := #[], guard := none }) (v := ?_) rfl (by kernel_rfl) (by kernel_rfl) (by kernel_rfl) (fun _ _ _ h => h) (Or.inl ⟨by kernel_rfl, ?_⟩) hHeld ?_
          rotate_left
          · intro w hSw
            (try dsimp only at hSw)
            go_simp
            (try with_reducible rfl)
          simp only [Act.put, List.setIfInBounds_toArray, List.set_cons_zero, List.set_cons_succ]
          refine wpAnyH_take (i := 1) (oi := { dst := some 44, op := Op.move (Operand.tmp 4), type := 26, pos := "laws.go:1003", after := #[], guard := none }) (v := ?_) rfl (by kernel_rfl) (by kernel_rfl) (by kernel_rfl) (fun _ _ _ h => h) (Or.inl ⟨by kernel_rfl, ?_⟩) hHeld ?_
          rotate_left
          · intro w hSw
            (try dsimp only at hSw)
            go_simp
            (try with_reducible rfl)
          simp only [Act.put, List.setIfInBounds_toArray, List.set_cons_zero, List.set_cons_succ]
          refine wpAnyH_take (i := 2) (oi := { dst := some 45, op := Op.move (Operand.tmp 6), type := 3, pos := "laws.go:1003", after := #[], guard := none }) (v := ?_) rfl (by kernel_rfl) (by kernel_rfl) (by kernel_rfl) (fun _ _ _ h => h) (Or.inl ⟨by kernel_rfl, ?_⟩) hHeld ?_
          rotate_left
          · intro w hSw
            (try dsimp only at hSw)
            go_simp
            (try with_reducible rfl)
          simp only [Act.put, List.setIfInBounds_toArray, List.set_cons_zero, List.set_cons_succ]
          refine wpAnyH_take (i := 3) (oi := { dst := some 46, op := Op.indexAddr 26 (Operand.tmp 44) (Operand.tmp 45), type := 0, pos := "laws.go:1003", after := #[{ on := 1, ground := Ground.data }, { on := 2, ground := Ground.data }], guard := none }) (v := ?_) rfl (by kernel_rfl) (by kernel_rfl) (by kernel_rfl) (fun _ _ _ h => h) (Or.inl ⟨by kernel_rfl, ?_⟩) hHeld ?_
          rotate_left
          · intro w hSw
            (try dsimp only at hSw)
            go_simp
            (try with_reducible rfl)
          simp only [Act.put, List.setIfInBounds_toArray, List.set_cons_zero, List.set_cons_succ]
          refine wpAnyH_take (i := 4) (oi := { dst := some 47, op := Op.load 9 (Operand.tmp 46), type := 9, pos := "laws.go:1003", after := #[{ on := 3, ground := Ground.data }], guard := none }) (v := ?_) rfl (by kernel_rfl) (by kernel_rfl) (by kernel_rfl) (fun _ _ _ h => h) (Or.inl ⟨by kernel_rfl, ?_⟩) hHeld ?_
          rotate_left
          · intro w hSw
            (try dsimp only at hSw)
            go_simp
            (try with_reducible rfl)
          simp only [Act.put, List.setIfInBounds_toArray, List.set_cons_zero, List.set_cons_succ]
          refine wpAnyH_ready (rs := [5]) (by kernel_rfl) (by simp) ?_
          refine AllReadyH.cons (o := { dst := some 48, op := Op.call { callee := Callee.value (Operand.func 22), args := #[Operand.tmp 43, Operand.tmp 47], argTypes := #[9, 9] }, type := 4, pos := "laws.go:1003", after := #[{ on := 0, ground := Ground.data }, { on := 4, ground := Ground.data }], guard := none }) rfl (fun K hK => ?_) AllReadyH.nil
          go_simp
          (go_at_call 22; refine Calls.mono (E1.out _) ?_; rintro e w7 ⟨hW7, rfl⟩)
          go_wp2_with fail
          refine hK.out _ _ ((hW7.cell (by simpa using hgrw)).trans hck) (fun hHeld => ?_)
          clear hK K
          (try simp only [Act.put, List.setIfInBounds_toArray, List.set_cons_zero, List.set_cons_succ])
          refine wpAnyH_take (i := 6) (oi := { dst := some 49, op := Op.unOp UnOp.not 4 (Operand.tmp 48), type := 4, pos := "laws.go:1003", after := #[{ on := 5, ground := Ground.data }], guard := none }) (v := ?_) rfl (by kernel_rfl) (by kernel_rfl) (by kernel_rfl) (fun _ _ _ h => h) (Or.inl ⟨by kernel_rfl, ?_⟩) hHeld ?_
          rotate_left
          · intro w hSw
            (try dsimp only at hSw)
            go_simp
            (try with_reducible rfl)
          simp only [Act.put, List.setIfInBounds_toArray, List.set_cons_zero, List.set_cons_succ]
          refine wpAnyH_take (i := 7) (oi := { dst := some 50, op := Op.move (Operand.tmp 49), type := 4, pos := "laws.go:1003", after := #[{ on := 6, ground := Ground.data }, { on := 5, ground := Ground.chain }], guard := none }) (v := ?_) rfl (by kernel_rfl) (by kernel_rfl) (by kernel_rfl) (fun _ _ _ h => h) (Or.inl ⟨by kernel_rfl, ?_⟩) hHeld ?_
          rotate_left
          · intro w hSw
            (try dsimp only at hSw)
            go_simp
            (try with_reducible rfl)
          simp only [Act.put, List.setIfInBounds_toArray, List.set_cons_zero, List.set_cons_succ]
          refine wpAnyH_take (i := 8) (oi := { dst := some 51, op := Op.move (Operand.tmp 6), type := 3, pos := "laws.go:1003", after := #[{ on := 7, ground := Ground.guard }], guard := some (7, false) }) (v := ?_) rfl (by kernel_rfl) (by kernel_rfl) (by kernel_rfl) (fun _ _ _ h => h) (Or.inl ⟨by kernel_rfl, ?_⟩) hHeld ?_
          rotate_left
          · intro w hSw
            (try dsimp only at hSw)
            go_simp
            (try with_reducible rfl)
          simp only [Act.put, List.setIfInBounds_toArray, List.set_cons_zero, List.set_cons_succ]
          refine wpAnyH_take (i := 9) (oi := { dst := some 52, op := Op.binOp BinOp.gtr 3 (Operand.tmp 51) (Operand.const (Value.int IntKind.i64 0)) 3, type := 4, pos := "laws.go:1003", after := #[{ on := 8, ground := Ground.data }, { on := 7, ground := Ground.guard }], guard := some (7, false) }) (v := ?_) rfl (by kernel_rfl) (by kernel_rfl) (by kernel_rfl) (fun _ _ _ h => h) (Or.inl ⟨by kernel_rfl, ?_⟩) hHeld ?_
          rotate_left
          · intro w hSw
            (try dsimp only at hSw)
            go_simp
            (try with_reducible rfl)
          simp only [Act.put, List.setIfInBounds_toArray, List.set_cons_zero, List.set_cons_succ]
          refine wpAnyH_take (i := 10) (oi := { dst := some 53, op := Op.move (Operand.tmp 52), type := 4, pos := "laws.go:1003", after := #[{ on := 9, ground := Ground.data }, { on := 7, ground := Ground.chain }, { on := 7, ground := Ground.guard }], guard := some (7, false) }) (v := ?_) rfl (by kernel_rfl) (by kernel_rfl) (by kernel_rfl) (fun _ _ _ h => h) (Or.inl ⟨by kernel_rfl, ?_⟩) hHeld ?_
          rotate_left
          · intro w hSw
            (try dsimp only at hSw)
            go_simp
            (try with_reducible rfl)
          simp only [Act.put, List.setIfInBounds_toArray, List.set_cons_zero, List.set_cons_succ]
          refine wpAnyH_take (i := 11) (oi := { dst := some 54, op := Op.move (Operand.tmp 4), type := 26, pos := "laws.go:1003", after := #[{ on := 10, ground := Ground.guard }], guard := some (10, true) }) rfl (by kernel_rfl) (by kernel_rfl) (by kernel_rfl) (fun _ _ _ h => h) (Or.inr ⟨by kernel_rfl, rfl⟩) hHeld ?_
          simp only [Act.put, List.setIfInBounds_toArray, List.set_cons_zero, List.set_cons_succ]
          refine wpAnyH_take (i := 12) (oi := { dst := some 55, op := Op.move (Operand.tmp 6), type := 3, pos := "laws.go:1003", after := #[{ on := 10, ground := Ground.guard }], guard := some (10, true) }) rfl (by kernel_rfl) (by kernel_rfl) (by kernel_rfl) (fun _ _ _ h => h) (Or.inr ⟨by kernel_rfl, rfl⟩) hHeld ?_
          simp only [Act.put, List.setIfInBounds_toArray, List.set_cons_zero, List.set_cons_succ]
          refine wpAnyH_take (i := 13) (oi := { dst := some 56, op := Op.indexAddr 26 (Operand.tmp 54) (Operand.tmp 55), type := 0, pos := "laws.go:1003", after := #[{ on := 11, ground := Ground.data }, { on := 12, ground := Ground.data }, { on := 10, ground := Ground.guard }], guard := some (10, true) }) rfl (by kernel_rfl) (by kernel_rfl) (by kernel_rfl) (fun _ _ _ h => h) (Or.inr ⟨by kernel_rfl, rfl⟩) hHeld ?_
          simp only [Act.put, List.setIfInBounds_toArray, List.set_cons_zero, List.set_cons_succ]
          refine wpAnyH_take (i := 14) (oi := { dst := some 57, op := Op.load 9 (Operand.tmp 56), type := 9, pos := "laws.go:1003", after := #[{ on := 13, ground := Ground.data }, { on := 10, ground := Ground.guard }], guard := some (10, true) }) rfl (by kernel_rfl) (by kernel_rfl) (by kernel_rfl) (fun _ _ _ h => h) (Or.inr ⟨by kernel_rfl, rfl⟩) hHeld ?_
          simp only [Act.put, List.setIfInBounds_toArray, List.set_cons_zero, List.set_cons_succ]
          refine wpAnyH_take (i := 15) (oi := { dst := some 58, op := Op.move (Operand.tmp 4), type := 26, pos := "laws.go:1003", after := #[{ on := 10, ground := Ground.guard }], guard := some (10, true) }) rfl (by kernel_rfl) (by kernel_rfl) (by kernel_rfl) (fun _ _ _ h => h) (Or.inr ⟨by kernel_rfl, rfl⟩) hHeld ?_
          simp only [Act.put, List.setIfInBounds_toArray, List.set_cons_zero, List.set_cons_succ]
          refine wpAnyH_take (i := 16) (oi := { dst := some 59, op := Op.move (Operand.tmp 6), type := 3, pos := "laws.go:1003", after := #[{ on := 10, ground := Ground.guard }], guard := some (10, true) }) rfl (by kernel_rfl) (by kernel_rfl) (by kernel_rfl) (fun _ _ _ h => h) (Or.inr ⟨by kernel_rfl, rfl⟩) hHeld ?_
          simp only [Act.put, List.setIfInBounds_toArray, List.set_cons_zero, List.set_cons_succ]
          refine wpAnyH_take (i := 17) (oi := { dst := some 60, op := Op.binOp BinOp.sub 3 (Operand.tmp 59) (Operand.const (Value.int IntKind.i64 1)) 3, type := 3, pos := "laws.go:1003", after := #[{ on := 16, ground := Ground.data }, { on := 10, ground := Ground.guard }], guard := some (10, true) }) rfl (by kernel_rfl) (by kernel_rfl) (by kernel_rfl) (fun _ _ _ h => h) (Or.inr ⟨by kernel_rfl, rfl⟩) hHeld ?_
          simp only [Act.put, List.setIfInBounds_toArray, List.set_cons_zero, List.set_cons_succ]
          refine wpAnyH_take (i := 18) (oi := { dst := some 61, op := Op.indexAddr 26 (Operand.tmp 58) (Operand.tmp 60), type := 0, pos := "laws.go:1003", after := #[{ on := 15, ground := Ground.data }, { on := 17, ground := Ground.data }, { on := 10, ground := Ground.guard }], guard := some (10, true) }) rfl (by kernel_rfl) (by kernel_rfl) (by kernel_rfl) (fun _ _ _ h => h) (Or.inr ⟨by kernel_rfl, rfl⟩) hHeld ?_
          simp only [Act.put, List.setIfInBounds_toArray, List.set_cons_zero, List.set_cons_succ]
          refine wpAnyH_take (i := 19) (oi := { dst := some 62, op := Op.load 9 (Operand.tmp 61), type := 9, pos := "laws.go:1003", after := #[{ on := 18, ground := Ground.data }, { on := 10, ground := Ground.guard }], guard := some (10, true) }) rfl (by kernel_rfl) (by kernel_rfl) (by kernel_rfl) (fun _ _ _ h => h) (Or.inr ⟨by kernel_rfl, rfl⟩) hHeld ?_
          simp only [Act.put, List.setIfInBounds_toArray, List.set_cons_zero, List.set_cons_succ]
          refine wpAnyH_take (i := 20) (oi := { dst := some 63, op := Op.binOp BinOp.leq 9 (Operand.tmp 57) (Operand.tmp 62) 9, type := 4, pos := "laws.go:1003", after := #[{ on := 14, ground := Ground.data }, { on := 19, ground := Ground.data }, { on := 10, ground := Ground.guard }], guard := some (10, true) }) rfl (by kernel_rfl) (by kernel_rfl) (by kernel_rfl) (fun _ _ _ h => h) (Or.inr ⟨by kernel_rfl, rfl⟩) hHeld ?_
          simp only [Act.put, List.setIfInBounds_toArray, List.set_cons_zero, List.set_cons_succ]
          refine wpAnyH_take (i := 21) (oi := { dst := some 64, op := Op.pick (Operand.tmp 53) (Operand.tmp 63) (Operand.const (Value.bool false)), type := 4, pos := "laws.go:1003", after := #[{ on := 10, ground := Ground.data }, { on := 20, ground := Ground.data }, { on := 7, ground := Ground.guard }], guard := some (7, false) }) (v := ?_) rfl (by kernel_rfl) (by kernel_rfl) (by kernel_rfl) (fun _ _ _ h => h) (Or.inl ⟨by kernel_rfl, ?_⟩) hHeld ?_
          rotate_left
          · intro w hSw
            (try dsimp only at hSw)
            go_simp
            (try with_reducible rfl)
          simp only [Act.put, List.setIfInBounds_toArray, List.set_cons_zero, List.set_cons_succ]
          refine wpAnyH_take (i := 22) (oi := { dst := some 65, op := Op.pick (Operand.tmp 50) (Operand.const (Value.bool true)) (Operand.tmp 64), type := 4, pos := "laws.go:1003", after := #[{ on := 7, ground := Ground.data }, { on := 21, ground := Ground.data }], guard := none }) (v := ?_) rfl (by kernel_rfl) (by kernel_rfl) (by kernel_rfl) (fun _ _ _ h => h) (Or.inl ⟨by kernel_rfl, ?_⟩) hHeld ?_
          rotate_left
          · intro w hSw
            (try dsimp only at hSw)
            go_simp
            (try with_reducible rfl)
          simp only [Act.put, List.setIfInBounds_toArray, List.set_cons_zero, List.set_cons_succ]
          refine wpAnyH_done (by kernel_rfl) ?_ _
          have hV7b : Below w6.heap.size w6 w7 := (HV.out.drew).trans (hW7.mono hVs)
          go_wp2_with fail
          refine (E2.out _).mono ?_
          rintro e w8 ⟨hW8, a8, c8, rfl, hI8⟩
          have hV8b : Below w6.heap.size w6 w8 := hV7b.trans (hW8.mono hV7b.size)
          clear hI8
          obtain ⟨m, hm⟩ : ∃ m, (statesP N.n P).length = m := ⟨_, rfl⟩
          rw [hm] at Hs1 ⊢
          clear hm
          by_cases hm1 : m = 1
          · have em : ((m : Int) == 1) = true := by rw [hm1]; rfl
            have Hs2 := Lib.hid (show oneTo N.n ps (0 + 1) = oneTo N.n ps 0 + 1 by rw [Hs1.out, if_pos hm1])
            obtain ⟨oc, hoc⟩ : ∃ o, oneTo N.n ps 0 = o := ⟨_, rfl⟩
            rw [hoc] at Hs2 hol ⊢
            clear hm1 hoc
            go_wp2_with fail
            go_loopw [7, 8, 9] (fun j _ _ wr => j = .int .i64 0 ∧ Below w6.heap.size w6 wr) (fun _ _ _ _ => 0)
            case atStart => exact ⟨rfl, hV8b⟩
            case round =>
              obtain ⟨rfl, hY⟩ := hrel
              go_wp2_with fail
              go_roundw
              case rel => exact ⟨0 + 1, by omega, by first | rfl | go_num, by first | (rw [Hs2.out]; done) | (rw [Hs2.out]; rfl) | (rw [Hs2.out]; go_num), hY⟩
              case measure => simp [intOf] <;> omega
          · have em : ((m : Int) == 1) = false := by rw [beq_eq_false_iff_ne]; omega
            have Hs2 := Lib.hid (show oneTo N.n ps (0 + 1) = oneTo N.n ps 0 by rw [Hs1.out, if_neg hm1]; rfl)
            obtain ⟨oc, hoc⟩ : ∃ o, oneTo N.n ps 0 = o := ⟨_, rfl⟩
            rw [hoc] at Hs2 hol ⊢
            clear hm1 hoc
            go_wp2_with fail
            go_loopw [7, 8, 9] (fun j _ _ wr => j = .int .i64 0 ∧ Below w6.heap.size w6 wr) (fun _ _ _ _ => 0)
            case atStart => exact ⟨rfl, hV8b⟩
            case round =>
              obtain ⟨rfl, hY⟩ := hrel
              go_wp2_with fail
              go_roundw
              case rel => exact ⟨0 + 1, by omega, by first | rfl | go_num, by first | (rw [Hs2.out]; done) | (rw [Hs2.out]; rfl) | (rw [Hs2.out]; go_num), hY⟩
              case measure => simp [intOf] <;> omega
      · obtain rfl : k = L.length := by omega
        have hB7 := hB6.trans (hV.mono hB6.size)
        have hsz0 : ((oneTo N.n ps L.length : Nat) : Int) = (((fixL N).length : Nat) : Int) := by rw [Hlt.out, Hcnt.out]
        have hc0 := Hcl.out
        rw [hsz0]
        clear hsz0
        have Hs0 := Lib.hid (Hstar.out)
        have hnn := hn.2
        have hNi : ((N.n : Nat) : Int) ≤ 5 := by omega
        go_wp2_with fail
        refine (cz.out _).mono ?_
        rintro e w7 ⟨hW7, rfl⟩
        have hV7 := hV.trans (hW7.mono hVs)
        have hB8 := hB7.trans (hW7.mono hB7.size)
        have hc7 := Hcl.out w7 hV7 0 hL0
        rw [Hst0.out hL0, ← Hs0.out] at hc7
        obtain ⟨st, hst⟩ : ∃ x, (⟨#[42, 42, 42, 42, 42]⟩ : ByteArray).extract 0 N.n = x := ⟨_, rfl⟩
        rw [hst] at hc7
        clear hc0
        have efx : ((((fixL N).length : Nat) : Int) == (((fixL N).length : Nat) : Int)) = true := by simp
        obtain ⟨fx, hfx⟩ : ∃ x, (fixL N).length = x := ⟨_, rfl⟩
        rw [hfx] at efx
        rw [hfx]
        have Cp := Lib.hid (hfx ▸ cp.out)
        go_wp2_with fail

        refine (Cp.out _).mono ?_
        rintro e w8 ⟨hW8, a8, c8, rfl, hI8⟩
        clear hI8
        go_wp2_with fail
        go_ret
        exact ⟨hB8.trans (hW8.mono hB8.size), by first | rfl | simp⟩
end Go.Proofs.YtcddnacbjdahbaaDoor
