/- The program's count of the attractors within a trap. -/
import Derived.Test.YtcddnacbjdahbaaDoorImplX
import Derived.Test.YtcddnacbjdahbaaDoorImplG
namespace Go.Proofs.YtcddnacbjdahbaaDoor
open Go Go.RowKit Go.Sw
set_option maxRecDepth 100000
set_option linter.unusedVariables false

theorem indexI_any (B : Nat) (xs : List Nat) (a : Option Addr) (cp : Nat) (k : Nat) (cap : Array Value) (p : Nat → Bool) (w : World) (hT : IntsAt w B a (nats xs)) (hl : xs.length ≤ 1000000)
    (hk : ∀ args w, (callFunc k args).run Tryd.prog w = .ok (.enter k args) w)
    (hcl : ∀ (t : Nat) (wx : World), t ∈ xs → Below w.heap.size w wx → Calls Tryd.prog k (#[.int .i64 t] ++ cap) wx fun e w' => Below wx.heap.size wx w' ∧ e = .returned (.bool (p t))) :
    Calls Tryd.prog 147 #[.slice a xs.length cp, .func (.func k) #[] cap] w fun e w' => Below w.heap.size w w' ∧ ∃ r : Int, e = .returned (.int .i64 r) ∧ decide (0 ≤ r) = xs.any p := by
  have HT := Lib.hid hT
  have Hcl := Lib.hid hcl
  clear hcl hT
  go_enter Tryd.func147, Tryd.ntmps147
  go_wp2_with fail
  go_loopw [5, 8] (fun _ i wr => ∃ m : Nat, m ≤ xs.length ∧ i = .int .i64 m ∧ (∀ j (hj : j < xs.length), j < m → p xs[j] = false) ∧ Below w.heap.size w wr) (fun _ i _ => xs.length - (intOf i).toNat)
  case atStart => exact ⟨0, Nat.zero_le _, rfl, fun _ _ h => absurd h (Nat.not_lt_zero _), Below.refl _ _⟩
  case round =>
    obtain ⟨m, hm, rfl, hall, hW⟩ := hrel
    have Hall := Lib.hid hall
    clear hall
    by_cases hlt : m < xs.length
    · obtain ⟨g, cur, tt, rfl, hBg, hcur, hcs, hcells⟩ := HT.out.at' (by rw [nats_length]; omega)
      have hcell : wr.cell? ⟨g, m, none⟩ = some (.int .i64 (xs[m] : Int)) := by
        rw [hW.cell (block_lt hcur), cell_of_row w _ _ _ _ _ hcur, hcells m (by rw [nats_length]; exact hlt)]
        simp [nats]
      have c5 := Lib.hid (Hcl.out xs[m] wr (List.getElem_mem hlt) hW)
      have hWs := hW.size
      clear hcells hcur hcs
      cases hp : p xs[m]
      · have Hall2 := Lib.hid (show ∀ (j : Nat) (hj : j < xs.length), j < m + 1 → p xs[j] = false from fun j hj h => by
          by_cases e : j = m
          · subst e; exact hp
          · exact Hall.out j hj (by omega))
        rw [hp] at c5
        clear hp
        go_wp2_with fail
        refine c5.out.mono ?_
        rintro e w2 ⟨hW2, rfl⟩
        go_wp2_with fail
        go_roundw
        case rel => exact ⟨m + 1, by omega, by go_num, Hall2.out, hW.trans (hW2.mono hWs)⟩
        case measure => simp [intOf] <;> omega
      · have Hres := Lib.hid (show xs.any p = true from List.any_eq_true.2 ⟨_, List.getElem_mem hlt, hp⟩)
        rw [hp] at c5
        clear hp
        go_wp2_with fail
        refine c5.out.mono ?_
        rintro e w2 ⟨hW2, rfl⟩
        go_wp2_with fail
        go_ret
        exact ⟨hW.trans (hW2.mono hWs), _, rfl, by rw [Hres.out, decide_eq_true_eq]; exact Int.natCast_nonneg m⟩
    · have Hres := Lib.hid (show xs.any p = false from by
        rw [List.any_eq_false]
        intro x hx
        obtain ⟨j, hj, rfl⟩ := List.getElem_of_mem hx
        rw [Hall.out j hj (by omega)]; decide)
      go_wp2_with fail
      go_ret
      exact ⟨hW, _, rfl, by rw [Hres.out]; decide⟩
theorem containsI_any (B : Nat) (xs : List Nat) (a : Option Addr) (cp : Nat) (k : Nat) (cap : Array Value) (p : Nat → Bool) (w : World) (hT : IntsAt w B a (nats xs)) (hl : xs.length ≤ 1000000)
    (hk : ∀ args w, (callFunc k args).run Tryd.prog w = .ok (.enter k args) w)
    (hcl : ∀ (t : Nat) (wx : World), t ∈ xs → Below w.heap.size w wx → Calls Tryd.prog k (#[.int .i64 t] ++ cap) wx fun e w' => Below wx.heap.size wx w' ∧ e = .returned (.bool (p t))) :
    Calls Tryd.prog 78 #[.slice a xs.length cp, .func (.func k) #[] cap] w fun e w' => Below w.heap.size w w' ∧ e = .returned (.bool (xs.any p)) := by
  have C := Lib.hid (indexI_any B xs a cp k cap p w hT hl hk hcl)
  clear hcl hT
  go_enter Tryd.func78, Tryd.ntmps78
  go_wp2_with fail
  refine C.out.mono ?_
  rintro e w2 ⟨hW2, r, rfl, hr⟩
  have Hr := Lib.hid hr
  clear hr
  go_wp2_with fail
  go_ret
  exact ⟨hW2, by rw [← Hr.out]; rfl⟩
theorem attractorsIn1_any (bv n s : Nat) (p : Trm) (hn : n ≤ 5) (hs : s < 32) (w : World) (hbv : bv < w.heap.size) (hc : w.cell? ⟨bv, 0, none⟩ = some (.string (termT n p))) :
    Calls Tryd.prog 79 #[.int .i64 s, .pointer (some ⟨bv, 0, none⟩)] w fun e w' => Below w.heap.size w w' ∧ e = .returned (.bool (!hasP n p s)) := by
  have C := Lib.hid (hasState_any n s p hn hs w)
  go_enter Tryd.func79, Tryd.ntmps79
  go_wp2_with fail
  refine C.out.mono ?_
  rintro e w2 ⟨hW2, rfl⟩
  go_wp2_with fail
  go_ret
  exact ⟨hW2, rfl⟩
theorem RowsAt.get {w : World} {base : Nat} {out : Value} {Ls : List (List Nat)} {vs : List Value} (h : RowsAt w base out Ls vs) : ∃ a c, out = .slice a Ls.length c ∧ (0 < Ls.length → ∃ g, a = some ⟨g, 0, none⟩ ∧ g < w.heap.size ∧ ∀ j (hj : j < Ls.length), ∃ x d, w.cell? ⟨g, j, none⟩ = some (.slice x Ls[j].length d) ∧ IntsAt w base x (nats Ls[j])) := by
  have hl := h.len
  rcases h.own.2 with ⟨e, hz⟩ | ⟨g, cap, cur, e, hb, hg, h1, h2, h3, h4⟩
  · exact ⟨none, 0, by rw [e, ← hl, hz], fun h0 => by omega⟩
  · refine ⟨_, cap, by rw [e, hl], fun h0 => ⟨g, rfl, block_lt hg, fun j hj => ?_⟩⟩
    obtain ⟨x, d, e1, e2, _⟩ := h.each j hj
    refine ⟨x, d, ?_, e2⟩
    rw [cell_of_row w _ _ _ _ _ hg]
    rw [← h4, List.getElem?_take] at e1
    rw [if_pos (by omega)] at e1
    simpa using e1
def cntTo (N : Net) (p : Trm) (q : Nat → Bool) (k : Nat) : Nat := (((pickL q (pw N.n)).take k).filter fun s => hasP N.n p s).length
theorem cntTo_le (N : Net) (p : Trm) (q : Nat → Bool) (k : Nat) : cntTo N p q k ≤ 2 ^ 5 + pw N.n := by
  unfold cntTo
  have h1 := List.length_filter_le (fun s => hasP N.n p s) ((pickL q (pw N.n)).take k)
  have h2 := pickL_length q (pw N.n)
  rw [List.length_take] at h1
  omega
theorem cntTo_suc (N : Net) (p : Trm) (q : Nat → Bool) (k : Nat) (hk : k < (pickL q (pw N.n)).length) : cntTo N p q (k + 1) = cntTo N p q k + if hasP N.n p (pickL q (pw N.n))[k] then 1 else 0 := by
  unfold cntTo
  rw [List.take_add_one, List.getElem?_eq_getElem hk, Option.toList_some, List.filter_append, List.length_append]
  congr 1
  cases h : hasP N.n p (pickL q (pw N.n))[k] <;> simp [h]
theorem cntTo_all (N : Net) (p : Trm) : cntTo N p (leastB N) (attL N).length = attIn N p := by
  unfold cntTo attIn attL
  rw [List.length_map]
  show (List.filter _ (List.take (attS N).length (attS N))).length = _
  rw [List.take_length]
set_option maxHeartbeats 2000000 in
theorem attractorsIn_impl (t u : ByteArray) (w : World) (hs : t.size ≤ 1048576) (hu : u.size ≤ 1048576) :
    Calls Tryd.prog 16 #[.string t, .string u] w fun e w' => Below w.heap.size w w' ∧ e = .returned (.int .i64 (attI t u)) := by
  have hsz : (w.alloc (.cells #[.string u] 9)).heap.size = w.heap.size + 1 := by simp
  have hB0 : Below w.heap.size w (w.alloc (.cells #[.string u] 9)) := (Below.refl _ _).alloc (Nat.le_refl _) _
  cases hok : termOk t u
  · have hr : attI t u = -1 := by rw [attI, hok]; rfl
    rw [hr]
    have c := Lib.hid (termOf_no t u (w.alloc (.cells #[.string u] 9)) hs hu hok)
    clear hr hok
    go_enter Tryd.func16, Tryd.ntmps16
    go_wp2_with fail
    refine c.out.mono ?_
    rintro e w1 ⟨hW1, v, rfl⟩
    go_wp2_with fail
    go_ret
    exact ⟨hB0.trans (hW1.mono (by omega)), rfl⟩
  · have hr : attI t u = if trapP (netOf t) (ofT u) then ((attIn (netOf t) (ofT u) : Nat) : Int) else -1 := by rw [attI, hok, Bool.true_and]
    have hok2 := hok
    unfold termOk at hok2
    rw [Bool.and_eq_true] at hok2
    have hn := netOf_ok hok2.1
    have hut : termT (netOf t).n (ofT u) = u := termT_of hok2.2
    have c := termOf_yes t u (w.alloc (.cells #[.string u] 9)) hs hu hok
    rw [hr]
    obtain ⟨p, hp0⟩ : ∃ p0, ofT u = p0 := ⟨_, rfl⟩
    rw [hp0] at hut ⊢
    rw [← hut]
    rw [← hut] at c hsz hB0
    obtain ⟨N, hN⟩ : ∃ N, netOf t = N := ⟨_, rfl⟩
    rw [hN] at hn c hsz hB0 ⊢
    have hpw := pw_le hn.2
    have C := Lib.hid c
    clear hr hok hok2 hut c hN hp0 hu
    have hcell0 := Lib.hid (cell_of_row (w.alloc (.cells #[.string (termT N.n p)] 9)) w.heap.size 0 #[.string (termT N.n p)] 9 (0, 0) (heap_alloc_last _ _))
    cases ht : trapP N p
    · have Ht := Lib.hid ht
      rw [if_neg (by decide)]
      clear ht
      go_enter Tryd.func16, Tryd.ntmps16
      go_wp2_with fail
      refine C.out.mono ?_
      rintro e w1 ⟨hW1, b, cap, rfl, hb1, hb2, hat⟩
      have c1 := trap_any b cap N hn.2 p w1 hat hb2
      rw [Ht.out] at c1
      have hcell : w1.cell? ⟨w.heap.size, 0, none⟩ = some (.string (termT N.n p)) := (hW1.cell (by show w.heap.size < _; omega)).trans hcell0.out
      have C1 := Lib.hid c1
      clear c1 hat
      go_wp2_with fail
      refine C1.out.mono ?_
      rintro e w2 ⟨hW2, rfl⟩
      go_wp2_with fail
      go_ret
      exact ⟨hB0.trans ((hW1.trans (hW2.mono hW1.size)).mono (by omega)), rfl⟩
    · have Ht := Lib.hid ht
      have Hall := Lib.hid (fun s (h : s < pw N.n) => att_all ht h)
      rw [if_pos rfl]
      clear ht
      go_enter Tryd.func16, Tryd.ntmps16
      go_wp2_with fail
      refine C.out.mono ?_
      rintro e w1 ⟨hW1, b, cap, rfl, hb1, hb2, hat⟩
      have c1 := trap_any b cap N hn.2 p w1 hat hb2
      rw [Ht.out] at c1
      have hcell : w1.cell? ⟨w.heap.size, 0, none⟩ = some (.string (termT N.n p)) := (hW1.cell (by show w.heap.size < _; omega)).trans hcell0.out
      have hW1s := hW1.size
      rw [hsz] at hW1s
      have C1 := Lib.hid c1
      have Hat := Lib.hid hat
      clear c1 hat
      go_wp2_with fail
      refine C1.out.mono ?_
      rintro e w2 ⟨hW2, rfl⟩
      have hW2s := hW2.size
      have cA := Lib.hid (attractors_any b cap N hn.2 w2 (Hat.out.below hW2 hb2) (by omega))
      go_wp2_with fail
      refine cA.out.mono ?_
      rintro e w3 ⟨hW3, out, vs, rfl, hR⟩
      obtain ⟨a, co, rfl, hget⟩ := hR.get
      have Hget := Lib.hid hget
      have hLL : (attL N).length ≤ 32 := by
        have := attTo_length N (pw N.n)
        rw [attTo_all] at this
        omega
      have hW3s := hW3.size
      have hcell3 : w3.cell? ⟨w.heap.size, 0, none⟩ = some (.string (termT N.n p)) := (hW3.cell (by show w.heap.size < _; omega)).trans ((hW2.cell (by show w.heap.size < _; omega)).trans hcell)
      have Hcell3 := Lib.hid hcell3
      have hB3 : Below w.heap.size w w3 := hB0.trans ((hW1.trans ((hW2.trans (hW3.mono hW2s)).mono hW1.size)).mono (by omega))
      clear hget hR hcell hcell3
      go_wp2_with fail
      go_loopw [7, 9, 27] (fun cv _ i wr => ∃ k : Nat, k ≤ (attL N).length ∧ i = .int .i64 k ∧ cv = .int .i64 (cntTo N p (leastB N) k) ∧ Below w3.heap.size w3 wr) (fun _ _ i _ => (attL N).length - (intOf i).toNat)
      case atStart => exact ⟨0, Nat.zero_le _, rfl, rfl, Below.refl _ _⟩
      case round =>
        obtain ⟨k, hk, rfl, rfl, hW⟩ := hrel
        have hWs := hW.size
        have hle := cntTo_le N p (leastB N) k
        by_cases hlt : k < (attL N).length
        · obtain ⟨g, rfl, hg, hgs⟩ := Hget.out (by omega)
          obtain ⟨x, d, hx, hI⟩ := hgs k hlt
          have hx' := (hW.cell hg).trans hx
          have hkS : k < (attS N).length := by rw [attL, List.length_map] at hlt; exact hlt
          obtain ⟨s, hs0⟩ : ∃ s, (attS N)[k] = s := ⟨_, rfl⟩
          have hsm := pickL_mem.1 (show s ∈ pickL (leastB N) (pw N.n) from by rw [← hs0]; exact List.getElem_mem hkS)
          have hLk : (attL N)[k] = stR N s := by
            rw [← hs0]; simp [attL]
          have hsuc : cntTo N p (leastB N) (k + 1) = cntTo N p (leastB N) k + if hasP N.n p s then 1 else 0 := by rw [← hs0]; exact cntTo_suc N p (leastB N) k hkS
          rw [hLk] at hx' hI
          have hal := Hall.out s hsm.1
          have hsl : (stR N s).length ≤ 32 := Nat.le_trans (pickL_length _ _) (by omega)
          have hmem : ∀ y ∈ stR N s, y < 32 := fun y hy => by have := (pickL_mem.1 hy).1; omega
          obtain ⟨xs, hxs⟩ : ∃ xs, stR N s = xs := ⟨_, rfl⟩
          rw [hxs] at hx' hI hal hsl hmem
          have hcA := containsI_any (w2.heap.size) xs x d 79 #[.pointer (some ⟨w.heap.size, 0, none⟩)] (fun y => !hasP N.n p y) wr (hI.below hW) (by omega) (enters_fn Tryd.func79 (by kernel_rfl) rfl) (fun y wx hy hx2 => attractorsIn1_any w.heap.size N.n y p hn.2 (hmem y hy) wx (by have := hx2.size; omega) ((hx2.cell (by show w.heap.size < _; omega)).trans ((hW.cell (by show w.heap.size < _; omega)).trans Hcell3.out)))
          rw [hal] at hcA
          clear hx hI hgs hs0 hsm hLk hal hmem hxs hkS
          cases hh : hasP N.n p s <;> rw [hh] at hcA hsuc
          · have CA := Lib.hid hcA
            have Hs := Lib.hid (show cntTo N p (leastB N) (k + 1) = cntTo N p (leastB N) k from hsuc)
            clear hcA hsuc hh
            go_wp2_with fail
            refine CA.out.mono ?_
            rintro e w5 ⟨hW5, rfl⟩
            go_wp2_with fail
            go_roundw
            case rel => exact ⟨k + 1, by omega, by go_num, by rw [Hs.out], hW.trans (hW5.mono hWs)⟩
            case measure => simp [intOf] <;> omega
          · have CA := Lib.hid hcA
            have Hs := Lib.hid (show cntTo N p (leastB N) (k + 1) = cntTo N p (leastB N) k + 1 from hsuc)
            clear hcA hsuc hh
            obtain ⟨cn, hcn⟩ : ∃ cn, cntTo N p (leastB N) k = cn := ⟨_, rfl⟩
            rw [hcn] at Hs hle ⊢
            clear hcn
            go_wp2_with fail
            refine CA.out.mono ?_
            rintro e w5 ⟨hW5, rfl⟩
            go_wp2_with fail
            go_roundw
            case rel => exact ⟨k + 1, by omega, by go_num, by rw [Hs.out]; go_num, hW.trans (hW5.mono hWs)⟩
            case measure => simp [intOf] <;> omega
        · obtain rfl : k = (attL N).length := by omega
          rw [cntTo_all]
          go_wp2_with fail
          go_ret
          exact ⟨hB3.trans (hW.mono hB3.size), rfl⟩
end Go.Proofs.YtcddnacbjdahbaaDoor
