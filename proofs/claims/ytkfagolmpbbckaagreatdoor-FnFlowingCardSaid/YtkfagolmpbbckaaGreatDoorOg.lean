/- The program's cycles, all. -/
import Derived.Test.YtkfagolmpbbckaaGreatDoorOe
import Derived.Test.YtkfagolmpbbckaaGreatDoorAp
namespace Go.Proofs.YtkfagolmpbbckaaGreatDoor
open Go Go.RowKit Go.Sw
set_option maxRecDepth 100000
set_option linter.unusedVariables false

theorem intss_rowQ : (Tryz.prog.info? 27).map (fun i => (i.zero, i.size, i.bytes)) = some (some (.slice none 0 0), 1, 24) := by kernel_rfl
theorem intss_oneQ (a : Option Addr) (n c : Nat) (w : World) : (Instr.buildSlice 29 1 [(0, .slice a n c)].toArray).run Tryz.prog w =
    .ok (.slice (some ⟨w.heap.size, 0, none⟩) 1 1) (w.alloc (.cells #[.slice a n c] 27)) := by kernel_rfl
structure RowsQ (w : World) (base : Nat) (out : Value) (Ls : List (List Nat)) (vs : List Value) : Prop where
  own : w.ownsRow base 27 1 out vs.length vs
  len : vs.length = Ls.length
  each : ∀ j (h : j < Ls.length), ∃ a c, vs[j]? = some (.slice a Ls[j].length c) ∧ IntsAt w base a (nats Ls[j]) ∧ (0 < Ls[j].length → ∀ q, a = some ⟨q, 0, none⟩ → out.ownBlock ≠ some q)
theorem RowsQ.below {w w' : World} {base : Nat} {out : Value} {Ls : List (List Nat)} {vs : List Value} (h : RowsQ w base out Ls vs) (hb : Below w.heap.size w w') : RowsQ w' base out Ls vs :=
  ⟨own_below h.own hb, h.len, fun j hj => by
    obtain ⟨a, c, e1, e2, e3⟩ := h.each j hj
    exact ⟨a, c, e1, e2.below hb, e3⟩⟩
theorem RowsQ.same {w w' : World} {base : Nat} {out : Value} {Ls : List (List Nat)} {vs : List Value} (h : RowsQ w base out Ls vs) (hs : ∀ q, base ≤ q → q < w.heap.size → w'.heap[q]? = w.heap[q]?) : RowsQ w' base out Ls vs :=
  ⟨own_same h.own fun q hq => hs q (own_ge h.own hq) (own_blt h.own hq), h.len, fun j hj => by
    obtain ⟨a, c, e1, e2, e3⟩ := h.each j hj
    refine ⟨a, c, e1, e2.same fun h0 g hga => ?_, e3⟩
    have hl := e2.lt h0 g hga
    obtain ⟨g', _, _, k1, k2, _⟩ := e2.at' h0
    rw [hga] at k1; cases k1
    exact hs g k2 hl⟩
theorem RowsQ.more {w w' : World} {base : Nat} {out out' : Value} {Ls : List (List Nat)} {vs : List Value} {L : List Nat} {a : Option Addr} {c : Nat} (h : RowsQ w base out Ls vs) (hI : IntsAt w base a (nats L))
    (hne : 0 < L.length → ∀ q, a = some ⟨q, 0, none⟩ → out.ownBlock ≠ some q) (hg : w.grownBy w' out.ownBlock) (hown : w'.ownsRow base 27 1 out' (vs.length + 1) (vs ++ [.slice a L.length c])) (hat : out'.ownBlock = out.ownBlock ∨ out'.ownBlock = some w.heap.size) :
    RowsQ w' base out' (Ls ++ [L]) (vs ++ [.slice a L.length c]) := by
  have key : ∀ (M : List Nat) (x : Option Addr), IntsAt w base x (nats M) → (0 < M.length → ∀ q, x = some ⟨q, 0, none⟩ → out.ownBlock ≠ some q) → IntsAt w' base x (nats M) ∧ (0 < M.length → ∀ q, x = some ⟨q, 0, none⟩ → out'.ownBlock ≠ some q) := by
    intro M x hx hn
    refine ⟨hx.same fun h0 g hga => hg.block g (hx.lt h0 g hga) fun e => hn (by simpa [nats_length] using h0) g hga e.symm, fun h0 q hq e => ?_⟩
    rcases hat with k | k
    · exact hn h0 q hq (k.symm.trans e)
    · have := hx.lt (by rw [nats_length]; exact h0) q hq
      rw [k] at e
      have := Option.some.inj e
      omega
  refine ⟨by rw [List.length_append]; exact hown, by simp [h.len], fun j hj => ?_⟩
  by_cases e : j < Ls.length
  · obtain ⟨x, d, e1, e2, e3⟩ := h.each j e
    obtain ⟨k1, k2⟩ := key _ _ e2 e3
    have e4 : (Ls ++ [L])[j] = Ls[j] := List.getElem_append_left e
    rw [e4]
    exact ⟨x, d, by rw [List.getElem?_append_left (by rw [h.len]; exact e)]; exact e1, k1, k2⟩
  · have hj' : j = Ls.length := by simp at hj; omega
    subst hj'
    obtain ⟨k1, k2⟩ := key _ _ hI hne
    have e4 : (Ls ++ [L])[Ls.length] = L := by simp
    rw [e4]
    exact ⟨a, c, by rw [← h.len]; simp, k1, k2⟩
theorem RowsQ.mono {w : World} {base base' : Nat} {out : Value} {Ls : List (List Nat)} {vs : List Value} (h : RowsQ w base out Ls vs) (hb : base' ≤ base) : RowsQ w base' out Ls vs := by
  refine ⟨⟨h.own.1, ?_⟩, h.len, fun j hj => by
    obtain ⟨a, c, e1, e2, e3⟩ := h.each j hj
    exact ⟨a, c, e1, e2.mono hb, e3⟩⟩
  rcases h.own.2 with h0 | ⟨g, cap, cur, h1, h2, h3⟩
  · exact .inl h0
  · exact .inr ⟨g, cap, cur, h1, by omega, h3⟩
theorem RowsQ.get {w : World} {base : Nat} {out : Value} {Ls : List (List Nat)} {vs : List Value} (h : RowsQ w base out Ls vs) : ∃ a c, out = .slice a Ls.length c ∧ (0 < Ls.length → ∃ g, a = some ⟨g, 0, none⟩ ∧ g < w.heap.size ∧ ∀ j (hj : j < Ls.length), ∃ x d, w.cell? ⟨g, j, none⟩ = some (.slice x Ls[j].length d) ∧ IntsAt w base x (nats Ls[j])) := by
  have hl := h.len
  rcases h.own.2 with ⟨e, hz⟩ | ⟨g, cap, cur, e, hb, hg, h1, h2, h3, h4⟩
  · exact ⟨none, 0, by rw [e, ← hl, hz], fun h0 => by omega⟩
  · refine ⟨_, cap, by rw [e, hl], fun h0 => ⟨g, rfl, block_lt hg, fun j hj => ?_⟩⟩
    obtain ⟨x, d, e1, e2, _⟩ := h.each j hj
    refine ⟨x, d, ?_, e2⟩
    rw [cell_of_row w _ _ _ _ _ hg]
    rw [← h4, List.getElem?_take] at e1
    rw [if_pos (by omega)] at e1
    simpa using e1
/-- what is said of the cycles told so far -/
structure CycSt (N : Net) (k : Nat) (Ls : List (List Nat)) : Prop where
  len : Ls.length ≤ k
  each : ∀ L ∈ Ls, ∃ s, s < k ∧ CycW N s L ∧ L.headD 0 = s
  fix : ∀ s, s < k → stepN N s = s → s < pw N.n → [s] ∈ Ls
  heads : (Ls.map fun L => L.headD 0).Pairwise (· < ·)
theorem CycSt.zero (N : Net) : CycSt N 0 [] := ⟨Nat.le_refl _, (fun L h => by cases h), fun s h => absurd h (Nat.not_lt_zero _), by simp⟩
theorem CycSt.yes {N : Net} {k : Nat} {Ls : List (List Nat)} {L : List Nat} (h : CycSt N k Ls) (hc : CycW N k L) (hh : L.headD 0 = k) : CycSt N (k + 1) (Ls ++ [L]) := by
  refine ⟨by rw [List.length_append]; have := h.len; simp; omega, fun M hM => ?_, fun s hs hf hp => ?_, ?_⟩
  · rcases List.mem_append.1 hM with hM | hM
    · obtain ⟨s, h1, h2⟩ := h.each M hM
      exact ⟨s, by omega, h2⟩
    · obtain rfl : M = L := by simpa using hM
      exact ⟨k, Nat.lt_succ_self k, hc, hh⟩
  · by_cases e : s = k
    · subst e
      have := cyc_rest hc ⟨hp, by rw [iterN_fix N _ _ hf]; exact hf⟩
      rw [lim_same hf] at this
      rw [this]; simp
    · exact List.mem_append_left _ (h.fix s (by omega) hf hp)
  · rw [List.map_append, List.pairwise_append]
    refine ⟨h.heads, by simp, fun x hx y hy => ?_⟩
    obtain ⟨M, hM, rfl⟩ := List.mem_map.1 hx
    obtain ⟨s, h1, _, h3⟩ := h.each M hM
    have : y = L.headD 0 := by simpa using hy
    rw [this, hh, h3]; exact h1
theorem CycSt.no {N : Net} {k : Nat} {Ls : List (List Nat)} {L : List Nat} (h : CycSt N k Ls) (hc : CycW N k L) (hh : L.headD 0 ≠ k) : CycSt N (k + 1) Ls := by
  refine ⟨by have := h.len; omega, fun M hM => ?_, fun s hs hf hp => ?_, h.heads⟩
  · obtain ⟨s, h1, h2⟩ := h.each M hM
    exact ⟨s, by omega, h2⟩
  · by_cases e : s = k
    · subst e
      have := cyc_rest hc ⟨hp, by rw [iterN_fix N _ _ hf]; exact hf⟩
      rw [lim_same hf] at this
      rw [this] at hh
      exact absurd rfl hh
    · exact h.fix s (by omega) hf hp
set_option maxHeartbeats 4000000 in
theorem cyclesOf_impl (t : ByteArray) (w : World) (hs : t.size ≤ 1048576) (hok : netOk t = true) :
    Calls Tryz.prog 28 #[.string t] w fun e w' => Below w.heap.size w w' ∧ ∃ Ls out vs, CycSt (netOf t) (pw (netOf t).n) Ls ∧ e = .returned out ∧ RowsQ w' w.heap.size out Ls vs := by
  have hn := netOf_ok hok
  have cR := Lib.hid (readNetwork_any t w hs)
  have Hok := Lib.hid hok
  obtain ⟨N, hN⟩ : ∃ N, netOf t = N := ⟨_, rfl⟩
  rw [hN] at hn cR ⊢
  have hpw := pw_le hn.2
  clear hok hN
  go_enter Tryz.func28, Tryz.ntmps28
  go_wp2_with fail
  refine cR.out.mono ?_
  rintro e w1 ⟨hW1, ⟨hbad, rfl⟩ | ⟨hok, b, cap, rfl, hb1, hb2, hat⟩⟩
  · have := Hok.out
    rw [hbad] at this
    cases this
  have Hat := Lib.hid hat
  have hW1s := hW1.size
  clear hat hok
  have hrow0 := Lib.hid (show RowsQ w1 w1.heap.size (.slice none 0 0) [] [] from ⟨World.ownsRow_nil _ _ _ _, rfl, fun j hj => by simp at hj⟩)
  go_wp2_with (go_at_call 51; refine (states_any _ _ _ hn.2 _).mono ?_; rintro e w' ⟨rfl, rfl⟩)
  go_loopw [5, 6, 7, 17] (fun out _ _ i wr => ∃ (k : Nat) (Ls : List (List Nat)) (vs : List Value), k ≤ pw N.n ∧ i = .int .i64 k ∧ CycSt N k Ls ∧ RowsQ wr w1.heap.size out Ls vs ∧ Below w1.heap.size w1 wr) (fun _ _ _ i _ => pw N.n - (intOf i).toNat)
  case atStart => exact ⟨0, [], [], Nat.zero_le _, rfl, CycSt.zero N, hrow0.out, Below.refl _ _⟩
  case round =>
    obtain ⟨k, Ls, vs, hk, rfl, hst, hrows, hW⟩ := hrel
    have HRows := Lib.hid hrows
    have Hst := Lib.hid hst
    have hWs := hW.size
    have hvl : vs.length ≤ 32 := by rw [hrows.len]; have := hst.len; omega
    clear hrows hst
    by_cases hlt : k < pw N.n
    · have cY := Lib.hid (cycle_any b cap k N hn.2 hlt wr (Hat.out.below hW hb2) (by omega))
      go_wp2_with fail
      refine cY.out.mono ?_
      rintro e w5 ⟨hW5, L, a, c, hC, rfl, hI⟩
      have hL0 := hC.1
      obtain ⟨g, cur, tt, rfl, hBg, hcur, hcs, hcells⟩ := hI.at' (by rw [nats_length]; exact hL0)
      have hgl := block_lt hcur
      have hcell : w5.cell? ⟨g, 0, none⟩ = some (.int .i64 ((L.headD 0 : Nat) : Int)) := by
        rw [cell_of_row w5 _ _ _ _ _ hcur, hcells 0 (by rw [nats_length]; exact hL0)]
        cases L with
        | nil => simp at hL0
        | cons x r => rfl
      have hRows5 := HRows.out.below hW5
      have hI5 : IntsAt w5 w1.heap.size (some ⟨g, 0, none⟩) (nats L) := hI.mono hWs
      have hneq := Lib.hid (show 0 < L.length → ∀ q, (some ⟨g, 0, none⟩ : Option Addr) = some ⟨q, 0, none⟩ → (HRows.out.own.1 = HRows.out.own.1) → True from fun _ _ _ _ => trivial)
      have HI5 := Lib.hid hI5
      have HRows5 := Lib.hid hRows5
      have hB5 := hW.trans (hW5.mono hWs)
      have hB5s := hB5.size
      have hyes := Lib.hid (fun h : L.headD 0 = k => Hst.out.yes hC h)
      have hno := Lib.hid (fun h : L.headD 0 ≠ k => Hst.out.no hC h)
      have hW5s := hW5.size
      have h0i : (0 : Int) < (L.length : Int) := by omega
      have Hgw := Lib.hid hBg
      clear hI hcells hcur hC hI5 hRows5 hneq
      obtain ⟨x, hx⟩ : ∃ x, L.headD 0 = x := ⟨_, rfl⟩
      rw [hx] at hcell hyes hno
      clear hx
      by_cases hxk : x = k
      · have he : ((x : Int) == (k : Int)) = true := by rw [hxk]; simp
        have HY := Lib.hid (hyes.out hxk)
        clear hyes hno hxk
        go_wp2_with (first | ((with_reducible show wpList _ _ _ (⟨_, .buildSlice 29 _ _, _, _, _, _⟩ :: _) _ _); refine wpList_buildSlice' rfl _ _ _ rfl rfl (intss_oneQ _ _ _ _) ?_) | (at_builtin; refine wpList_elem_append rfl _ _ 29 27 (.slice none 0 0) 1 24 intss_rowQ rfl (by omega) (by omega) Tryz.underlying29 rfl w1.heap.size _ vs.length vs rfl (HRows5.out.own.alloc _) _ [.slice (some ⟨g, 0, none⟩) L.length c] rfl rfl (range_one rfl) (by simp [Value.oneCell']) (by omega) (by simp; omega) ?_))
        intro ov w8 hown8 hg8 hat8
        have hsz5 : (w5.alloc (.cells #[.slice (some ⟨g, 0, none⟩) L.length c] 27)).heap.size = w5.heap.size + 1 := by simp
        have hRa := HRows5.out.below ((Below.refl w5.heap.size w5).alloc (Nat.le_refl _) (.cells #[.slice (some ⟨g, 0, none⟩) L.length c] 27))
        have hIa := HI5.out.below ((Below.refl w5.heap.size w5).alloc (Nat.le_refl _) (.cells #[.slice (some ⟨g, 0, none⟩) L.length c] 27))
        have hMore := hRa.more hIa (fun _ q hq e => by
          cases hq
          have := own_blt HRows.out.own e
          have := Hgw.out
          omega) hg8 hown8 (hat8.imp id fun h => h.trans (by rw [hsz5]))
        have hB8 : Below w1.heap.size w1 w8 := (hB5.alloc hB5s _).grown hg8 (by omega) (fun z hz => own_ge HRows5.out.own hz)
        have HMore := Lib.hid hMore
        have HB8 := Lib.hid hB8
        clear hown8 hg8 hat8 hMore hB8 hRa hIa
        go_wp2_with fail
        go_roundw
        case rel => exact ⟨k + 1, _, _, by omega, by go_num, HY.out, HMore.out, HB8.out⟩
        case measure => simp [intOf] <;> omega
      · have he : ((x : Int) == (k : Int)) = false := by rw [beq_eq_false_iff_ne]; omega
        have HN := Lib.hid (hno.out hxk)
        clear hyes hno hxk
        go_wp2_with fail
        go_roundw
        case rel => exact ⟨k + 1, Ls, vs, by omega, by go_num, HN.out, HRows5.out, hB5⟩
        case measure => simp [intOf] <;> omega
    · obtain rfl : k = pw N.n := by omega
      go_wp2_with fail
      go_ret
      exact ⟨hW1.trans (hW.mono hW1s), Ls, _, vs, Hst.out, rfl, HRows.out.mono hW1s⟩
end Go.Proofs.YtkfagolmpbbckaaGreatDoor
