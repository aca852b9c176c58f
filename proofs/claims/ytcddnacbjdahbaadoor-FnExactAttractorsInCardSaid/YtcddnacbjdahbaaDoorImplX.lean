/- The program's attractors. -/
import Derived.Test.YtcddnacbjdahbaaDoorImplW
namespace Go.Proofs.YtcddnacbjdahbaaDoor
open Go Go.RowKit Go.Sw
set_option maxRecDepth 100000
set_option linter.unusedVariables false

def doneAt (N : Net) (k i : Nat) : Prop := ∃ s, s < k ∧ leastB N s = true ∧ AR N s i
theorem done_skip {N : Net} {k : Nat} (hk : k < pw N.n) (h : doneAt N k k) : leastB N k = false := by
  cases e : leastB N k with
  | false => rfl
  | true => rw [(done_iff hk (leastB_iff.1 e).1).1 h] at e; cases e
theorem done_least {N : Net} {k : Nat} (hk : k < pw N.n) (h : ¬ doneAt N k k) (hs : steadyB N k = true) : leastB N k = true := by
  cases e : leastB N k with
  | true => rfl
  | false => exact absurd ((done_iff hk hs).2 e) h
theorem done_no {N : Net} {k : Nat} (hl : leastB N k = false) (i : Nat) : doneAt N (k + 1) i ↔ doneAt N k i := by
  constructor
  · rintro ⟨s, h1, h2, h3⟩
    by_cases e : s = k
    · subst e; rw [hl] at h2; cases h2
    · exact ⟨s, by omega, h2, h3⟩
  · rintro ⟨s, h1, h2, h3⟩; exact ⟨s, by omega, h2, h3⟩
theorem done_yes {N : Net} {k : Nat} (hl : leastB N k = true) (i : Nat) : doneAt N (k + 1) i ↔ doneAt N k i ∨ AR N k i := by
  constructor
  · rintro ⟨s, h1, h2, h3⟩
    by_cases e : s = k
    · subst e; exact .inr h3
    · exact .inl ⟨s, by omega, h2, h3⟩
  · rintro (⟨s, h1, h2, h3⟩ | h)
    · exact ⟨s, by omega, h2, h3⟩
    · exact ⟨k, by omega, hl, h⟩
noncomputable def attTo (N : Net) (k : Nat) : List (List Nat) := (pickL (leastB N) k).map (stR N)
theorem attTo_no {N : Net} {k : Nat} (hl : leastB N k = false) : attTo N (k + 1) = attTo N k := by unfold attTo; rw [pickL, if_neg (by simp [hl])]
theorem attTo_yes {N : Net} {k : Nat} (hl : leastB N k = true) : attTo N (k + 1) = attTo N k ++ [stR N k] := by unfold attTo; rw [pickL, if_pos hl]; simp
theorem attTo_length (N : Net) (k : Nat) : (attTo N k).length ≤ k := by unfold attTo; rw [List.length_map]; exact pickL_length _ _
theorem attTo_all (N : Net) : attTo N (pw N.n) = attL N := rfl

theorem intss_row : (Tryd.prog.info? 30).map (fun i => (i.zero, i.size, i.bytes)) = some (some (.slice none 0 0), 1, 24) := by kernel_rfl
theorem intss_one (a : Option Addr) (n c : Nat) (w : World) : (Instr.buildSlice 53 1 [(0, .slice a n c)].toArray).run Tryd.prog w =
    .ok (.slice (some ⟨w.heap.size, 0, none⟩) 1 1) (w.alloc (.cells #[.slice a n c] 30)) := by kernel_rfl
structure RowsAt (w : World) (base : Nat) (out : Value) (Ls : List (List Nat)) (vs : List Value) : Prop where
  own : w.ownsRow base 30 1 out vs.length vs
  len : vs.length = Ls.length
  each : ∀ j (h : j < Ls.length), ∃ a c, vs[j]? = some (.slice a Ls[j].length c) ∧ IntsAt w base a (nats Ls[j]) ∧ (0 < Ls[j].length → ∀ q, a = some ⟨q, 0, none⟩ → out.ownBlock ≠ some q)
theorem RowsAt.below {w w' : World} {base : Nat} {out : Value} {Ls : List (List Nat)} {vs : List Value} (h : RowsAt w base out Ls vs) (hb : Below w.heap.size w w') : RowsAt w' base out Ls vs :=
  ⟨own_below h.own hb, h.len, fun j hj => by
    obtain ⟨a, c, e1, e2, e3⟩ := h.each j hj
    exact ⟨a, c, e1, e2.below hb, e3⟩⟩
theorem RowsAt.same {w w' : World} {base : Nat} {out : Value} {Ls : List (List Nat)} {vs : List Value} (h : RowsAt w base out Ls vs) (hs : ∀ q, base ≤ q → q < w.heap.size → w'.heap[q]? = w.heap[q]?) : RowsAt w' base out Ls vs :=
  ⟨own_same h.own fun q hq => hs q (own_ge h.own hq) (own_blt h.own hq), h.len, fun j hj => by
    obtain ⟨a, c, e1, e2, e3⟩ := h.each j hj
    refine ⟨a, c, e1, e2.same fun h0 g hga => ?_, e3⟩
    have hl := e2.lt h0 g hga
    obtain ⟨g', _, _, k1, k2, _⟩ := e2.at' h0
    rw [hga] at k1; cases k1
    exact hs g k2 hl⟩
theorem RowsAt.more {w w' : World} {base : Nat} {out out' : Value} {Ls : List (List Nat)} {vs : List Value} {L : List Nat} {a : Option Addr} {c : Nat} (h : RowsAt w base out Ls vs) (hI : IntsAt w base a (nats L))
    (hne : 0 < L.length → ∀ q, a = some ⟨q, 0, none⟩ → out.ownBlock ≠ some q) (hg : w.grownBy w' out.ownBlock) (hown : w'.ownsRow base 30 1 out' (vs.length + 1) (vs ++ [.slice a L.length c])) (hat : out'.ownBlock = out.ownBlock ∨ out'.ownBlock = some w.heap.size) :
    RowsAt w' base out' (Ls ++ [L]) (vs ++ [.slice a L.length c]) := by
  have key : ∀ (M : List Nat) (x : Option Addr), IntsAt w base x (nats M) → (0 < M.length → ∀ q, x = some ⟨q, 0, none⟩ → out.ownBlock ≠ some q) → IntsAt w' base x (nats M) ∧ (0 < M.length → ∀ q, x = some ⟨q, 0, none⟩ → out'.ownBlock ≠ some q) := by
    intro M x hx hn
    refine ⟨hx.same fun h0 g hga => hg.block g (hx.lt h0 g hga) fun e => hn (by simpa [nats_length] using h0) g hga e.symm, fun h0 q hq e => ?_⟩
    rcases hat with k | k
    · exact hn h0 q hq (k.symm.trans e)
    · have := hx.lt (by rw [nats_length]; exact h0) q hq
      rw [k] at e
      have := Option.some.inj e
      omega
  refine ⟨by rw [List.length_append]; exact hown, by simp [h.len], fun j hj => ?_⟩
  by_cases e : j < Ls.length
  · obtain ⟨x, d, e1, e2, e3⟩ := h.each j e
    obtain ⟨k1, k2⟩ := key _ _ e2 e3
    have e4 : (Ls ++ [L])[j] = Ls[j] := List.getElem_append_left e
    rw [e4]
    exact ⟨x, d, by rw [List.getElem?_append_left (by rw [h.len]; exact e)]; exact e1, k1, k2⟩
  · have hj' : j = Ls.length := by simp at hj; omega
    subst hj'
    obtain ⟨k1, k2⟩ := key _ _ hI hne
    have e4 : (Ls ++ [L])[Ls.length] = L := by simp
    rw [e4]
    exact ⟨a, c, by rw [← h.len]; simp, k1, k2⟩
theorem RowsAt.mono {w : World} {base base' : Nat} {out : Value} {Ls : List (List Nat)} {vs : List Value} (h : RowsAt w base out Ls vs) (hb : base' ≤ base) : RowsAt w base' out Ls vs := by
  refine ⟨⟨h.own.1, ?_⟩, h.len, fun j hj => by
    obtain ⟨a, c, e1, e2, e3⟩ := h.each j hj
    exact ⟨a, c, e1, e2.mono hb, e3⟩⟩
  rcases h.own.2 with h0 | ⟨g, cap, cur, h1, h2, h3⟩
  · exact .inl h0
  · exact .inr ⟨g, cap, cur, h1, by omega, h3⟩
theorem RngM.grown {w w' : World} {b r n : Nat} {row : Option Nat} {S left : Nat → Bool} (h : RngM w b r n S left) (hg : w.grownBy w' row) (h1 : some b ≠ row) (h2 : some r ≠ row) : RngM w' b r n S left ∧ w'.rangeLeft b r = w.rangeLeft b r := by
  obtain ⟨D, lf, cnt, k1, k2, k3, k4⟩ := h
  have hk := k1.kept hg h1 h2
  exact ⟨⟨D, lf, cnt, hk, k2, k3, k4⟩, by rw [hk.left_eq, k1.left_eq]⟩
/-- the inner loop: the map in block bm is ranged over (iterator br), its numbers are put into the map in block w.heap.size; all else stays -/
structure InnAt (w w4 wr : World) (bm br nS n n' : Nat) (D S left : Nat → Bool) : Prop where
  rng : RngM wr bm br nS S left
  set : SetM wr w.heap.size n' (fun i => D i || (S i && !left i))
  room : n' + unmN 32 (fun j => !left j) ≤ n + 32
  below : Below w.heap.size w wr
  kept : ∀ q, q < w4.heap.size → q ≠ w.heap.size → q ≠ br → wr.heap[q]? = w4.heap[q]?
  size : w4.heap.size ≤ wr.heap.size
theorem InnAt.put {w w4 wr w5 w6 : World} {bm br nS n n' i : Nat} {D S left : Nat → Bool} (h : InnAt w w4 wr bm br nS n n' D S left) (hi : i < 32) (hl : left i = true) (hS : S i = true) (hg5 : wr.grownBy w5 (some br)) (hR5 : RngM w5 bm br nS S (fun j => left j && !(j == i)))
    (hg6 : w5.grownBy w6 (some w.heap.size)) (hS6 : SetM w6 w.heap.size (n' + 1) (fun j => j == i || (D j || (S j && !left j)))) (h1 : w.heap.size < bm) (h2 : w.heap.size < br) : InnAt w w4 w6 bm br nS n (n' + 1) D S (fun j => left j && !(j == i)) := by
  refine ⟨(hR5.grown hg6 (fun e => by have := Option.some.inj e; omega) (fun e => by have := Option.some.inj e; omega)).1, hS6.congr fun j _ => ?_, ?_, ?_, fun q hq k1 k2 => ?_, ?_⟩
  · by_cases e : j = i
    · subst e; simp [hS]
    · have e2 : (j == i) = false := by simp [e]
      rw [e2]; simp
  · have := unm_put (n := 32) (S := fun j => !left j) hi (by simp [hl])
    have e : unmN 32 (fun j => !(left j && !(j == i))) = unmN 32 (fun j => j == i || !left j) := by
      unfold unmN
      exact congrArg List.length (pickL_congr fun j _ => by show (!(!(left j && !(j == i)))) = (!(j == i || !left j)); cases left j <;> cases (j == i) <;> rfl)
    have := h.room
    rw [e]; omega
  · refine (h.below.grown hg5 h.below.size (fun q hq => by cases hq; omega)).grown hg6 ?_ (fun q hq => by cases hq; exact Nat.le_refl _)
    have := hg5.size; have := h.below.size; omega
  · have hq' := h.size
    rw [hg6.block q (by have := hg5.size; omega) (fun e => k1 (Option.some.inj e)), hg5.block q (by omega) (fun e => k2 (Option.some.inj e))]
    exact h.kept q hq k1 k2
  · have := hg5.size; have := hg6.size; have := h.size; omega
structure AtrAt (w wr : World) (N : Net) (k : Nat) (out : Value) (n : Nat) (D : Nat → Bool) (vs : List Value) : Prop where
  rows : RowsAt wr (w.heap.size + 1) out (attTo N k) vs
  set : SetM wr w.heap.size n D
  room : n ≤ 32 * k
  done : ∀ i, i < 32 → (D i = true ↔ doneAt N k i)
  below : Below w.heap.size w wr
theorem AtrAt.step {w wr w' : World} {N : Net} {k n : Nat} {out : Value} {D : Nat → Bool} {vs : List Value} (h : AtrAt w wr N k out n D vs) (hb : Below wr.heap.size wr w') : AtrAt w w' N k out n D vs :=
  ⟨h.rows.below hb, h.set.below hb, h.room, h.done, h.below.trans (hb.mono h.below.size)⟩
theorem AtrAt.no {w wr : World} {N : Net} {k n : Nat} {out : Value} {D : Nat → Bool} {vs : List Value} (h : AtrAt w wr N k out n D vs) (hl : leastB N k = false) : AtrAt w wr N (k + 1) out n D vs :=
  ⟨by rw [attTo_no hl]; exact h.rows, h.set, by have := h.room; omega, fun i hi => (h.done i hi).trans (done_no hl i).symm, h.below⟩
theorem put_none' (a : Act) (v : Value) : a.put none v = a := rfl
set_option maxHeartbeats 2000000 in
theorem attractors_any (b cap : Nat) (N : Net) (hn : N.n ≤ 5) (w : World) (hat : NetAt w b N.n N.f) (hb : b < w.heap.size) :
    Calls Tryd.prog 77 #[.slice (some ⟨b, 0, none⟩) N.n cap] w fun e w' => Below w.heap.size w w' ∧ ∃ out vs, e = .returned out ∧ RowsAt w' w.heap.size out (attL N) vs := by
  have Hat := Lib.hid hat
  have hpw := pw_le hn
  have hmm := @run_makeMap Tryd.prog
  have hmade := Lib.hid (setM_made w)
  clear hat
  go_enter Tryd.func77, Tryd.ntmps77
  go_wp2_with (go_at_call 94; refine (states_any _ _ _ hn _).mono ?_; rintro e w' ⟨rfl, rfl⟩)
  go_loopw [3, 5, 6, 7, 11, 27] (fun out _ _ _ i _ wr => ∃ (k n : Nat) (D : Nat → Bool) (vs : List Value), k ≤ pw N.n ∧ i = .int .i64 k ∧ AtrAt w wr N k out n D vs) (fun _ _ _ _ i _ _ => pw N.n - (intOf i).toNat)
  case atStart =>
    exact ⟨0, 0, _, [], Nat.zero_le _, rfl, ⟨⟨World.ownsRow_nil _ _ _ _, rfl, fun j hj => by cases hj⟩, hmade.out, Nat.le_refl _, fun i _ => Iff.intro (fun h => by cases h) (fun h => by obtain ⟨s, h1, _⟩ := h; exact absurd h1 (Nat.not_lt_zero _)), (Below.refl _ _).alloc (Nat.le_refl _) _⟩⟩
  case round =>
    obtain ⟨k, n, D, vs, hk, rfl, hA⟩ := hrel
    obtain ⟨wo, rfl⟩ : ∃ wo : World, wo = wr := ⟨_, rfl⟩
    have HA := Lib.hid hA
    have Hset := Lib.hid hA.set
    have hWs := hA.below.size
    have hroom := hA.room
    by_cases hlt : k < pw N.n
    · have hdk := hA.done k (by omega)
      have hskip := Lib.hid (fun h : D k = true => done_skip hlt (hdk.1 h))
      have hleast := Lib.hid (fun h : D k = false => done_least hlt (fun h2 => by rw [hdk.2 h2] at h; cases h))
      have hnost := Lib.hid (fun h : steadyB N k = false => show leastB N k = false from by
        cases e : leastB N k with
        | false => rfl
        | true => rw [(leastB_iff.1 e).1] at h; cases h)
      clear hA hdk
      cases hD : D k
      · have cS := steady_any b cap k N hn hlt wo (Hat.out.below HA.out.below hb) (Nat.lt_of_lt_of_le hb hWs)
        have Hl := Lib.hid (hleast.out hD)
        have HD := Lib.hid hD
        clear hD
        cases hst : steadyB N k <;> rw [hst] at cS
        · have HnoL := Lib.hid (hnost.out hst)
          have CS := Lib.hid cS
          clear cS hst
          go_wp2_with (at_lookup; refine wpList_lookup_setM _ rfl _ _ rfl w.heap.size n D rfl Hset.out k (by omega) rfl ?_; rw [HD.out])
          refine CS.out.mono ?_
          rintro e w1 ⟨hW1, rfl⟩
          have HA1 := Lib.hid (HA.out.step hW1)
          go_wp2_with fail
          go_roundw
          case rel => exact ⟨k + 1, n, D, vs, by omega, by go_num, HA1.out.no HnoL.out⟩
          case measure => simp [intOf] <;> omega
        · have HL := Lib.hid (Hl.out hst)
          have CS := Lib.hid cS
          have hpk := stR_head hlt HL.out
          have hne0 : 0 < (stR N k).length := List.length_pos_iff.2 hpk.2
          clear cS hst hpk
          go_wp2_with (at_lookup; refine wpList_lookup_setM _ rfl _ _ rfl w.heap.size n D rfl Hset.out k (by omega) rfl ?_; rw [HD.out])
          refine CS.out.mono ?_
          rintro e w1 ⟨hW1, rfl⟩
          have HA1 := Lib.hid (HA.out.step hW1)
          have hWs1 := HA1.out.below.size
          have cR := Lib.hid (reach_any b cap k N hn hlt w1 (Hat.out.below HA1.out.below hb) (Nat.lt_of_lt_of_le hb hWs1))
          go_wp2_with fail
          refine cR.out.mono ?_
          rintro e w2 ⟨hW2, nS, rfl, hM⟩
          have HA2 := Lib.hid (HA1.out.step hW2)
          have HM := Lib.hid hM
          have hlt2 := hM.lt
          obtain ⟨S, hS⟩ : ∃ S : Nat → Bool, arB N k = S := ⟨_, rfl⟩
          rw [hS] at HM
          have hsd := Lib.hid (fun i => show S i = true ↔ AR N k i from by rw [← hS]; exact arB_iff)
          have hpk := Lib.hid (show pickL S (pw N.n) = stR N k from by rw [← hS]; rfl)
          have hS32 := Lib.hid (fun i (h : S i = true) => show i < 32 from by
            have := (hsd.out i).1 h
            have := this.lt hlt
            omega)
          have hlt0 := HA1.out.set.lt
          clear hM hS
          have hrg : (w2.alloc (.cells #[.map (some w1.heap.size)] 100)).heap.size = w2.heap.size + 1 := by simp
          go_wp2_with (at_range; refine wpList_range_setM _ rfl _ rfl w1.heap.size nS S rfl (HM.out.below ((Below.refl _ _).alloc (Nat.le_refl _) _)) ?_; intro w4 hR4 hg4 hs4; rw [hrg])
          rw [hrg] at hR4 hs4
          have hB4 : Below w2.heap.size w2 w4 := ((Below.refl _ _).alloc (Nat.le_refl _) _).grown hg4 (by omega) (fun q hq => by cases hq)
          have hW2s := hW2.size
          have hW1s := hW1.size
          have hB4o : Below wo.heap.size wo w4 := hW1.trans ((hW2.trans (hB4.mono hW2s)).mono hW1.size)
          have hA4 := HA.out.step hB4o
          have hcell : w4.cell? ⟨w2.heap.size, 0, none⟩ = some (.map (some w1.heap.size)) := by
            rw [World.cell?_of_block (w := w2.alloc (.cells #[.map (some w1.heap.size)] 100)) (a := ⟨w2.heap.size, 0, none⟩) (hg4.block w2.heap.size (by omega) (by simp)), cell_of_row _ _ 0 _ _ (0, 0) (heap_alloc_last _ _)]
            rfl
          have hM4 := HM.out.below hB4
          have HA4 := Lib.hid hA4
          have Hcell := Lib.hid hcell
          have HM4 := Lib.hid hM4
          have HR4 := Lib.hid hR4
          have HB4o := Lib.hid hB4o
          have hW4s := hB4o.size
          clear hrg hR4 hg4 hB4 hA4 hcell hM4 hB4o
          go_frame
          go_loopw [7] (fun _ wr => ∃ (left : Nat → Bool) (n' : Nat), InnAt w w4 wr w1.heap.size (w2.heap.size + 1) nS n n' D S left) (fun _ wr => wr.rangeLeft w1.heap.size (w2.heap.size + 1))
          case atStart =>
            refine ⟨S, n, HR4.out, HA4.out.set.congr fun i _ => by simp, ?_, HA4.out.below, fun _ _ _ _ => rfl, Nat.le_refl _⟩
            have := unm_le 32 (fun j => !S j)
            omega
          case round =>
            obtain ⟨left, n', hI⟩ := hrel
            have HI := Lib.hid hI
            have hroomI := hI.room
            have hsI := hI.size
            have Hrng := Lib.hid hI.rng
            clear hI
            go_wp2_with (at_next; refine wpList_next_setM _ rfl _ rfl w1.heap.size (w2.heap.size + 1) nS S left rfl Hrng.out ?_ ?_)
            · intro hdone
              have hset' := Lib.hid (HI.out.set.congr (T := fun i => D i || S i) fun i hi => by rw [hdone i hi]; simp)
              have hrows := HA.out.rows.same (w' := wr) fun q k1 k2 => by
                rw [HI.out.kept q (by omega) (by omega) (by omega)]
                exact HB4o.out.block q k2
              have hsrc := HM4.out.same (w' := wr) (HI.out.kept _ (by omega) (by omega) (by omega))
              have hvar : wr.cell? ⟨w2.heap.size, 0, none⟩ = some (.map (some w1.heap.size)) := by
                rw [World.cell?_of_block (w := w4) (a := ⟨w2.heap.size, 0, none⟩) (HI.out.kept w2.heap.size (by omega) (by omega) (by omega))]
                exact Hcell.out
              have hIb := HI.out.below
              have hIbs := hIb.size
              have cW := Lib.hid (which_any b cap N hn 146 #[.pointer (some ⟨w2.heap.size, 0, none⟩)] S wr (fun _ _ => rfl) (fun s wx hs hwx => by
                have hwxs := hwx.size
                exact attractors1_any w2.heap.size w1.heap.size nS s S (by omega) wx (by omega) (by rw [World.cell?_of_block (w := wr) (a := ⟨w2.heap.size, 0, none⟩) (hwx.block w2.heap.size (by omega))]; exact hvar) (hsrc.below hwx)))
              rw [hpk.out] at cW
              have Hrows := Lib.hid hrows
              have HIb := Lib.hid hIb
              clear hdone hrows hsrc hvar hIb
              go_wp2_with fail
              refine cW.out.mono ?_
              rintro e w7 ⟨hW7, a, c, rfl, hIa⟩
              have hRows7 := Hrows.out.below hW7
              have HRows := Lib.hid (hRows7.below ((Below.refl _ _).alloc (Nat.le_refl _) (.cells #[.slice a (stR N k).length c] 30)))
              have hW7s := hW7.size
              have hB7 : Below w.heap.size w w7 := HIb.out.trans (hW7.mono hIbs)
              have HIa := Lib.hid (((hIa.mono (B' := w.heap.size + 1) (by omega)).below ((Below.refl _ _).alloc (Nat.le_refl _) (.cells #[.slice a (stR N k).length c] 30))))
              have hneq := Lib.hid (fun (h0 : 0 < (stR N k).length) q (e : a = some (⟨q, 0, none⟩ : Addr)) => show u3.ownBlock ≠ some q from fun e2 => by
                obtain ⟨q', _, _, e1, h1, _⟩ := hIa.at' (by rw [nats_length]; exact h0)
                rw [e] at e1; cases e1
                have := own_blt Hrows.out.own e2
                omega)
              have HS7 := Lib.hid ((hset'.below hW7).below ((Below.refl _ _).alloc (Nat.le_refl _) (.cells #[.slice a (stR N k).length c] 30)))
              have hvl : vs.length ≤ 32 := by rw [HRows.out.len]; exact Nat.le_trans (attTo_length N k) (by omega)
              clear hRows7 hIa hset'
              go_wp2_with (first | ((with_reducible show wpList _ _ _ (⟨_, .buildSlice 53 _ _, _, _, _, _⟩ :: _) _ _); refine wpList_buildSlice' rfl _ _ _ rfl rfl (intss_one _ _ _ _) ?_) | (at_builtin; refine wpList_elem_append rfl _ _ 53 30 (.slice none 0 0) 1 24 intss_row rfl (by omega) (by omega) Tryd.underlying53 rfl (w.heap.size + 1) _ vs.length vs rfl HRows.out.own _ [.slice a (stR N k).length c] rfl rfl (range_one rfl) (by simp [Value.oneCell']) (by omega) (by simp; omega) ?_))
              intro ov w8 hown8 hg8 hat8
              have hsz7 : (w7.alloc (.cells #[.slice a (stR N k).length c] 30)).heap.size = w7.heap.size + 1 := by simp
              have hMore := HRows.out.more HIa.out hneq.out hg8 hown8 (hat8.imp id fun h => h.trans (by rw [hsz7]))
              have hS8 := HS7.out.same (w' := w8) (hg8.block _ (by omega) (fun e => by have := own_ge HRows.out.own e.symm; omega))
              have hB8 : Below w.heap.size w w8 := (hB7.alloc (by omega) _).grown hg8 (by omega) (fun z hz => by have := own_ge HRows.out.own hz; omega)
              have hdn := HA.out.done
              have HA8 := Lib.hid (show AtrAt w w8 N (k + 1) ov n' (fun i => D i || S i) (vs ++ [.slice a (stR N k).length c]) from
                ⟨by rw [attTo_yes HL.out]; exact hMore, hS8, by omega, fun i hi => by
                  rw [done_yes HL.out, Bool.or_eq_true, hdn i hi, hsd.out i], hB8⟩)
              clear hown8 hg8 hat8 hMore hS8 hB8 hdn
              go_wp2_with fail
              go_roundw
              case rel => exact ⟨k + 1, n', _, _, by omega, by go_num, HA8.out⟩
              case measure => simp [intOf] <;> omega
            · intro i w5 hi hleft hSi hR5 hlt5 hg5 hs5 hen
              have Hset5 := Lib.hid (HI.out.set.same (w' := w5) (hg5.block _ (by omega) (fun e => by have := Option.some.inj e; omega)))
              have HR5 := Lib.hid hR5
              have hlo := Lib.hid hlt5
              have Hg5 := Lib.hid hg5
              have Hleft := Lib.hid hleft
              have HSi := Lib.hid hSi
              clear hR5 hlt5 hg5 hleft hSi
              go_wp2_with (at_mapUpdate; refine wpList_mapUpdate_setM _ rfl _ _ _ rfl w.heap.size n' _ rfl Hset5.out (by omega) i hi rfl rfl ?_; intro w6 hS6 hg6; rw [put_none'])
              have Hput := Lib.hid (HI.out.put hi Hleft.out HSi.out Hg5.out HR5.out hg6 hS6 (by omega) (by omega))
              have hl6 := (HR5.out.grown hg6 (fun e => by have := Option.some.inj e; omega) (fun e => by have := Option.some.inj e; omega)).2
              have Hml := Lib.hid (show w6.rangeLeft w1.heap.size (w2.heap.size + 1) < wr.rangeLeft w1.heap.size (w2.heap.size + 1) from by rw [hl6]; exact hlo.out)
              clear hS6 hg6 hl6
              go_roundw
              case rel => exact ⟨_, n' + 1, Hput.out⟩
              case measure => exact Hml.out
      · have HnoL := Lib.hid (hskip.out hD)
        have HD := Lib.hid hD
        clear hD
        go_wp2_with (at_lookup; refine wpList_lookup_setM _ rfl _ _ rfl w.heap.size n D rfl Hset.out k (by omega) rfl ?_; rw [HD.out])
        go_roundw
        case rel => exact ⟨k + 1, n, D, vs, by omega, by go_num, HA.out.no HnoL.out⟩
        case measure => simp [intOf] <;> omega
    · obtain rfl : k = pw N.n := by omega
      clear hA
      go_wp2_with fail
      go_ret
      exact ⟨HA.out.below, _, vs, rfl, by rw [← attTo_all]; exact HA.out.rows.mono (by omega)⟩
end Go.Proofs.YtcddnacbjdahbaaDoor
