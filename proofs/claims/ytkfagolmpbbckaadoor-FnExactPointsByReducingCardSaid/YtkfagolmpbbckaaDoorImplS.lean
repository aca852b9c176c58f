/- The program's reduced networks, and states lifted. -/
import Derived.Test.YtkfagolmpbbckaaDoorImplR
import Derived.Test.YtkfagolmpbbckaaDoorRe
import Derived.Test.YtkfagolmpbbckaaDoorAp
import Derived.Deep.LoopGhost
namespace Go.Proofs.YtkfagolmpbbckaaDoor
open Go Go.RowKit Go.Sw
set_option maxRecDepth 100000
set_option linter.unusedVariables false

/-- where the networks met lie, and the switches gone -/
structure RedAt (w : World) (base : Nat) (mv gv : Value) (Ls : List Net) (G : List Int) : Prop where
  met : ∃ vs : List Value, vs.length = Ls.length ∧ w.ownsRow base 58 1 mv Ls.length vs ∧ ∀ j (h : j < Ls.length), ∃ b c, vs[j]? = some (.slice (some ⟨b, 0, none⟩) Ls[j].n c) ∧ NetAt w b Ls[j].n Ls[j].f ∧ b < w.heap.size ∧ mv.ownBlock ≠ some b ∧ gv.ownBlock ≠ some b
  gone : w.ownsRow base 3 1 gv G.length (ints G)
  apart : ∀ q, mv.ownBlock = some q → gv.ownBlock ≠ some q
theorem RedAt.below {w w' : World} {base : Nat} {mv gv : Value} {Ls : List Net} {G : List Int} (h : RedAt w base mv gv Ls G) (hb : Below w.heap.size w w') : RedAt w' base mv gv Ls G := by
  obtain ⟨⟨vs, h1, h2, h3⟩, h4, h5⟩ := h
  refine ⟨⟨vs, h1, own_below h2 hb, fun j hj => ?_⟩, own_below h4 hb, h5⟩
  obtain ⟨b, c, a1, a2, a3, a4⟩ := h3 j hj
  exact ⟨b, c, a1, a2.below hb a3, Nat.lt_of_lt_of_le a3 hb.size, a4⟩
theorem RedAt.goneMore {w w' : World} {base : Nat} {mv gv gv' : Value} {Ls : List Net} {G : List Int} {k : Int} (h : RedAt w base mv gv Ls G) (hg : w.grownBy w' gv.ownBlock)
    (ho : w'.ownsRow base 3 1 gv' (G.length + 1) (ints G ++ [.int .i64 k])) (ha : gv'.ownBlock = gv.ownBlock ∨ gv'.ownBlock = some w.heap.size) : RedAt w' base mv gv' Ls (G ++ [k]) := by
  obtain ⟨⟨vs, h1, h2, h3⟩, h4, h5⟩ := h
  have hne : ∀ q, q < w.heap.size → gv.ownBlock ≠ some q → gv'.ownBlock ≠ some q := fun q hq h0 => by
    rcases ha with ha | ha
    · rw [ha]; exact h0
    · rw [ha]; intro e; cases e; omega
  refine ⟨⟨vs, h1, own_grown h2 hg h5, fun j hj => ?_⟩, by rw [List.length_append, ints_snoc]; exact ho, fun q hq => hne q (own_blt h2 hq) (h5 q hq)⟩
  obtain ⟨b, c, a1, a2, a3, a4, a5⟩ := h3 j hj
  exact ⟨b, c, a1, a2.same (hg.block b a3 fun e => a5 e.symm), Nat.lt_of_lt_of_le a3 hg.size, a4, hne b a3 a5⟩
theorem RedAt.metMore {w w' : World} {base : Nat} {mv mv' gv : Value} {Ls : List Net} {G : List Int} {M : Net} {b c : Nat} (h : RedAt w base mv gv Ls G) (hb : NetAt w b M.n M.f) (hlt : b < w.heap.size) (hnm : mv.ownBlock ≠ some b) (hng : gv.ownBlock ≠ some b) (vs : List Value)
    (hvs : vs.length = Ls.length ∧ w.ownsRow base 58 1 mv Ls.length vs ∧ ∀ j (h : j < Ls.length), ∃ b c, vs[j]? = some (.slice (some ⟨b, 0, none⟩) Ls[j].n c) ∧ NetAt w b Ls[j].n Ls[j].f ∧ b < w.heap.size ∧ mv.ownBlock ≠ some b ∧ gv.ownBlock ≠ some b) (hg : w.grownBy w' mv.ownBlock)
    (ho : w'.ownsRow base 58 1 mv' (Ls.length + 1) (vs ++ [.slice (some ⟨b, 0, none⟩) M.n c])) (ha : mv'.ownBlock = mv.ownBlock ∨ mv'.ownBlock = some w.heap.size) : RedAt w' base mv' gv (Ls ++ [M]) G := by
  obtain ⟨h1, h2, h3⟩ := hvs
  have hne : ∀ q, q < w.heap.size → mv.ownBlock ≠ some q → mv'.ownBlock ≠ some q := fun q hq h0 => by
    rcases ha with ha | ha
    · rw [ha]; exact h0
    · rw [ha]; intro e; cases e; omega
  have hgne : ∀ q, gv.ownBlock = some q → mv.ownBlock ≠ some q := fun q hq e => h.apart q e hq
  refine ⟨⟨vs ++ [.slice (some ⟨b, 0, none⟩) M.n c], by simp [h1], by rw [List.length_append]; exact ho, fun j hj => ?_⟩, own_grown h.gone hg hgne, fun q hq e => hne q (own_blt h.gone e) (hgne q e) hq⟩
  by_cases e : j < Ls.length
  · obtain ⟨b', c', a1, a2, a3, a4, a5⟩ := h3 j e
    refine ⟨b', c', ?_, ?_, Nat.lt_of_lt_of_le a3 hg.size, hne b' a3 a4, a5⟩
    · rw [List.getElem?_append_left (by omega), List.getElem_append_left e]; exact a1
    · rw [List.getElem_append_left e]; exact a2.same (hg.block b' a3 fun e => a4 e.symm)
  · have hj' : j < Ls.length + 1 := by simpa using hj
    have e2 : j = Ls.length := by omega
    subst e2
    refine ⟨b, c, ?_, ?_, Nat.lt_of_lt_of_le hlt hg.size, hne b hlt hnm, hng⟩
    · rw [List.getElem?_append_right (by omega), h1, Nat.sub_self, List.getElem_append_right (by omega)]; simp
    · rw [List.getElem_append_right (by omega)]
      simpa using hb.same (hg.block b hlt fun e => hnm e.symm)
/-- where a reduction has come to -/
def RedPath (N : Net) (g : Nat) (Ls : List Net) (Gi : List Int) (M : Net) : Prop :=
  ∃ Ms G, Path N Ms G M ∧ Ls = Ms ++ [M] ∧ Gi = G.map Int.ofNat ∧ M.n ≤ g ∧ 1 ≤ M.n ∧ M.n ≤ 5 ∧ Ls.length ≤ 6 ∧ Gi.length ≤ 5
theorem RedPath.next {N M M' : Net} {g k : Nat} {Ls : List Net} {Gi : List Int} (h : RedPath N g Ls Gi M) (h5 : N.n ≤ 5) (hk : ffI M = (k : Int)) (he : M'.eqv (remN M k)) : 0 < g ∧ RedPath N (g - 1) (Ls ++ [M']) (Gi ++ [(k : Int)]) M' := by
  obtain ⟨Ms, G, hp, rfl, rfl, a1, a2, a3, a4, a5⟩ := h
  have h1 := ff_lt hk
  have h2 := freeB_two h1.2
  have h3 := he.1
  rw [remN_n] at h3
  have hp' := hp.snoc hk he
  have hl := hp'.lens
  have h6 : Int.ofNat k = (k : Int) := rfl
  refine ⟨by omega, Ms ++ [M], G ++ [k], hp', rfl, by rw [List.map_append, List.map_singleton, h6], by omega, by omega, by omega, ?_, ?_⟩
  · simp only [List.length_append, List.length_singleton] at hl ⊢; omega
  · simp only [List.length_append, List.length_singleton, List.length_map] at hl ⊢; omega

set_option maxHeartbeats 1000000 in
theorem reduce_any (b cap : Nat) (N : Net) (h1 : 1 ≤ N.n) (hn : N.n ≤ 5) (w : World) (hat : NetAt w b N.n N.f) (hb : b < w.heap.size) :
    Calls Tryd.prog 109 #[.slice (some ⟨b, 0, none⟩) N.n cap] w fun e w' => Below w.heap.size w w' ∧
      ∃ mv gv Ls Gi M, e = .returned (.tuple #[mv, gv]) ∧ RedAt w' w.heap.size mv gv Ls Gi ∧ RedPath N M.n Ls Gi M ∧ ffI M = -1 := by
  have hR0 : RedAt (w.alloc (.cells #[.slice (some ⟨b, 0, none⟩) N.n cap] 58)) w.heap.size (.slice (some ⟨w.heap.size, 0, none⟩) 1 1) (.slice none 0 0) [N] [] :=
    ⟨⟨[.slice (some ⟨b, 0, none⟩) N.n cap], rfl, own_made1 w _ _ _ (Nat.le_refl _), fun j hj => by
      obtain rfl : j = 0 := by simpa using hj
      exact ⟨b, cap, rfl, hat.same (Below.heap_alloc _ _ _ hb), by simp; omega, fun e => by simp only [Value.ownBlock, Option.some.injEq] at e; omega, fun e => by cases e⟩⟩, World.ownsRow_nil _ _ _ _, fun q hq e => by cases e⟩
  have hP0 : RedPath N N.n [N] [] N := ⟨[], [], .nil, rfl, rfl, Nat.le_refl _, h1, hn, by simp, by simp⟩
  have HR0 := Lib.hid hR0
  have HP0 := Lib.hid hP0
  clear hat hR0 hP0
  go_enter Tryd.func109, Tryd.ntmps109
  go_wp2_with ((with_reducible show wpList _ _ _ (⟨_, .buildSlice 97 _ _, _, _, _, _⟩ :: _) _ _); refine wpList_buildSlice' rfl _ _ _ rfl rfl (nets_one _ _ _ _) ?_)
  go_loopg [4, 5, 6, 7] N.n (fun g mv gv _ _ wr => ∃ (Ls : List Net) (Gi : List Int) (M : Net), RedPath N g Ls Gi M ∧ RedAt wr w.heap.size mv gv Ls Gi ∧ Below w.heap.size w wr)
  case atStart => exact ⟨[N], [], N, HP0.out, HR0.out, (Below.refl _ _).alloc (Nat.le_refl _) _⟩
  case round =>
    obtain ⟨Ls, Gi, M, hP, hR, hW⟩ := hrel
    have HP := Lib.hid hP
    have HR := Lib.hid hR
    have hM : M.n ≤ gk ∧ 1 ≤ M.n ∧ M.n ≤ 5 ∧ 1 ≤ Ls.length ∧ Ls.length ≤ 6 ∧ Gi.length ≤ 5 := by
      obtain ⟨Ms, G, hp, rfl, rfl, a1, a2, a3, a4, a5⟩ := hP
      exact ⟨a1, a2, a3, by simp, a4, a5⟩
    have hlast : ∃ h : Ls.length - 1 < Ls.length, Ls[Ls.length - 1] = M := by
      obtain ⟨Ms, G, hp, rfl, _⟩ := hP
      exact ⟨by simp, by simp⟩
    obtain ⟨hl1, hlast⟩ := hlast
    obtain ⟨vs, hv1, hv2, hv3⟩ := hR.met
    obtain ⟨bM, cM, a1, a2, a3, a4, a5⟩ := hv3 _ hl1
    rw [hlast] at a1 a2
    obtain ⟨q, cq, rfl, hq1, hq2⟩ := own_slice hv2 (by omega)
    have hcell : wr.cell? ⟨q, Ls.length - 1, none⟩ = some (.slice (some ⟨bM, 0, none⟩) M.n cM) := by
      have := hv2.cells (g := q) rfl (Ls.length - 1) _ a1
      rwa [Addr.add_mid, Nat.zero_add] at this
    have HA2 := Lib.hid a2
    have HA5 := Lib.hid a5
    have hsub : ((Ls.length : Int) - 1) = ((Ls.length - 1 : Nat) : Int) := by omega
    obtain ⟨hMg, hM1, hM5, hLs1, hLs6, hGi5⟩ := hM
    have hr : ffI M = firstI (freeB M) M.n := rfl
    have Hr := Lib.hid hr
    clear hP hR hr hv1 hv2 hv3 a1 a2 a4 a5 hlast
    obtain ⟨wo, rfl⟩ : ∃ wo : World, wo = wr := ⟨_, rfl⟩
    go_wp2_with fail
    go_loopw [7] (fun j wr => (∃ k : Nat, k ≤ M.n ∧ j = .int .i64 k ∧ ∀ i, i < k → freeB M i = false) ∧ Below wo.heap.size wo wr) (fun j _ => M.n - (intOf j).toNat)
    case atStart => exact ⟨⟨0, Nat.zero_le _, rfl, fun i h => absurd h (Nat.not_lt_zero _)⟩, Below.refl _ _⟩
    case round =>
      obtain ⟨⟨k, hk, rfl, hall⟩, hW2⟩ := hrel
      have Hall := Lib.hid hall
      have hW2s := hW2.size
      have hWs := hW.size
      clear hall
      by_cases hlt : k < M.n
      · have c := removable_any bM cM k M hM5 hlt wr (HA2.out.below hW2 a3)
        have hne : ((k : Int) == (M.n : Int)) = false := by rw [beq_eq_false_iff_ne]; omega
        cases hf : freeB M k
        · rw [hf] at c
          have C := Lib.hid c
          have Hf := Lib.hid hf
          clear c hf hsub hcell
          go_wp2_with fail
          refine C.out.mono ?_
          rintro e w2 ⟨hW3, rfl⟩
          go_wp2_with fail
          go_roundw
          case rel => exact ⟨⟨k + 1, by omega, by go_num, fun i hi => by
              by_cases e : i = k
              · subst e; exact Hf.out
              · exact Hall.out i (by omega)⟩, hW2.trans (hW3.mono hW2s)⟩
          case measure => simp [intOf] <;> omega
        · have hff : ffI M = k := by rw [Hr.out]; exact firstI_some hlt hf Hall.out
          have h2M := freeB_two hf
          rw [hf] at c
          have C := Lib.hid c
          have Hff := Lib.hid hff
          clear c hf hff hsub hcell
          go_wp2_with fail
          refine C.out.mono ?_
          rintro e w2 ⟨hW3, rfl⟩
          have hB2 : Below wo.heap.size wo w2 := hW2.trans (hW3.mono hW2s)
          have hR3 : RedAt (w2.alloc (.cells #[.int .i64 k] 3)) w.heap.size (.slice (some ⟨q, 0, none⟩) Ls.length cq) u5 Ls Gi := (HR.out.below hB2).below ((Below.refl _ _).alloc (Nat.le_refl _) _)
          have HR3 := Lib.hid hR3
          have hB2s := hB2.size
          clear hR3
          go_wp2_with (first | ((with_reducible show wpList _ _ _ (⟨_, .buildSlice 26 1 _, _, _, _, _⟩ :: _) _ _); refine wpList_buildSlice' rfl _ _ _ rfl rfl (int_one (k : Int) _) ?_) | (at_builtin; refine wpList_elem_append rfl _ _ 26 3 (.int .i64 0) 1 8 int_row rfl (by omega) (by omega) Tryd.underlying26 rfl w.heap.size _ Gi.length (ints Gi) rfl HR3.out.gone _ [.int .i64 k] rfl rfl (range_one rfl) (by simp [Value.oneCell']) (by omega) (by simp; omega) ?_))
          intro gv' w4 hown4 hg4 hat4
          have hR4 := HR3.out.goneMore hg4 hown4 (hat4.imp id fun h => h.trans (by simp))
          have hB4 : Below w.heap.size w w4 := (((hW.trans (hB2.mono hWs))).alloc (by omega) _).grown hg4 (by simp; omega) (fun z hz => own_ge HR3.out.gone hz)
          have hBo4 : NetAt w4 bM M.n M.f ∧ bM < w4.heap.size := by
            obtain ⟨vs, hv1, hv2, hv3⟩ := hR4.met
            have hl1 : Ls.length - 1 < Ls.length := by omega
            have hgs := hg4.size
            refine ⟨?_, by simp at hgs; omega⟩
            have h0 : NetAt (w2.alloc (.cells #[.int .i64 k] 3)) bM M.n M.f := (HA2.out.below hB2 a3).same (Below.heap_alloc _ _ _ (by omega))
            refine h0.same (hg4.block bM (by simp; omega) fun e => ?_)
            exact HA5.out e.symm
          have hB4s := hB4.size
          have c3 := Lib.hid (remove_any bM cM k M h2M hM5 hlt w4 hBo4.1 hBo4.2)
          have HR4 := Lib.hid hR4
          clear hown4 hg4 hat4 hR4 hBo4
          go_wp2_with fail
          refine c3.out.mono ?_
          rintro e w5 ⟨hW5, b', c', rfl, hb1', hb2', hat'⟩
          obtain ⟨M', hM'⟩ : ∃ M' : Net, M' = ⟨M.n - 1, stepF (M.n - 1) fun s => dropN (stepN M (liftN M k s)) k⟩ := ⟨_, rfl⟩
          have hnx := HP.out.next hn Hff.out (M' := M') (by rw [hM']; exact rem_step M k)
          have hM'n : M'.n = M.n - 1 := by rw [hM']
          have hM'f : M'.f = stepF (M.n - 1) fun s => dropN (stepN M (liftN M k s)) k := by rw [hM']
          rw [← hM'f, ← hM'n] at hat'
          rw [← hM'n]
          have hR5 := HR4.out.below hW5
          have hmb : (Value.slice (some ⟨q, 0, none⟩) Ls.length cq).ownBlock ≠ some b' := fun e => by
            obtain ⟨vs, hv1, hv2, hv3⟩ := HR4.out.met
            have := own_blt hv2 e; omega
          have hgb : gv'.ownBlock ≠ some b' := fun e => by have := own_blt HR4.out.gone e; omega
          obtain ⟨vs, hvs⟩ := (hR5.below ((Below.refl _ _).alloc (Nat.le_refl _) (.cells #[.slice (some ⟨b', 0, none⟩) M'.n c'] 58))).met
          have hR6 := hR5.below ((Below.refl _ _).alloc (Nat.le_refl _) (.cells #[.slice (some ⟨b', 0, none⟩) M'.n c'] 58))
          have hat6 : NetAt (w5.alloc (.cells #[.slice (some ⟨b', 0, none⟩) M'.n c'] 58)) b' M'.n M'.f := hat'.same (Below.heap_alloc _ _ _ hb2')
          have HR6 := Lib.hid hR6
          have HVs := Lib.hid hvs
          have Hat6 := Lib.hid hat6
          have Hnx := Lib.hid hnx.2
          have hg0 := hnx.1
          have Hmb := Lib.hid hmb
          have Hgb := Lib.hid hgb
          have hB5 : Below w.heap.size w w5 := hB4.trans (hW5.mono hB4s)
          have hB5s := hB5.size
          clear hat' hR5 hR6 hvs hat6 hnx hmb hgb hM' hM'n hM'f
          go_wp2_with (first | ((with_reducible show wpList _ _ _ (⟨_, .buildSlice 97 _ _, _, _, _, _⟩ :: _) _ _); refine wpList_buildSlice' rfl _ _ _ rfl rfl (nets_one _ _ _ _) ?_) | (at_builtin; refine wpList_elem_append rfl _ _ 97 58 (.slice none 0 0) 1 24 nets_row rfl (by omega) (by omega) Tryd.underlying97 rfl w.heap.size _ Ls.length vs rfl HVs.out.2.1 _ [.slice (some ⟨b', 0, none⟩) M'.n c'] rfl rfl (range_one rfl) (by simp [Value.oneCell']) (by omega) (by simp; omega) ?_))
          intro mv' w7 hown7 hg7 hat7
          have hR7 := HR6.out.metMore (M := M') Hat6.out (by simp; omega) Hmb.out Hgb.out vs HVs.out hg7 hown7 (hat7.imp id fun h => h.trans (by simp))
          have hB7 : Below w.heap.size w w7 := (hB5.alloc (by omega) _).grown hg7 (by simp; omega) (fun z hz => own_ge HVs.out.2.1 hz)
          have HR7 := Lib.hid hR7
          clear hown7 hg7 hat7 hR7
          go_wp2_with fail
          go_roundg (gk - 1)
          case measure => omega
          case rel => exact ⟨Ls ++ [M'], Gi ++ [(k : Int)], M', Hnx.out, HR7.out, hB7⟩
      · obtain rfl : k = M.n := by omega
        have hff : ffI M = -1 := by rw [Hr.out]; exact firstI_none Hall.out
        have Hff := Lib.hid hff
        have heq : ((M.n : Int) == (M.n : Int)) = true := by simp
        have hPM : RedPath N M.n Ls Gi M := by
          obtain ⟨Ms, G, hp, h1, h2, _, a2, a3, a4, a5⟩ := HP.out
          exact ⟨Ms, G, hp, h1, h2, Nat.le_refl _, a2, a3, a4, a5⟩
        have HPM := Lib.hid hPM
        have hR' := HR.out.below hW2
        have HR' := Lib.hid hR'
        clear hff hsub hcell hPM hR'
        go_wp2_with fail
        go_ret2
        exact ⟨hW.trans (hW2.mono hWs), _, _, Ls, Gi, M, rfl, HR'.out, HPM.out, Hff.out⟩

theorem RedPath.fin {N M : Net} {g : Nat} {Ls : List Net} {Gi : List Int} (h : RedPath N g Ls Gi M) (hf : ffI M = -1) :
    redG N.n N = Gi ∧ netText (redN N.n N) = netText M ∧ (redN N.n N).n = M.n ∧ ∃ Ms G, Path N Ms G M ∧ Ls = Ms ++ [M] ∧ Gi = G.map Int.ofNat ∧ ∀ s, s < pw M.n → redP N.n N s = liftAllN Ms G s := by
  obtain ⟨Ms, G, hp, rfl, rfl, _⟩ := h
  have hl := hp.lens
  obtain ⟨a1, a2, a3⟩ := hp.red N.n (by omega)
  rw [redG_none hf, List.append_nil] at a1
  rw [redN_none hf] at a2 a3
  refine ⟨a1, a2.text, a2.1, Ms, G, hp, rfl, rfl, fun s hs => ?_⟩
  rw [a3 s hs, redP_none hf]
theorem liftAll_lt {N M : Net} {Ms : List Net} {G : List Nat} (hp : Path N Ms G M) {s : Nat} (hs : s < pw M.n) (d : Nat) : ∀ m, m + d = G.length → liftAllN (Ms.drop m) (G.drop m) s < pw (N.n - m) := by
  have hl := hp.lens
  induction d with
  | zero =>
    intro m hm
    rw [List.drop_eq_nil_of_le (by omega), List.drop_eq_nil_of_le (by omega)]
    rw [show N.n - m = M.n by omega]; exact hs
  | succ d ih =>
    intro m hm
    have h1 := ih (m + 1) (by omega)
    obtain ⟨g1, g2, g3⟩ := hp.get m (by omega) (by omega)
    rw [List.drop_eq_getElem_cons (by omega : m < Ms.length), List.drop_eq_getElem_cons (by omega : m < G.length)]
    show liftN Ms[m] G[m] (liftAllN (Ms.drop (m + 1)) (G.drop (m + 1)) s) < _
    rw [show N.n - m = Ms[m].n by omega]
    exact liftN_lt _ _ _ g1 (by rw [show Ms[m].n - 1 = N.n - (m + 1) by omega]; exact h1)
theorem liftAll_step {N M : Net} {Ms : List Net} {G : List Nat} (hp : Path N Ms G M) {s : Nat} (hs : s < pw M.n) (hN : N.n ≤ 5) (m : Nat) (hm : m < G.length) :
    ∃ h1 : m < Ms.length, liftAllN (Ms.drop m) (G.drop m) s = liftN Ms[m] G[m] (liftAllN (Ms.drop (m + 1)) (G.drop (m + 1)) s) ∧ G[m] < Ms[m].n ∧ 2 ≤ Ms[m].n ∧ Ms[m].n ≤ 5 ∧ liftAllN (Ms.drop (m + 1)) (G.drop (m + 1)) s < pw (Ms[m].n - 1) := by
  have hl := hp.lens
  obtain ⟨g1, g2, g3⟩ := hp.get m (by omega) hm
  have h1 := liftAll_lt hp hs (G.length - (m + 1)) (m + 1) (by omega)
  refine ⟨by omega, ?_, g1, g2, by omega, ?_⟩
  · rw [List.drop_eq_getElem_cons (by omega : m < Ms.length), List.drop_eq_getElem_cons hm]; rfl
  · rw [show Ms[m].n - 1 = N.n - (m + 1) by omega]; exact h1

set_option maxHeartbeats 1000000 in
theorem liftAll_any {N M : Net} {Ms : List Net} {G : List Nat} (hp : Path N Ms G M) (hN : N.n ≤ 5) (s base : Nat) (hs : s < pw M.n) (mv gv : Value) (w : World) (hR : RedAt w base mv gv (Ms ++ [M]) (G.map Int.ofNat)) :
    Calls Tryd.prog 110 #[mv, gv, .int .i64 s] w fun e w' => Below w.heap.size w w' ∧ e = .returned (.int .i64 (liftAllN Ms G s : Nat)) := by
  have hl := hp.lens
  obtain ⟨vs, hv1, hv2, hv3⟩ := hR.met
  obtain ⟨q, cq, rfl, hq1, hq2⟩ := own_slice hv2 (by simp)
  obtain ⟨a, ca, rfl, hca, hI⟩ := intsAt_of_own hR.gone
  have hlm : (G.map Int.ofNat).length = G.length := by simp
  have hlL : (Ms ++ [M]).length = Ms.length + 1 := by simp
  have hGI := hI.at'
  rw [hlm]
  have hstep := fun m (hm : m < G.length) => liftAll_step hp hs hN m hm
  have hcellM : ∀ m (h : m < Ms.length) , ∃ b c, w.cell? ⟨q, m, none⟩ = some (.slice (some ⟨b, 0, none⟩) Ms[m].n c) ∧ NetAt w b Ms[m].n Ms[m].f ∧ b < w.heap.size := fun m hm => by
    obtain ⟨b, c, a1, a2, a3, _⟩ := hv3 m (by omega)
    rw [List.getElem_append_left hm] at a1 a2
    have := hv2.cells (g := q) rfl m _ a1
    rw [Addr.add_mid, Nat.zero_add] at this
    exact ⟨b, c, this, a2, a3⟩
  have hcellG : ∀ m (h : m < G.length), ∃ g, a = some ⟨g, 0, none⟩ ∧ w.cell? ⟨g, m, none⟩ = some (.int .i64 (G[m] : Nat)) ∧ g < w.heap.size := fun m hm => by
    obtain ⟨g, cur, t, e1, _, e3, _, e5⟩ := hGI (by omega)
    refine ⟨g, e1, ?_, block_lt e3⟩
    rw [cell_of_row w _ _ _ _ _ e3, e5 m (by omega)]
    simp
  rw [hlL]
  have Hstep := Lib.hid hstep
  have HcM := Lib.hid hcellM
  have HcG := Lib.hid hcellG
  have hl5 : G.length ≤ 5 := by omega
  have hMs : Ms.length = G.length := hl.1
  have HMs := Lib.hid hMs
  have hd0 : liftAllN (Ms.drop G.length) (G.drop G.length) s = s := by
    rw [List.drop_eq_nil_of_le (by omega), List.drop_eq_nil_of_le (by omega)]; rfl
  have Hd0 := Lib.hid hd0
  clear hl hR hv1 hv2 hv3 hI hlm hlL hGI hstep hcellM hcellG hMs hd0 hp
  go_enter Tryd.func110, Tryd.ntmps110
  go_wp2_with fail
  go_loopw [2, 7] (fun x j wr => ∃ m : Nat, m ≤ G.length ∧ j = .int .i64 ((m : Int) - 1) ∧ x = .int .i64 ((liftAllN (Ms.drop m) (G.drop m) s : Nat) : Int) ∧ Below w.heap.size w wr) (fun _ j _ => (intOf j + 1).toNat)
  case atStart => exact ⟨G.length, Nat.le_refl _, rfl, by rw [Hd0.out], Below.refl _ _⟩
  case round =>
    obtain ⟨m, hm, rfl, rfl, hW⟩ := hrel
    rcases m with _ | p
    · have h0 : (((0 : Nat) : Int) - 1) = -1 := rfl
      rw [h0]
      clear h0
      go_wp2_with fail
      go_ret
      exact ⟨hW, rfl⟩
    · have h0 : (((p + 1 : Nat) : Int) - 1) = (p : Int) := by omega
      rw [h0]
      obtain ⟨hp1, hst, hg1, hg2, hg3, hg4⟩ := Hstep.out p (by omega)
      obtain ⟨b, c, c1, c2, c3⟩ := HcM.out p hp1
      obtain ⟨g, rfl, c4, c5⟩ := HcG.out p (by omega)
      have c1' : wr.cell? ⟨q, p, none⟩ = some (.slice (some ⟨b, 0, none⟩) Ms[p].n c) := by rw [hW.cell hq2]; exact c1
      have c4' : wr.cell? ⟨g, p, none⟩ = some (.int .i64 (G[p] : Nat)) := by rw [hW.cell c5]; exact c4
      obtain ⟨x, hx⟩ : ∃ x, liftAllN (Ms.drop (p + 1)) (G.drop (p + 1)) s = x := ⟨_, rfl⟩
      rw [hx] at hst hg4 ⊢
      obtain ⟨K, hK⟩ : ∃ K, Ms[p] = K := ⟨_, rfl⟩
      obtain ⟨i, hi⟩ : ∃ i, G[p] = i := ⟨_, rfl⟩
      rw [hK, hi] at hst hg1
      rw [hK] at hg2 hg3 hg4 c1' c2
      rw [hi] at c4'
      have cl := Lib.hid (fun wx (hb : Below w.heap.size w wx) => lift_any b c x i K hg2 hg3 hg4 hg1 wx (c2.below hb c3))
      have Hst := Lib.hid hst
      have hlt : (p : Int) < ((Ms.length + 1 : Nat) : Int) := by omega
      have hlt2 : (p : Int) < (G.length : Int) := by omega
      have hlt3 : (p : Int) < (Ms.length : Int) + 1 := by omega
      have hlt4 : (0 : Int) ≤ (p : Int) := by omega
      clear h0 c1 c4 hx hK hi c2 hst
      go_wp2_with fail
      go_region_held3 (fun w' => w'.cell? ⟨q, p, none⟩ = some (.slice (some ⟨b, 0, none⟩) K.n c) ∧ w'.cell? ⟨g, p, none⟩ = some (.int .i64 (i : Nat)))
        (first | exact hkeep | go_keep)
        (first | (go_at_call 156; refine Calls.mono (cl.out _ (hW.drew)) ?_; rintro e w2 ⟨hW2, rfl⟩; have hW3 : Below w.heap.size w w2 := (hW.drew).trans (hW2.mono (by have := hW.size; simpa using this)); have hkeep : w2.cell? ⟨q, p, none⟩ = some (.slice (some ⟨b, 0, none⟩) K.n c) ∧ w2.cell? ⟨g, p, none⟩ = some (.int .i64 (i : Nat)) := ⟨(hW2.cell (by have := hW.size; simp; omega)).trans c1', (hW2.cell (by have := hW.size; simp; omega)).trans c4'⟩))
      go_wp2_with fail
      go_roundw
      case rel => exact ⟨p, by omega, rfl, by rw [Hst.out], hW3⟩
      case measure => simp [intOf] <;> omega


end Go.Proofs.YtkfagolmpbbckaaDoor
