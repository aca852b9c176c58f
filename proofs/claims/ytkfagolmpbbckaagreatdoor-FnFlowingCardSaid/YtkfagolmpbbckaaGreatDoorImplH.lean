/- The program's circuits: the walk along influences. -/
import Derived.Test.YtkfagolmpbbckaaGreatDoorImplD
import Derived.Deep.DeepCutAuto
import Derived.Deep.Onto
namespace Go.Proofs.YtkfagolmpbbckaaGreatDoor
open Go Go.RowKit Go.Sw
set_option maxRecDepth 100000
set_option linter.unusedVariables false

set_option maxHeartbeats 4000000 in
theorem walk_any (N : Net) (hn : N.n ≤ 5) (base bw bo bk bn cn : Nat) (f : Nat) : ∀ (way : List Nat) (ga ca : Nat) (v : Value) (cs : List (List Nat)) (w : World),
    WayOk N way → stepsOk N way → way.length + f = N.n + 1 → cs.length + 6 ^ f ≤ 100000 → EnvW w N base bw bo bk bn cn → RowAt w ga way → base ≤ ga → v.ownBlock ≠ some ga → OutAt w N base bo v cs →
    Calls Tryz.prog 81 #[.slice (some ⟨ga, 0, none⟩) way.length ca, .int .i64 (setL way : Nat), .pointer (some ⟨bw, 0, none⟩), .pointer (some ⟨bo, 0, none⟩), .pointer (some ⟨bk, 0, none⟩)] w fun e w' => e = .returned (.tuple #[]) ∧ ∃ v', OutAt w' N base bo v' (cs ++ walkL N f way) ∧ Kp w w' bo v v' := by
  induction f with
  | zero =>
    intro way ga ca v cs w hway _ hlen
    have := hway.length; omega
  | succ f ih =>
    intro way ga ca v cs w hway hst hlen hcs hE hrow hga hgv hO
    have hwl := hway.length
    have hhead := hway.head
    have hlast := hway.last
    have hne := hway.1
    have hlp : 0 < way.length := List.length_pos_iff.2 hne
    have hset := setL_lt fun k hk => (hway.2.2 k hk).1
    have hp := pw_le hn
    have hgL : way.getD (way.length - 1) 0 = lastN way := getD_last hne
    have hg0 : way.getD 0 0 = headN way := getD_head
    have hgbo : ga ≠ bo := by have := hE.lt.2.1; omega
    have hown : ∀ q, v.ownBlock = some q → base ≤ q := fun q hq => by obtain ⟨xs, h, _⟩ := hO.row; exact own_ge h hq
    have c1 : w.cell? ⟨ga, way.length - 1, none⟩ = some (.int .i64 (lastN way : Nat)) := by
      have := hrow.2 (way.length - 1) (by omega)
      rw [← hgL, List.getD_eq_getElem?_getD, List.getElem?_eq_getElem (by omega : way.length - 1 < way.length)]; exact this
    have c2 : w.cell? ⟨ga, 0, none⟩ = some (.int .i64 (headN way : Nat)) := by
      have := hrow.2 0 hlp
      rw [← hg0, List.getD_eq_getElem?_getD, List.getElem?_eq_getElem hlp]; exact this
    obtain ⟨hd, hhd⟩ : ∃ hd, headN way = hd := ⟨_, rfl⟩
    obtain ⟨la, hla⟩ : ∃ la, lastN way = la := ⟨_, rfl⟩
    have hcl : closeB N way = infB N la hd := by unfold closeB; rw [hla, hhd]
    have hwk := walkL_succ N f way
    have hgo : ∀ k, goesB N way k = (decide (hd < k) && (infB N la k && !way.contains k)) := fun k => by unfold goesB; rw [hhd, hla]
    rw [hla] at c1 hlast
    rw [hhd] at c2 hhead
    have hsub : ((way.length : Int) - 1) = ((way.length - 1 : Nat) : Int) := by omega
    have hact := actsN_lt N la
    have cA := Lib.hid (acts_any bn cn la N hn hlast w hE.at' (by have := hE.lt; omega))
    have hbt := bit_test (actsN N la) hd
    rw [actsN_bit, decide_eq_true hhead, Bool.true_and, ← hcl] at hbt
    have hnetc := hE.net
    have hEl := hE.lt
    have HE := Lib.hid hE
    have Hrow := Lib.hid hrow
    have HO := Lib.hid hO
    have Hway := Lib.hid hway
    have Hst := Lib.hid hst
    have Hwk := Lib.hid hwk
    have Hgo := Lib.hid hgo
    have Hown := Lib.hid hown
    have Ih := Lib.hid ih
    have Hcl := Lib.hid hcl
    have Hhd := Lib.hid hhd
    have Hla := Lib.hid hla
    have hcs6 : 6 ^ (f + 1) = 6 * 6 ^ f := by rw [Nat.pow_succ]; omega
    have hpow1 : 1 ≤ 6 ^ f := Nat.one_le_pow _ _ (by omega)
    have Hcs := Lib.hid (show cs.length + 6 * 6 ^ f ≤ 100000 by rw [← hcs6]; exact hcs)
    have hcsl : cs.length ≤ 100000 := by omega
    clear hE hrow hO hway hst hwk hgo hown ih hgL hg0 hcs hcs6 hne hhd hla hcl
    go_enter Tryz.func81, Tryz.ntmps81
    go_wp2_with fail
    refine cA.out.mono ?_
    rintro e wA ⟨hWA, rfl⟩
    have c2A : wA.cell? ⟨ga, 0, none⟩ = some (.int .i64 (hd : Nat)) := by rw [hWA.cell Hrow.out.1]; exact c2
    have hOA := HO.out.below hWA
    have hEA := HE.out.kp (Kp.of_below (bo := bo) (v := v) hWA) Hown.out
    have hRA := Hrow.out.below hWA
    have HOA := Lib.hid hOA
    have HEA := Lib.hid hEA
    have HRA := Lib.hid hRA
    clear hOA hEA hRA hsub c1 c2 hnetc
    go_upto_if 25 with fail
    go_cut [8] (fun s8 wx => s8 = .int .i64 (actsN N la : Nat) ∧ ∃ vB, OutAt wx N base bo vB (cs ++ if closeB N way then [way] else []) ∧ Kp wA wx bo v vB)
    case first =>
      cases hc : closeB N way
      · rw [hc] at hbt
        have Hc := Lib.hid hc
        clear hc
        go_wp2_with fail
        go_meet
        refine ⟨rfl, v, ?_, Kp.of_below (Below.refl _ _)⟩
        rw [Hc.out, if_neg (by decide), List.append_nil]; exact HOA.out
      · rw [hc] at hbt
        have Hc := Lib.hid hc
        clear hc
        obtain ⟨xs, hxo, hxj⟩ := HOA.out.row
        obtain ⟨i0, hi0, hz0, hz1, hz2⟩ := info_parts circ_row
        have hvar := HOA.out.var
        have hlow := HOA.out.low
        have hbo : wA.cell? ⟨bo, 0, none⟩ = some v := by rw [cell_of_row wA _ _ _ _ _ hvar]; rfl
        have hbw : wA.cell? ⟨bw, 0, none⟩ = some (.slice (some ⟨bn, 0, none⟩) N.n cn) := HEA.out.net
        have hAs := hWA.size
        have hbas : base ≤ wA.heap.size := by omega
        have hbov : v.ownBlock ≠ some bo := fun e => by have := Hown.out _ e; omega
        have cC := Lib.hid (fun wx (hx : Below wA.heap.size wA wx) => clone_any ga ca way hlp (by omega) wx (HRA.out.below hx))
        have cS := Lib.hid (fun wx (hx : Below wA.heap.size wA wx) g c (hr : RowAt wx g way) => signRow_any bn cn g c N hn way Hway.out.1 (fun k hk => (Hway.out.2.2 k hk).1) (stepsOk.close Hst.out Hway.out.1 Hc.out) (by omega) wx (HEA.out.at'.below hx (by omega)) (by have := hx.size; omega) hr)
        have Hxo := Lib.hid hxo
        have Hxj := Lib.hid hxj
        have Hi0 := Lib.hid hi0
        have Hz0 := Lib.hid hz0
        have Hz1 := Lib.hid hz1
        have Hz2 := Lib.hid hz2
        have Hvar := Lib.hid hvar
        have hbolt : bo < wA.heap.size := by omega
        have hpush : ∀ (w3 : World) (g2 c2 gg cp : Nat) (w6 : World), Below wA.heap.size wA (w3.alloc (.cells (circCells N way g2 c2).toArray 53)) → RowAt w3 g2 way → wA.heap.size ≤ g2 →
            w6.ownsRow base 53 3 (.slice (some ⟨gg, 0, none⟩) (cs.length + 1) cp) (cs.length + 1) (xs ++ circCells N way g2 c2) → (w3.alloc (.cells (circCells N way g2 c2).toArray 53)).grownBy w6 v.ownBlock → (v.ownBlock = some gg ∨ gg = w3.heap.size + 1) →
            OutAt (w6.setCell ⟨bo, 0, none⟩ (.slice (some ⟨gg, 0, none⟩) (cs.length + 1) cp)) N base bo (.slice (some ⟨gg, 0, none⟩) (cs.length + 1) cp) (cs ++ [way]) ∧ Kp wA (w6.setCell ⟨bo, 0, none⟩ (.slice (some ⟨gg, 0, none⟩) (cs.length + 1) cp)) bo v (.slice (some ⟨gg, 0, none⟩) (cs.length + 1) cp) := by
          intro w3 g2 c2 gg cp w6 hba hr3 hg2 hown hgrow hat
          have hOa := HOA.out.below hba
          have hra : RowAt (w3.alloc (.cells (circCells N way g2 c2).toArray 53)) g2 way := hr3.same (Below.heap_alloc _ _ _ hr3.1)
          have hvlt : ∀ q, v.ownBlock = some q → q < wA.heap.size := fun q hq => own_lt' hxo hq
          have hm := hOa.more hra (by omega) (fun e => by have := hvlt _ e; omega) xs ⟨own_below hxo hba, fun j hj => by
              obtain ⟨g', c', a1, a2, a3⟩ := hxj j hj
              exact ⟨g', c', a1, a2.below hba, a3⟩⟩ hgrow hown (by
              rcases hat with e | e
              · exact .inl e.symm
              · exact .inr (by rw [e]; simp [Value.ownBlock]))
          exact ⟨hm.1, (Kp.of_below hba).trans hm.2⟩
        have Hpush := Lib.hid hpush
        clear hxo hxj hvar hi0 hz0 hz1 hz2 hpush
        have hst1 : ∀ wx : World, Below wA.heap.size wA wx → wx.cell? ⟨bo, 0, none⟩ = some v ∧ wx.cell? ⟨bw, 0, none⟩ = some (.slice (some ⟨bn, 0, none⟩) N.n cn) := fun wx hx => ⟨(hx.cell (by show bo < _; omega)).trans hbo, (hx.cell (by show bw < _; omega)).trans hbw⟩
        have Hst1 := Lib.hid hst1
        clear hst1
        go_wp2_with fail
        go_region_law (first
          | (refine step_append_lies _ (by rfl) _ _ _ (by rfl) base 53 i0 _ 3 40 Tryz.underlying51 Hi0.out Hz0.out Hz1.out Hz2.out rfl (by omega) v cs.length xs (by rfl) (own_below Hxo.out hB3a) ⟨w3.heap.size, 0, none⟩ 1 1 (circCells N way g2 c2) (by rfl) (by rfl) (World.news_of_block (t := 53) (fr := (0, 0)) (heap_alloc_new w3 _)) (by simp [circCells, Value.oneCell']) (by omega) (by unfold maxLen; omega) (by omega) (by simp; omega) (w3.heap.size + 1) (by simp) ?_
             intro gg cp w6 hown6 hgrow hat6 hlt6
             have hv6 := (hgrow.block bo (by simp; omega) (fun h => hbov h.symm)).trans hvara
             have hbo6 : w6.cell? ⟨bo, 0, none⟩ = some v := by rw [cell_of_row w6 _ _ _ _ _ hv6]; rfl
             have hfr6 : w6.frozen? ⟨bo, 0, none⟩ = false := free_of_one hv6
             have hdone := Hpush.out w3 g2 c2 gg cp w6 hB3a hr3 hg2 hown6 hgrow hat6)
          | (go_simp; go_at_call 83
             refine Calls.mono (cC.out _ ((Below.refl _ _).drew)) ?_
             rintro e w2 ⟨hB2, g2, c2, rfl, hg2, hr2, -⟩
             have hbo2 := (Hst1.out w2 ((Below.refl _ _).drew.trans hB2)).1
             have hbw2 := (Hst1.out w2 ((Below.refl _ _).drew.trans hB2)).2)
          | (skip; go_simp; go_at_call 84
             refine Calls.mono (cS.out _ ((Below.refl _ _).drew.trans hB2) _ _ (HRA.out.below ((Below.refl _ _).drew.trans hB2))) ?_
             rintro e w3 ⟨hB3, rfl⟩
             have hB3' : Below wA.heap.size wA w3 := ((Below.refl _ _).drew.trans hB2).trans (hB3.mono (by have := hB2.size; simpa using this))
             have hbo3 := (Hst1.out w3 hB3').1
             have hr3 : RowAt w3 g2 way := hr2.below hB3
             have hs3 : wA.heap.size ≤ w3.heap.size := hB3'.size
             have hB3a := hB3'.alloc (by have := hB3'.size; omega) (.cells (circCells N way g2 c2).toArray 53)
             have hboa : (w3.alloc (.cells #[.slice (some ⟨g2, 0, none⟩) way.length c2, .int .i64 (setL way : Nat), .int .u8 (signT (circC N way)).toNat] 53)).cell? ⟨bo, 0, none⟩ = some v := (Hst1.out _ hB3a).1
             have hvara := (hB3a.block bo hbolt).trans Hvar.out))
        all_goals go_wp2_with fail
        all_goals go_meet
        all_goals exact ⟨rfl, _, by rw [Hc.out, if_pos rfl]; exact hdone.1, hdone.2⟩
    case rest =>
      obtain ⟨rfl, vB, hOB, hKB⟩ := hcut
      have hRB := HRA.out.kp hKB hgbo hgv
      have hEB := HEA.out.kp hKB Hown.out
      have c2B : wc.cell? ⟨ga, 0, none⟩ = some (.int .i64 (hd : Nat)) := by
        rw [World.cell?_of_block (w := wA) (a := ⟨ga, 0, none⟩) (hKB.block ga HRA.out.1 hgbo hgv)]; exact c2A
      have hvB : ∀ q, vB.ownBlock = some q → base ≤ q := fun q hq => by obtain ⟨xs, h, _⟩ := hOB.row; exact own_ge h hq
      have hgvB : vB.ownBlock ≠ some ga := fun e => by
        rcases hKB.own _ e with e | e
        · exact hgv e
        · have := HRA.out.1; omega
      have hlB : (cs ++ if closeB N way = true then [way] else []).length ≤ cs.length + 1 := by split <;> simp
      have hend : cs ++ walkL N (f + 1) way = (cs ++ if closeB N way = true then [way] else []) ++ subW N f way N.n := by rw [Hwk.out, List.append_assoc]
      obtain ⟨cs1, hcs1⟩ : ∃ c, (cs ++ if closeB N way = true then [way] else []) = c := ⟨_, rfl⟩
      rw [hcs1] at hOB hlB hend
      have HlB := Lib.hid hlB
      have Hend := Lib.hid hend
      have HRB := Lib.hid hRB
      have HEB := Lib.hid hEB
      have HOB := Lib.hid hOB
      have HKB := Lib.hid hKB
      have HvB := Lib.hid hvB
      clear hRB hEB hOB hKB hvB hcs1 hlB hend c2A
      go_wp2_with fail
      go_loopw [9] (fun j wr => ∃ (k : Nat) (vk : Value), hd < k ∧ k ≤ N.n ∧ j = .int .i64 k ∧ OutAt wr N base bo vk (cs1 ++ subW N f way k) ∧ Kp wc wr bo vB vk) (fun j _ => N.n - (intOf j).toNat)
      case atStart => exact ⟨hd + 1, vB, by omega, by omega, by go_num, by rw [subW_low (by rw [Hhd.out]; exact Nat.le_refl _), List.append_nil]; exact HOB.out, Kp.of_below (Below.refl _ _)⟩
      case round =>
        obtain ⟨k, vk, hk1, hk2, rfl, hOr, hKr⟩ := hrel
        have hRr := HRB.out.kp hKr hgbo hgvB
        have hEr := HEB.out.kp hKr HvB.out
        have hbw : wr.cell? ⟨bw, 0, none⟩ = some (.slice (some ⟨bn, 0, none⟩) N.n cn) := hEr.net
        have HOr := Lib.hid hOr
        have HKr := Lib.hid hKr
        have HRr := Lib.hid hRr
        have HEr := Lib.hid hEr
        by_cases hlt : k < N.n
        · have hg := Hgo.out k
          rw [decide_eq_true hk1, Bool.true_and] at hg
          have hb1 := bit_test (actsN N la) k
          rw [actsN_bit, decide_eq_true hlt, Bool.true_and] at hb1
          have hb2 := bit_test (setL way) k
          rw [setL_bit] at hb2
          have hkn : (k : Int) < (N.n : Int) := by omega
          have hbk := hEr.fn
          cases h1 : infB N la k
          · rw [h1] at hb1
            rw [h1, Bool.false_and] at hg
            have Hg := Lib.hid (subW_no (f := f) hg)
            clear h1 hg hOr hKr hRr hEr hbk
            go_wp2_with fail
            go_roundw
            case rel => exact ⟨k + 1, vk, by omega, by omega, by go_num, by rw [Hg.out]; exact HOr.out, HKr.out⟩
            case measure => simp [intOf] <;> omega
          · rw [h1] at hb1
            cases h2 : way.contains k
            · rw [h2] at hb2
              rw [h1, h2, Bool.true_and, Bool.not_false] at hg
              have Hg := Lib.hid (subW_yes (f := f) hg)
              have Hg0 := Lib.hid hg
              have H1 := Lib.hid h1
              obtain ⟨s2, hs2⟩ : ∃ s2, setL way ||| 2 ^ k = s2 := ⟨_, rfl⟩
              have hset60 : setL way < 2 ^ 60 := by omega
              have hor := or_pow (setL way) k hset60 (by omega)
              rw [hs2] at hor
              have hp2 := pow2_le k (by omega)
              have hw2 : IntKind.i64.wrap (2 ^ k) = 2 ^ k := IntWalk.i64_in _ (by omega)
              rw [← hw2] at hor
              clear hw2
              have hbkb : bk < wr.heap.size := by have := hEr.lt; omega
              have hEl2 := hEr.lt
              have hway2 : WayOk N (way ++ [k]) := Hway.out.snoc hlt hg
              have hst2 : stepsOk N (way ++ [k]) := stepsOk.snoc Hst.out Hway.out.1 (by rw [Hla.out]; have := h1; rw [edgeC_inf, decide_eq_true_eq] at this; exact this)
              have hcall : ∀ (gg cp : Nat) (w6 : World), Below wr.heap.size wr w6 → w6.ownsRow wr.heap.size 3 1 (.slice (some ⟨gg, 0, none⟩) (way.length + 1) cp) (way.length + 1) (ints (way.map Int.ofNat) ++ [.int .i64 (k : Nat)]) →
                  Calls Tryz.prog 81 #[.slice (some ⟨gg, 0, none⟩) (way.length + 1) cp, .int .i64 (s2 : Nat), .pointer (some ⟨bw, 0, none⟩), .pointer (some ⟨bo, 0, none⟩), .pointer (some ⟨bk, 0, none⟩)] w6 fun e w7 =>
                    e = .returned (.tuple #[]) ∧ w7.cell? ⟨bk, 0, none⟩ = some (.func (.func 81) #[] #[.pointer (some ⟨bw, 0, none⟩), .pointer (some ⟨bo, 0, none⟩), .pointer (some ⟨bk, 0, none⟩)]) ∧ ∃ v7, OutAt w7 N base bo v7 (cs1 ++ subW N f way (k + 1)) ∧ Kp wc w7 bo vB v7 := by
                intro gg cp w6 hB6 hown6
                have e1 : way.length + 1 = (way ++ [k]).length := by simp
                have e2 : way.length + 1 = ((way ++ [k]).map Int.ofNat).length := by simp
                have hO6 := HOr.out.below hB6
                have hK6 : Kp wr w6 bo vk vk := Kp.of_below hB6
                have hvk : ∀ q, vk.ownBlock = some q → base ≤ q ∧ q < wr.heap.size := fun q hq => by obtain ⟨xs, h, _⟩ := HOr.out.row; exact ⟨own_ge h hq, own_lt' h hq⟩
                have hE6 := HEr.out.kp hK6 fun q hq => (hvk q hq).1
                have hI6 : w6.ownsRow wr.heap.size 3 1 (.slice (some ⟨gg, 0, none⟩) (way.length + 1) cp) ((way ++ [k]).map Int.ofNat).length (ints ((way ++ [k]).map Int.ofNat)) := by
                  rw [← e2, List.map_append, List.map_singleton, ints_snoc]; exact hown6
                obtain ⟨a6, cp6, e6, _, hI⟩ := intsAt_of_own hI6
                obtain ⟨g6, rfl, hg6, hR6⟩ := rowAt_of_ints (by simp) hI
                obtain rfl : gg = g6 := by
                  injection e6 with ea _ _
                  cases ea; rfl
                have hlen6 : (cs1 ++ subW N f way k).length + 6 ^ f ≤ 100000 := by
                  have h1 := HlB.out
                  have h2 := subW_length hn f way k
                  have h3 : k * 6 ^ f ≤ 4 * 6 ^ f := Nat.mul_le_mul_right _ (by omega)
                  have h4 := Hcs.out
                  rw [List.length_append]; omega
                have c := Ih.out (way ++ [k]) gg cp vk (cs1 ++ subW N f way k) w6 hway2 hst2 (by simp; omega) hlen6 hE6 hR6 (by omega) (fun e => by have := (hvk _ e).2; omega) hO6
                rw [setL_snoc, hs2, ← e1] at c
                refine c.mono ?_
                rintro e w7 ⟨he, v7, hO7, hK7⟩
                have hE7 := hE6.kp hK7 fun q hq => (hvk q hq).1
                exact ⟨he, hE7.fn, v7, by rw [Hg.out, ← List.append_assoc]; exact hO7, HKr.out.trans (hK6.trans hK7)⟩
              obtain ⟨i0, hi0, hz0, hz1, hz2⟩ := info_parts int_row
              have Hi0 := Lib.hid hi0
              have Hz0 := Lib.hid hz0
              have Hz1 := Lib.hid hz1
              have Hz2 := Lib.hid hz2
              have Hcall := Lib.hid hcall
              have hclA : Calls Tryz.prog 83 #[.slice (some ⟨ga, 0, none⟩) way.length ca] wr.drew fun e w2 => ∃ g2 c2, e = .returned (.slice (some ⟨g2, 0, none⟩) way.length c2) ∧ w2.ownsRow wr.heap.size 3 1 (.slice (some ⟨g2, 0, none⟩) way.length c2) way.length (ints (way.map Int.ofNat)) ∧ Below wr.heap.size wr w2 ∧ w2.cell? ⟨bk, 0, none⟩ = some (.func (.func 81) #[] #[.pointer (some ⟨bw, 0, none⟩), .pointer (some ⟨bo, 0, none⟩), .pointer (some ⟨bk, 0, none⟩)]) := by
                refine (clone_any ga ca way hlp (by omega) wr.drew (HRr.out.below (Below.refl _ _).drew)).mono ?_
                rintro e w2 ⟨hB2, g2, c2, rfl, hg2, hr2, hown2⟩
                have hW2 : Below wr.heap.size wr w2 := ((Below.refl _ _).drew).trans (hB2.mono (by simp))
                exact ⟨g2, c2, rfl, hown2.mono (by simp), hW2, (hW2.cell hbkb).trans hbk⟩
              have hclB : Calls Tryz.prog 83 #[.slice (some ⟨ga, 0, none⟩) way.length ca] (wr.alloc (.cells #[.int .i64 (k : Nat)] 3)).drew fun e w2 => ∃ g2 c2, e = .returned (.slice (some ⟨g2, 0, none⟩) way.length c2) ∧ w2.ownsRow wr.heap.size 3 1 (.slice (some ⟨g2, 0, none⟩) way.length c2) way.length (ints (way.map Int.ofNat)) ∧ Below wr.heap.size wr w2 ∧ w2.cell? ⟨bk, 0, none⟩ = some (.func (.func 81) #[] #[.pointer (some ⟨bw, 0, none⟩), .pointer (some ⟨bo, 0, none⟩), .pointer (some ⟨bk, 0, none⟩)]) ∧ w2.heap[wr.heap.size]? = some (.cells #[.int .i64 (k : Nat)] 3 (0, 0)) ∧ wr.heap.size < w2.heap.size := by
                have hal : Below wr.heap.size wr (wr.alloc (.cells #[.int .i64 (k : Nat)] 3)).drew := ((Below.refl _ _).alloc (Nat.le_refl _) _).drew
                refine (clone_any ga ca way hlp (by omega) _ (HRr.out.below hal)).mono ?_
                rintro e w2 ⟨hB2, g2, c2, rfl, hg2, hr2, hown2⟩
                have hsz : (wr.alloc (.cells #[.int .i64 (k : Nat)] 3)).drew.heap.size = wr.heap.size + 1 := by simp
                have hW2 : Below wr.heap.size wr w2 := hal.trans (hB2.mono (by omega))
                have hs2 := hB2.size
                exact ⟨g2, c2, rfl, hown2.mono (by omega), hW2, (hW2.cell hbkb).trans hbk, (hB2.block _ (by omega)).trans (heap_alloc_new wr _), by omega⟩
              have HclA := Lib.hid hclA
              have HclB := Lib.hid hclB
              have hbk1 : ∀ X, (wr.alloc X).drew.cell? ⟨bk, 0, none⟩ = some (.func (.func 81) #[] #[.pointer (some ⟨bw, 0, none⟩), .pointer (some ⟨bo, 0, none⟩), .pointer (some ⟨bk, 0, none⟩)]) := fun X => cell_alloc_keep (w := wr) hbk
              clear h1 h2 hg hOr hKr hRr hEr hs2 hcall hi0 hz0 hz1 hz2 hway2 hst2 hclA hclB
              go_wp2_with fail
              go_region_law (first
                  | (go_simp; go_at_call 83
                     refine Calls.mono HclA.out ?_
                     rintro e w2 ⟨g2, c2, rfl, hown2A, hW2, hkeep2⟩
                     have hkeep2a := cell_alloc_keep (o := .cells #[.int .i64 (k : Nat)] 3) hkeep2)
                  | (go_simp; go_at_call 83
                     refine Calls.mono HclB.out ?_
                     rintro e w2 ⟨g2, c2, rfl, hown2B, hW2, hkeep2, hblk2, hsz2⟩)
                  | (go_simp; go_at_call 81
                     refine Calls.mono (Hcall.out _ _ _ hW6 hown6) ?_
                     rintro e w7 ⟨rfl, -, hfin⟩)
                  | (refine step_append_lies _ (by rfl) _ _ _ (by rfl) wr.heap.size 3 i0 (.int .i64 0) 1 8 Tryz.underlying27 Hi0.out Hz0.out Hz1.out Hz2.out rfl (by omega) (.slice (some ⟨g2, 0, none⟩) way.length c2) way.length (ints (way.map Int.ofNat)) (by rfl) (hown2A.alloc _) ⟨w2.heap.size, 0, none⟩ 1 1 [_] (by rfl) (by rfl) (World.news_of_block (t := 3) (fr := (0, 0)) (heap_alloc_new w2 _)) (by simp [Value.oneCell']) (by omega) (by unfold maxLen; omega) (by omega) (by have := hW2.size; simp; omega) (w2.heap.size + 1) (by simp) ?_
                     intro gg cp w6 hown6 hgrow hat6 hlt6
                     have hW6 : Below wr.heap.size wr w6 := (hW2.alloc hW2.size _).grown hgrow (by have := hW2.size; simp; omega) (fun q hq => own_ge hown2A hq)
                     have hkeep6 := (hW6.cell hbkb).trans hbk)
                  | (refine step_append_lies _ (by rfl) _ _ _ (by rfl) wr.heap.size 3 i0 (.int .i64 0) 1 8 Tryz.underlying27 Hi0.out Hz0.out Hz1.out Hz2.out rfl (by omega) (.slice (some ⟨g2, 0, none⟩) way.length c2) way.length (ints (way.map Int.ofNat)) (by rfl) hown2B ⟨wr.heap.size, 0, none⟩ 1 1 [_] (by rfl) (by rfl) (World.news_of_block (t := 3) (fr := (0, 0)) hblk2) (by simp [Value.oneCell']) (by omega) (by unfold maxLen; omega) (by omega) (by omega) w2.heap.size (by rfl) ?_
                     intro gg cp w6 hown6 hgrow hat6 hlt6
                     have hW6 : Below wr.heap.size wr w6 := hW2.grown hgrow (by omega) (fun q hq => own_ge hown2B hq)
                     have hkeep6 := (hW6.cell hbkb).trans hbk))
              all_goals go_wp2_with fail
              all_goals go_roundw
              all_goals first
                | exact ⟨k + 1, hfin.choose, by omega, by omega, by go_num, hfin.choose_spec.1, hfin.choose_spec.2⟩
                | (simp [intOf] <;> omega)
            · rw [h2] at hb2
              rw [h1, h2, Bool.true_and, Bool.not_true] at hg
              have Hg := Lib.hid (subW_no (f := f) hg)
              clear h1 h2 hg hOr hKr hRr hEr hbk
              go_wp2_with fail
              go_roundw
              case rel => exact ⟨k + 1, vk, by omega, by omega, by go_num, by rw [Hg.out]; exact HOr.out, HKr.out⟩
              case measure => simp [intOf] <;> omega
        · obtain rfl : k = N.n := by omega
          clear hOr hKr hRr hEr
          go_wp2_with fail
          go_end0
          exact ⟨rfl, vk, by rw [Hend.out]; exact HOr.out, ((Kp.of_below hWA).trans HKB.out).trans HKr.out⟩
end Go.Proofs.YtkfagolmpbbckaaGreatDoor
