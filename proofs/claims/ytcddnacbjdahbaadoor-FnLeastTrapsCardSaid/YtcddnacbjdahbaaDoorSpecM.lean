/- The statement's terms in order, traps, the least and the greatest of them. -/
import Derived.Test.YtcddnacbjdahbaaDoorSpecF
import Derived.Test.YtcddnacbjdahbaaDoorSy
import Derived.Test.YtcddnacbjdahbaaDoorTm
import Derived.Test.YtcddnacbjdahbaaDoorImplN
import Derived.Deep.RegionHeld3
import Derived.Deep.AppendLies
namespace Go.Proofs.YtcddnacbjdahbaaDoor
open Go Go.RowKit Go.Sw
set_option maxRecDepth 100000
set_option linter.unusedVariables false

theorem drewN_two (w : World) (a b : Nat) : ∃ m, (w.drewN a).drewN b = w.drewN m := ⟨a + b, by simp [World.drewN, Nat.add_assoc]⟩
theorem l2Inside_any (n : Nat) (p q : Trm) (hn : n ≤ 5) (w : World) :
    Calls Tryd.prog 187 #[.string (termT n p), .string (termT n q)] w fun e w' => e = .returned (.bool (insTo p q n)) ∧ ∃ m, w' = w.drewN m := by
  obtain ⟨t, ht⟩ : ∃ t, termT n p = t := ⟨_, rfl⟩
  obtain ⟨u, hu⟩ : ∃ u, termT n q = u := ⟨_, rfl⟩
  have hsz : t.size = n := by rw [← ht]; exact termT_size n p
  have hsz2 : u.size = n := by rw [← hu]; exact termT_size n q
  have hget : ∀ k (h : k < t.size), t[k] = letterT (p k) := fun k h => by subst ht; exact termT_get n p k (by omega)
  have hget2 : ∀ k (h : k < u.size), u[k] = letterT (q k) := fun k h => by subst hu; exact termT_get n q k (by omega)
  rw [ht, hu]
  have Hget := Lib.hid hget
  have Hget2 := Lib.hid hget2
  have hs1 : t.size ≤ n := by omega
  have hs2 : n ≤ t.size := by omega
  have hs3 : u.size ≤ n := by omega
  have hs4 : n ≤ u.size := by omega
  have hbad := Lib.hid (fun k (hk : k < n) (h : ((q k).isNone || p k == q k) = false) => show insTo p q n = false from by
    cases e : insTo p q n with
    | false => rfl
    | true =>
      have := (insTo_iff p q n).1 e k hk
      rw [Bool.or_eq_false_iff] at h
      rcases this with h2 | h2
      · rw [h2] at h; exact absurd h.1 (by decide)
      · rw [h2] at h; simp at h)
  have hdn := Lib.hid (drewN_two w)
  clear ht hu hsz hsz2 hget hget2
  go_enter Tryd.func187, Tryd.ntmps187
  go_wp2_with fail
  go_loopw [5] (fun j wr => (∃ k : Nat, k ≤ n ∧ j = .int .i64 k ∧ insTo p q k = true) ∧ ∃ nq, wr = w.drewN nq) (fun j _ => n - (intOf j).toNat)
  case atStart => exact ⟨⟨0, Nat.zero_le _, rfl, rfl⟩, 0, rfl⟩
  case round =>
    obtain ⟨⟨k, hk, rfl, hto⟩, nq0, rfl⟩ := hrel
    have Hto := Lib.hid hto
    clear hto
    by_cases hlt : k < n
    · have hlt2 : k < t.size := by omega
      have hlt3 : k < u.size := by omega
      have hv := Hget.out k hlt2
      have hv' := Hget2.out k hlt3
      have hnx : insTo p q (k + 1) = (insTo p q k && ((q k).isNone || p k == q k)) := rfl
      rw [Hto.out, Bool.true_and] at hnx
      have hb := hbad.out k hlt
      rcases hp : p k with _ | _ | _ <;> rcases hq : q k with _ | _ | _ <;> rw [hp] at hv <;> rw [hq] at hv' <;> rw [hp, hq] at hnx hb
      all_goals
        simp only [letterT] at hv hv'
        have hv2 : (t[k].toNat : Int) = _ := congrArg (fun x : UInt8 => (x.toNat : Int)) hv
        have hv3 : (u[k].toNat : Int) = _ := congrArg (fun x : UInt8 => (x.toNat : Int)) hv'
        simp only [show ((42 : UInt8).toNat : Int) = 42 from rfl, show ((48 : UInt8).toNat : Int) = 48 from rfl, show ((49 : UInt8).toNat : Int) = 49 from rfl] at hv2 hv3
        have Hnx := Lib.hid hnx
        have Hb := Lib.hid hb
        clear hv hv' hnx hp hq hb
        go_wp2_with fail
        go_quiet (fail)
        go_wp2_with fail
        first
          | (go_roundw
             case rel => exact ⟨⟨k + 1, by omega, by go_num, Hnx.out⟩, _, rfl⟩
             case measure => simp [intOf] <;> omega)
          | exact ⟨⟨⟨k + 1, by omega, by go_num, Hnx.out⟩, _, rfl⟩, by simp [intOf] <;> omega⟩
          | (go_ret; exact ⟨by rw [Hb.out rfl]; rfl, hdn.out _ _⟩)
          | (go_ret; exact ⟨by rw [Hb.out rfl]; rfl, _, rfl⟩)
    · obtain rfl : k = n := by omega
      go_wp2_with fail
      go_ret
      exact ⟨by rw [Hto.out]; rfl, _, rfl⟩
theorem texts_three (xs : List ByteArray) (p q r : ByteArray) : texts (xs ++ [p, q, r]) = texts xs ++ [.string p, .string q, .string r] := by simp [texts]
set_option maxHeartbeats 1000000 in
theorem l2All_any (n : Nat) (hn : n ≤ 5) (w : World) :
    Calls Tryd.prog 157 #[.int .i64 n] w fun e w' => Below w.heap.size w w' ∧ ∃ v, e = .returned v ∧ w'.ownsRow w.heap.size 9 1 v (allL n).length (texts (allL n)) := by
  have h0 := Lib.hid (allL_zero)
  obtain ⟨i0, hi0, hz0, hz1, hz2⟩ := info_parts str_row
  have Hi0 := Lib.hid hi0
  have Hz0 := Lib.hid hz0
  have Hz1 := Lib.hid hz1
  have Hz2 := Lib.hid hz2
  clear hi0 hz0 hz1 hz2
  go_enter Tryd.func157, Tryd.ntmps157
  go_wp2_with ((with_reducible show wpList _ _ _ (⟨_, .buildSlice 26 1 _, _, _, _, _⟩ :: _) _ _); refine wpList_buildSlice' rfl _ _ _ rfl rfl (str_one ByteArray.empty _) ?_)
  go_loopw [3, 4, 5, 6] (fun out i _ _ wr => ∃ k : Nat, k ≤ n ∧ i = .int .i64 k ∧ wr.ownsRow w.heap.size 9 1 out (allL k).length (texts (allL k)) ∧ Below w.heap.size w wr) (fun _ i _ _ _ => n - (intOf i).toNat)
  case atStart => exact ⟨0, Nat.zero_le _, rfl, by
    rw [h0.out]
    exact ⟨rfl, .inr ⟨w.heap.size, 1, #[.string ByteArray.empty], rfl, Nat.le_refl _, heap_alloc_new w _, Nat.le_refl _, by unfold maxLen; omega, rfl, rfl⟩⟩, (Below.refl _ _).alloc (Nat.le_refl _) _⟩
  case round =>
    obtain ⟨k, hk, rfl, hown, hW⟩ := hrel
    have hl1 := allL_le (show k ≤ 5 by omega)
    have hszs := allL_size k
    by_cases hlt : k < n
    · obtain ⟨a, cp, rfl, hcp, hT⟩ := textsAt_of_own hown
      obtain ⟨xs, hxs⟩ : ∃ xs, allL k = xs := ⟨_, rfl⟩
      have hend := Lib.hid (partM_end k)
      have hsuc := Lib.hid (fun j (h : j < (allL k).length) => partM_succ h)
      have hz := Lib.hid (partM_zero k)
      have hlm := fun j => partM_length (k := k) (j := j) (by omega)
      rw [hxs] at hown hl1 hszs hT hend hsuc hcp ⊢
      have Hszs := Lib.hid hszs
      have HT := Lib.hid hT
      have hlen : 0 < xs.length := by
        have := allL_length k
        rw [hxs] at this
        rw [this]; exact Nat.pow_pos (by omega)
      obtain ⟨g, _, _, rfl, _, hc, _, _⟩ := hT.at' hlen
      have hgw := block_lt hc
      have hWs := hW.size
      obtain ⟨wo, rfl⟩ : ∃ wo : World, wo = wr := ⟨_, rfl⟩
      clear hT hc hown hszs
      go_wp2_with ((with_reducible show wpList _ _ _ (⟨_, .buildSlice 26 0 _, _, _, _, _⟩ :: _) _ _); refine wpList_buildSlice' rfl _ _ _ rfl rfl (str_none _) ?_)
      have hmade := Lib.hid (World.ownsRow_made (e := 9) (size := 1) (base := w.heap.size) wo #[] 0 hWs (by unfold maxLen; omega) rfl)
      go_loopw [5, 6] (fun nx j wr => ∃ m : Nat, m ≤ xs.length ∧ j = .int .i64 m ∧ wr.ownsRow w.heap.size 9 1 nx (partM k m).length (texts (partM k m)) ∧ Below w.heap.size w wr ∧ wr.heap[g]? = wo.heap[g]? ∧ nx.ownBlock ≠ some g ∧ g < wr.heap.size) (fun _ j _ => xs.length - (intOf j).toNat)
      case atStart => exact ⟨0, Nat.zero_le _, rfl, by rw [hz.out]; exact hmade.out, hW.alloc hWs _, Below.heap_alloc _ _ _ hgw, (fun e => by
        have : wo.heap.size = g := Option.some.inj e
        omega), by simp; omega⟩
      case round =>
        obtain ⟨m, hm, rfl, hown, hW2, hg, hne, hgl⟩ := hrel
        have Hown := Lib.hid hown
        have hlm2 := hlm m
        have hWs2 := hW2.size
        clear hown
        by_cases hlt2 : m < xs.length
        · obtain ⟨g', hg', hcell0⟩ := HT.out.cell hlt2
          cases hg'
          have hcell : wr.cell? ⟨g, m, none⟩ = some (.string xs[m]) := by
            rw [World.cell?_of_block (w := wo) (a := ⟨g, m, none⟩) hg]; exact hcell0
          have hsz := Hszs.out xs[m] (List.getElem_mem hlt2)
          have hs := hsuc.out m hlt2
          obtain ⟨t, ht⟩ : ∃ t, xs[m] = t := ⟨_, rfl⟩
          rw [ht] at hs hsz hcell
          have hsz2 : t.size ≤ 5 := by omega
          obtain ⟨ps, hps⟩ : ∃ ps, partM k m = ps := ⟨_, rfl⟩
          rw [hps] at hs Hown hlm2
          have Hs := Lib.hid hs
          have Hg := Lib.hid hg
          have Hne := Lib.hid hne
          have hq1 : ¬ 9223372036854775807 < t.size + 1 := by omega
          have Hcell := Lib.hid hcell
          clear hs hg hne hcell0 ht hsz hps
          go_wp2_with fail
          go_region_law (first
            | (refine step_append_lies _ (by rfl) _ _ _ (by rfl) w.heap.size 9 i0 (.string ByteArray.empty) 1 16 Tryd.underlying26 Hi0.out Hz0.out Hz1.out Hz2.out rfl (by omega) u5 ps.length (texts ps) (by rfl) ((Hown.out.alloc _).drew) ⟨wr.heap.size, 0, none⟩ 3 3 [_, _, _] (by rfl) (by rfl) (World.news_of_block (t := 9) (fr := (0, 0)) (heap_alloc_new wr _)) (by simp [Value.oneCell']) (by omega) (by unfold maxLen; omega) (by omega) (by simp; omega) (wr.heap.size + 1) (by simp) ?_
               intro gg cp6 w6 hown6 hgrow hat6 hlt6))
          all_goals
            have hblk : w6.heap[g]? = wr.heap[g]? := (hgrow.block g (by simp; omega) (fun h => Hne.out h.symm)).trans (Below.heap_alloc _ _ _ hgl)
            have hown7 : w6.ownsRow w.heap.size 9 1 (.slice (some ⟨gg, 0, none⟩) (ps.length + 3) cp6) (partM k (m + 1)).length (texts (partM k (m + 1))) := by
              rw [Hs.out, List.length_append, texts_three]; exact hown6
            have hB6 : Below w.heap.size w w6 := ((hW2.alloc hWs2 _).drew).grown hgrow (by simp; omega) (fun q hq => own_ge Hown.out hq)
            have hne6 : (Value.slice (some ⟨gg, 0, none⟩) (ps.length + 3) cp6).ownBlock ≠ some g := by
              rcases hat6 with h | h
              · intro e
                exact Hne.out (h.trans e)
              · intro e
                have e2 : gg = g := Option.some.inj e
                omega
            have hg6 : g < w6.heap.size := by have := hgrow.size; simp at this; omega
            have Hown7 := Lib.hid hown7
            have HB6 := Lib.hid hB6
            have Hne6 := Lib.hid hne6
            have Hblk := Lib.hid (hblk.trans Hg.out)
            clear hgrow hown6 hown7 hat6 hblk hB6 hne6
            go_wp2_with fail
            go_roundw
            case rel => exact ⟨m + 1, by omega, by go_num, Hown7.out, HB6.out, Hblk.out, Hne6.out, hg6⟩
            case measure => simp [intOf] <;> omega
        · obtain rfl : m = xs.length := by omega
          have Hend := Lib.hid hend.out
          clear hg hne
          go_wp2_with fail
          go_roundw
          case rel => exact ⟨k + 1, by omega, by go_num, by rw [← Hend.out]; exact Hown.out, hW2⟩
          case measure => simp [intOf] <;> omega
    · obtain rfl : k = n := by omega
      have Hown := Lib.hid hown
      clear hown
      go_wp2_with fail
      go_ret
      exact ⟨hW, _, rfl, Hown.out⟩
end Go.Proofs.YtcddnacbjdahbaaDoor
