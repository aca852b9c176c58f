/- The statement's traps, the least and the greatest of them. -/
import Derived.Test.YtcddnacbjdahbaaDoorSpecM
import Derived.Test.YtcddnacbjdahbaaDoorTo
import Derived.Test.YtcddnacbjdahbaaDoorImplP
namespace Go.Proofs.YtcddnacbjdahbaaDoor
open Go Go.RowKit Go.Sw
set_option maxRecDepth 100000
set_option linter.unusedVariables false

theorem TxR.same {w w' : World} {g o : Nat} {xs : List ByteArray} (h : TxR w (some ⟨g, o, none⟩) xs) (hb : w'.heap[g]? = w.heap[g]?) : TxR w' (some ⟨g, o, none⟩) xs := ⟨fun h0 => by
  obtain ⟨g', o', e, h1, h2⟩ := h.at' h0
  cases e
  refine ⟨g, o, rfl, ?_, fun j hj => ?_⟩
  · rw [Array.getElem?_eq_getElem h1] at hb
    exact (Array.getElem?_eq_some_iff.1 hb).1
  · rw [World.cell?_of_block (w := w) (a := ⟨g, o + j, none⟩) hb]; exact h2 j hj⟩
set_option maxHeartbeats 1000000 in
theorem l6Traps_any (b cap : Nat) (N : Net) (hn : N.n ≤ 5) (w : World) (hat : StrsAt w b (netTexts N)) (hb : b < w.heap.size) :
    Calls Tryd.prog 86 #[.slice (some ⟨b, 0, none⟩) N.n cap] w fun e w' => Below w.heap.size w w' ∧ ∃ a c, e = .returned (.slice a (trapsT N).length c) ∧ TextsAt w' w.heap.size a (trapsT N) := by
  have Hat := Lib.hid hat
  have cA := fun wx => l2All_any N.n hn wx
  have hlenA : (allP N.n).length = (allL N.n).length := allP_length N.n
  have hl243 := allL_le hn
  have hall := Lib.hid (trapsTo_all N)
  have hz := Lib.hid (trapsTo_zero N)
  have hsuc := Lib.hid (fun k (h : k < (allP N.n).length) => trapsTo_succ h)
  have hlt0 := fun k => trapsTo_length hn k
  have hget : ∀ k (h : k < (allL N.n).length) (h2 : k < (allP N.n).length), (allL N.n)[k] = termT N.n ((allP N.n)[k]) := fun k h h2 => by simp [allL]
  obtain ⟨ps, hps⟩ : ∃ ps, allP N.n = ps := ⟨_, rfl⟩
  obtain ⟨xs, hxs⟩ : ∃ xs, allL N.n = xs := ⟨_, rfl⟩
  rw [hps, hxs] at hget
  rw [hxs] at cA
  rw [hps, hxs] at hlenA
  rw [hxs] at hl243
  rw [hps] at hall hsuc
  have Hget := Lib.hid hget
  have CA := Lib.hid cA
  clear hat hps hxs hget cA
  go_enter Tryd.func86, Tryd.ntmps86
  go_wp2_with ((with_reducible show wpList _ _ _ (⟨_, .buildSlice 26 0 _, _, _, _, _⟩ :: _) _ _); refine wpList_buildSlice' rfl _ _ _ rfl rfl (str_none _) ?_)
  have hmade := Lib.hid (World.ownsRow_made (e := 9) (size := 1) (base := w.heap.size) w #[] 0 (Nat.le_refl _) (by unfold maxLen; omega) rfl)
  have hB0 : Below w.heap.size w (w.alloc (.cells #[] 9)) := (Below.refl _ _).alloc (Nat.le_refl _) _
  refine (CA.out _).mono ?_
  rintro e w1 ⟨hW1, v, rfl, hown1⟩
  obtain ⟨a, cp, rfl, hcp, hT⟩ := textsAt_of_own hown1
  have HT := Lib.hid hT.txR
  have hB1 := hB0.trans (hW1.mono (by simp))
  have Hm1 := Lib.hid (own_below hmade.out hW1)
  have Hge := Lib.hid (fun g (o : Nat) (e : a = some ⟨g, o, none⟩) (h0 : 0 < xs.length) => show w.heap.size + 1 ≤ g by
    obtain ⟨g', _, _, h1, h2, _⟩ := hT.at' h0
    rw [e] at h1; cases h1
    simpa using h2)
  clear hown1 hT
  go_wp2_with fail
  go_loopw [3, 5] (fun out i wr => ∃ k : Nat, k ≤ xs.length ∧ i = .int .i64 k ∧ wr.ownsRow w.heap.size 9 1 out (trapsTo N k).length (texts (trapsTo N k)) ∧ Below w.heap.size w wr ∧ TxR wr a xs ∧ (0 < xs.length → ∀ g o, a = some ⟨g, o, none⟩ → out.ownBlock ≠ some g)) (fun _ i _ => xs.length - (intOf i).toNat)
  case atStart => exact ⟨0, Nat.zero_le _, rfl, by rw [hz.out]; exact Hm1.out, hB1, HT.out, fun h0 g o e h => by
    have h1 := Hge.out g o e h0
    have h2 : w.heap.size = g := Option.some.inj h
    omega⟩
  case round =>
    obtain ⟨k, hk, rfl, hown, hW, hR, hne⟩ := hrel
    have Hown := Lib.hid hown
    have HR := Lib.hid hR
    have Hne := Lib.hid hne
    have hlk := hlt0 k
    have hWs := hW.size
    clear hown hR hne
    by_cases hlt : k < xs.length
    · obtain ⟨g, o, rfl, hgl, hcells⟩ := HR.out.at' (by omega)
      have hcell := hcells k hlt
      rw [Hget.out k hlt (by omega)] at hcell
      have hs := hsuc.out k (by omega)
      obtain ⟨p, hp⟩ : ∃ p, ps[k]'(by omega) = p := ⟨_, rfl⟩
      rw [hp] at hcell hs
      have cT := Lib.hid (l6Trap_any b cap N hn p wr (Hat.out.below hW hb) (Nat.lt_of_lt_of_le hb hWs))
      have hne1 := Hne.out (by omega) g o rfl
      clear hp hcells
      cases htp : trapP N p <;> rw [htp] at cT hs
      · rw [if_neg (by decide)] at hs
        have Hs := Lib.hid hs
        clear hs htp hne1
        go_wp2_with fail
        refine cT.out.mono ?_
        rintro e w2 ⟨hW2, rfl⟩
        have Hown2 := Lib.hid (own_below Hown.out hW2)
        have HR2 := Lib.hid (HR.out.step hW2)
        have hW3 := hW.trans (hW2.mono hWs)
        go_wp2_with fail
        go_roundw
        case rel => exact ⟨k + 1, by omega, by go_num, by rw [Hs.out]; exact Hown2.out, hW3, HR2.out, Hne.out⟩
        case measure => simp [intOf] <;> omega
      · rw [if_pos rfl] at hs
        have Hs := Lib.hid hs
        have Hne1 := Lib.hid hne1
        clear hs htp hne1
        obtain ⟨tx, htx⟩ : ∃ tx, termT N.n p = tx := ⟨_, rfl⟩
        rw [htx] at cT Hs hcell
        clear htx
        go_wp2_with fail
        refine cT.out.mono ?_
        rintro e w2 ⟨hW2, rfl⟩
        have Hown2 := Lib.hid (own_below Hown.out hW2)
        have HR2 := Lib.hid (HR.out.step hW2)
        have hcell2 := (hW2.cell hgl).trans hcell
        have hW3 := hW.trans (hW2.mono hWs)
        have hs3 := hW3.size
        have hgl2 := Nat.lt_of_lt_of_le hgl hW2.size
        go_wp2_with (first | ((with_reducible show wpList _ _ _ (⟨_, .buildSlice 26 1 _, _, _, _, _⟩ :: _) _ _); refine wpList_buildSlice' rfl _ _ _ rfl rfl (str_one _ _) ?_) | (at_builtin; refine wpList_text_appendK rfl _ _ rfl w.heap.size _ (trapsTo N k) rfl ((Hown2.out.alloc _)) _ _ rfl (cell_new ?_) (by omega) (hW3.alloc (by omega) _) ?_ ?_ ?_))
        · rfl
        · exact Nat.le_refl _
        · first | omega | (simp; omega)
        · intro v' w4 hown4 hB4 hstay
          have hown5 : w4.ownsRow w.heap.size 9 1 v' (trapsTo N (k + 1)).length (texts (trapsTo N (k + 1))) := by
            rw [Hs.out, List.length_append]; exact hown4
          obtain ⟨k1, k2⟩ := hstay g (by first | omega | (simp; omega)) Hne1.out
          have hblk : w4.heap[g]? = w2.heap[g]? := k1.trans (Below.heap_alloc _ _ _ hgl2)
          have HR4 := Lib.hid (HR2.out.same hblk)
          have Hk2 := Lib.hid (show 0 < xs.length → ∀ g' o', some (⟨g, o, none⟩ : Addr) = some ⟨g', o', none⟩ → v'.ownBlock ≠ some g' from fun _ g' o' e => by cases e; exact k2)
          have Hown4 := Lib.hid hown5
          have HB4 := Lib.hid hB4
          clear hown4 hown5 hB4 hstay hblk k1 k2
          go_wp2_with fail
          go_roundw
          case rel => exact ⟨k + 1, by omega, by go_num, Hown4.out, HB4.out, HR4.out, Hk2.out⟩
          case measure => simp [intOf] <;> omega
    · obtain rfl : k = xs.length := by omega
      rw [← hlenA] at Hown hlk
      rw [hall.out] at Hown hlk
      obtain ⟨a2, cp2, rfl, hcp2, hI⟩ := textsAt_of_own Hown.out
      have HI := Lib.hid hI
      clear hI
      go_wp2_with fail
      go_ret
      exact ⟨hW, a2, _, rfl, HI.out⟩
theorem trapsOf_spec (t : ByteArray) (w : World) (hs : t.size ≤ 1048576) :
    Calls Tryd.prog 20 #[.string t] w fun e w' => Below w.heap.size w w' ∧ ∃ a c, e = .returned (.slice a (trapsL t).length c) ∧ TextsAt w' w.heap.size a (trapsL t) := by
  have cO := Lib.hid (l3Open_any t w hs)
  go_enter Tryd.func20, Tryd.ntmps20
  go_wp2_with fail
  refine cO.out.mono ?_
  rintro e w1 ⟨hW1, ⟨hbad, v, rfl⟩ | ⟨hok, b, cap, rfl, hb1, hb2, hat⟩⟩
  · have hr : trapsL t = [] := by rw [trapsL, hbad]; rfl
    have Hr := Lib.hid hr
    clear hr hbad
    go_wp2_with ((with_reducible show wpList _ _ _ (⟨_, .buildSlice 26 0 _, _, _, _, _⟩ :: _) _ _); refine wpList_buildSlice' rfl _ _ _ rfl rfl (str_none _) ?_)
    go_ret
    rw [Hr.out]
    exact ⟨hW1.alloc hW1.size _, _, 0, rfl, textsAt_nil _ _ _⟩
  · have hn := netOf_ok hok
    have hr : trapsL t = trapsT (netOf t) := by rw [trapsL, hok]; rfl
    have C := Lib.hid (l6Traps_any b cap (netOf t) hn.2 w1 hat hb2)
    have Hr := Lib.hid hr
    clear hr hok hat
    go_wp2_with fail
    refine C.out.mono ?_
    rintro e w2 ⟨hW2, a, c, rfl, hT⟩
    have HT := Lib.hid (hT.mono hW1.size)
    clear hT
    go_wp2_with fail
    go_ret
    rw [Hr.out]
    exact ⟨hW1.trans (hW2.mono hW1.size), a, c, rfl, HT.out⟩
theorem quiet_sum {P : Program} {f : FuncId} {args : Array Value} {w : World} {n a : Nat} {v : Value}
    (h : Calls P f args (w.drewN (n + a)) fun e w' => e = .returned v ∧ ∃ m, w' = (w.drewN (n + a)).drewN m) : Calls P f args (w.drewN (n + a)) fun e w'' => e = .returned v ∧ ∃ m, w'' = w.drewN (n + m) :=
  h.mono fun e w' ⟨he, m, hm⟩ => ⟨he, a + m, by rw [hm, World.drewN_drewN, Nat.add_assoc]⟩
theorem insB_eq {n : Nat} {xs : List ByteArray} (hx : allT n xs) {i k : Nat} (hi : i < xs.length) (hk : k < xs.length) : ∃ p q, xs[i] = termT n p ∧ xs[k] = termT n q ∧ insB (xs.getD i ByteArray.empty) (xs.getD k ByteArray.empty) = insTo p q n := by
  obtain ⟨p, hp⟩ := hx _ (List.getElem_mem hi)
  obtain ⟨q, hq⟩ := hx _ (List.getElem_mem hk)
  refine ⟨p, q, hp, hq, ?_⟩
  rw [getD_get hi, getD_get hk, hp, hq, insB_term]
set_option maxHeartbeats 2000000 in
theorem l6Some_any (n : Nat) (xs : List ByteArray) (hx : allT n xs) (hn5 : xs ≠ [] → n ≤ 5) (hl : xs.length ≤ 243) (least : Bool) (a : Option Addr) (cp : Nat) (w : World) (hT : TxR w a xs) :
    Calls Tryd.prog 139 #[.slice a xs.length cp, .bool least] w fun e w' => Below w.heap.size w w' ∧ ∃ a c, e = .returned (.slice a (outTo least xs xs.length).length c) ∧ TextsAt w' w.heap.size a (outTo least xs xs.length) := by
  have HT := Lib.hid hT
  have Hx := Lib.hid hx
  have hlo := fun m => outTo_length least xs m
  clear hx hT
  go_enter Tryd.func139, Tryd.ntmps139
  go_wp2_with ((with_reducible show wpList _ _ _ (⟨_, .buildSlice 26 0 _, _, _, _, _⟩ :: _) _ _); refine wpList_buildSlice' rfl _ _ _ rfl rfl (str_none _) ?_)
  have hmade := Lib.hid (World.ownsRow_made (e := 9) (size := 1) (base := w.heap.size) w #[] 0 (Nat.le_refl _) (by unfold maxLen; omega) rfl)
  have hB0 : Below w.heap.size w (w.alloc (.cells #[] 9)) := (Below.refl _ _).alloc (Nat.le_refl _) _
  go_loopw [5, 6, 7, 8] (fun out i _ _ wr => ∃ m : Nat, m ≤ xs.length ∧ i = .int .i64 m ∧ wr.ownsRow w.heap.size 9 1 out (outTo least xs m).length (texts (outTo least xs m)) ∧ Below w.heap.size w wr) (fun _ i _ _ _ => xs.length - (intOf i).toNat)
  case atStart => exact ⟨0, Nat.zero_le _, rfl, hmade.out, hB0⟩
  case round =>
    obtain ⟨i, hi, rfl, hown, hW⟩ := hrel
    have Hown := Lib.hid hown
    have hlk := hlo i
    have hWs := hW.size
    clear hown
    by_cases hlt : i < xs.length
    · have hR := HT.out.below hW (fun g o e => HT.out.lt (by omega) g o e)
      obtain ⟨g, o, rfl, hgl, hcells⟩ := hR.at' (by omega)
      have hn5' := hn5 (fun e => by rw [e] at hlt; exact absurd hlt (Nat.not_lt_zero _))
      have hk0 : keepTo least xs i 0 = (least || decide (0 < i)) := rfl
      have hd0 : decide ((0 : Int) < (i : Int)) = decide (0 < i) := by rw [decide_eq_decide]; omega
      have Hk0 := Lib.hid hk0
      have Hcells := Lib.hid hcells
      obtain ⟨wo, rfl⟩ : ∃ wo : World, wo = wr := ⟨_, rfl⟩
      clear hR hcells hk0
      cases least
      · cases hd : decide (0 < i) <;> rw [hd] at hd0
        · have Hd := Lib.hid hd
          clear hd
          have Hini := Lib.hid (show keepTo false xs i 0 = false from by rw [Hk0.out]; first | rfl | (rw [Hd.out]; rfl))
          go_wp2_with fail
          go_loopw [7, 8] (fun kp j wr => ∃ k : Nat, k ≤ xs.length ∧ j = .int .i64 k ∧ kp = .bool (keepTo false xs i k) ∧ ∃ nq, wr = wo.drewN nq) (fun _ j _ => xs.length - (intOf j).toNat)
          case atStart => exact ⟨0, Nat.zero_le _, rfl, by rw [Hk0.out]; first | rfl | (rw [Hd.out]; rfl) | simp [Hd.out], 0, rfl⟩
          case round =>
            obtain ⟨k, hk, rfl, rfl, nq, rfl⟩ := hrel
            by_cases hlt2 : k < xs.length
            · have hsuc : keepTo false xs i (k + 1) = (keepTo false xs i k && !(!decide (k = i) && condB false xs i k)) := rfl
              obtain ⟨kv, hkv⟩ : ∃ kv, keepTo false xs i k = kv := ⟨_, rfl⟩
              rw [hkv] at hsuc ⊢
              by_cases hki : k = i
              · have hs2 := Lib.hid (show keepTo false xs i (k + 1) = kv by rw [hsuc, decide_eq_true hki]; simp)
                have he : ((k : Int) == (i : Int)) = true := by rw [hki]; simp
                have he2 : ((k : Int) != (i : Int)) = false := by rw [hki]; simp
                clear hsuc hkv
                go_wp2_with fail
                (refine wp_region_quiet_lit (by kernel_rfl) (by kernel_rfl) ?_; (repeat ((with_reducible refine wpQuiet_step ?_); intro K hK; go_simp; first | ((with_reducible refine hK _ ?_); clear hK K) | (rw [if_neg (by decide)]; (with_reducible refine hK _ ?_); clear hK K) | (apply Exists.intro; refine ⟨fun _ => ?_, hK _ ?_⟩; (fail); clear hK K))); (with_reducible refine wpQuiet_nil ?_); intro _ hw'; obtain ⟨nq, hw''⟩ := hw'; subst hw'')
                go_wp2_with fail
                first
                  | (go_roundw
                     case rel => exact ⟨k + 1, by omega, by go_num, by rw [hs2.out], _, rfl⟩
                     case measure => simp [intOf] <;> omega)
                  | exact ⟨⟨k + 1, by omega, by go_num, by rw [hs2.out], _, rfl⟩, by simp [intOf] <;> omega⟩
              · have he : ((k : Int) == (i : Int)) = false := by rw [beq_eq_false_iff_ne]; omega
                have he2 : ((k : Int) != (i : Int)) = true := by rw [bne_iff_ne]; omega
                have he3 : ¬ (k : Int) = (i : Int) := by omega
                rw [decide_eq_false hki, Bool.not_false, Bool.true_and] at hsuc
                have hck := Hcells.out k hlt2
                have hci := Hcells.out i hlt
                have hcd : condB false xs i k = (decide (0 < k) && insB (xs.getD i ByteArray.empty) (xs.getD k ByteArray.empty)) := rfl
                rw [hcd] at hsuc
                clear hcd
                by_cases hk0 : 0 < k
                · have hkp : (0 : Int) < (k : Int) := by omega
                  rw [decide_eq_true hk0, Bool.true_and] at hsuc
                  obtain ⟨p, q, hp, hq, hins⟩ := insB_eq Hx.out hlt hlt2
                  rw [hins] at hsuc
                  rw [hp] at hci
                  rw [hq] at hck
                  have cI := Lib.hid (fun wx => l2Inside_any n p q hn5' wx)
                  obtain ⟨v, hv⟩ : ∃ v, insTo p q n = v := ⟨_, rfl⟩
                  obtain ⟨tp, htp⟩ : ∃ tp, termT n p = tp := ⟨_, rfl⟩
                  obtain ⟨tq, htq⟩ : ∃ tq, termT n q = tq := ⟨_, rfl⟩
                  rw [hv] at hsuc cI
                  rw [htp, htq] at cI
                  rw [htp] at hci
                  rw [htq] at hck
                  clear hv htp htq hp hq hins hkv
                  cases v
                  all_goals
                    have hs2 := Lib.hid hsuc
                    clear hsuc
                    go_wp2_with fail
                    (refine wp_region_quiet_lit (by kernel_rfl) (by kernel_rfl) ?_; (repeat ((with_reducible refine wpQuiet_step ?_); intro K hK; go_simp; first | ((with_reducible refine hK _ ?_); clear hK K) | (rw [if_neg (by decide)]; (with_reducible refine hK _ ?_); clear hK K) | (apply Exists.intro; refine ⟨fun _ => ?_, hK _ ?_⟩; (go_at_call 187; exact quiet_sum (cI.out _)); clear hK K))); (with_reducible refine wpQuiet_nil ?_); intro _ hw'; obtain ⟨nq, hw''⟩ := hw'; subst hw'')
                    go_wp2_with fail
                    first
                      | (go_roundw
                         case rel => exact ⟨k + 1, by omega, by go_num, by rw [hs2.out]; simp, _, rfl⟩
                         case measure => simp [intOf] <;> omega)
                      | exact ⟨⟨k + 1, by omega, by go_num, by rw [hs2.out]; simp, _, rfl⟩, by simp [intOf] <;> omega⟩
                · have hkp : ¬ (0 : Int) < (k : Int) := by omega
                  rw [decide_eq_false hk0, Bool.false_and, Bool.not_false, Bool.and_true] at hsuc
                  have hs2 := Lib.hid hsuc
                  clear hsuc hkv
                  go_wp2_with fail
                  (refine wp_region_quiet_lit (by kernel_rfl) (by kernel_rfl) ?_; (repeat ((with_reducible refine wpQuiet_step ?_); intro K hK; go_simp; first | ((with_reducible refine hK _ ?_); clear hK K) | (rw [if_neg (by decide)]; (with_reducible refine hK _ ?_); clear hK K) | (apply Exists.intro; refine ⟨fun _ => ?_, hK _ ?_⟩; (fail); clear hK K))); (with_reducible refine wpQuiet_nil ?_); intro _ hw'; obtain ⟨nq, hw''⟩ := hw'; subst hw'')
                  go_wp2_with fail
                  first
                    | (go_roundw
                       case rel => exact ⟨k + 1, by omega, by go_num, by rw [hs2.out], _, rfl⟩
                       case measure => simp [intOf] <;> omega)
                    | exact ⟨⟨k + 1, by omega, by go_num, by rw [hs2.out], _, rfl⟩, by simp [intOf] <;> omega⟩
            · obtain rfl : k = xs.length := by omega
              have ho : outTo false xs (i + 1) = if keepTo false xs i xs.length then outTo false xs i ++ [xs.getD i ByteArray.empty] else outTo false xs i := rfl
              have hci := Hcells.out i hlt
              rw [getD_get hlt] at ho
              obtain ⟨kv, hkv⟩ : ∃ kv, keepTo false xs i xs.length = kv := ⟨_, rfl⟩
              obtain ⟨x, hx⟩ : ∃ x, xs[i] = x := ⟨_, rfl⟩
              rw [hkv, hx] at ho
              rw [hx] at hci
              rw [hkv]
              have Hodrew := Lib.hid (own_below Hown.out (below_drewN (Below.refl wo.heap.size wo) nq))
              have hWd : Below w.heap.size w (wo.drewN nq) := below_drewN hW nq
              have hWds := hWd.size
              clear hkv hx
              cases kv
              · have Ho := Lib.hid (show outTo false xs (i + 1) = outTo false xs i from ho)
                clear ho
                go_wp2_with fail
                go_roundw
                case rel => exact ⟨i + 1, by omega, by go_num, by rw [Ho.out]; exact Hodrew.out, hWd⟩
                case measure => simp [intOf] <;> omega
              · have Ho := Lib.hid (show outTo false xs (i + 1) = outTo false xs i ++ [x] from ho)
                clear ho
                go_wp2_with (first | ((with_reducible show wpList _ _ _ (⟨_, .buildSlice 26 1 _, _, _, _, _⟩ :: _) _ _); refine wpList_buildSlice' rfl _ _ _ rfl rfl (str_one _ _) ?_) | (at_builtin; refine wpList_text_appendK rfl _ _ rfl w.heap.size _ (outTo false xs i) rfl ((Hodrew.out.alloc _)) _ _ rfl (cell_new ?_) (by omega) (hWd.alloc (by omega) _) ?_ ?_ ?_))
                · first | rfl | simp
                · exact Nat.le_refl _
                · first | omega | (simp; omega)
                · intro v' w4 hown4 hB4 _
                  have hown5 : w4.ownsRow w.heap.size 9 1 v' (outTo false xs (i + 1)).length (texts (outTo false xs (i + 1))) := by
                    rw [Ho.out, List.length_append]; exact hown4
                  have Hown4 := Lib.hid hown5
                  have HB4 := Lib.hid hB4
                  clear hown4 hown5 hB4
                  go_wp2_with fail
                  go_roundw
                  case rel => exact ⟨i + 1, by omega, by go_num, Hown4.out, HB4.out⟩
                  case measure => simp [intOf] <;> omega
        · have Hd := Lib.hid hd
          clear hd
          have Hini := Lib.hid (show keepTo false xs i 0 = true from by rw [Hk0.out]; first | rfl | (rw [Hd.out]; rfl))
          go_wp2_with fail
          go_loopw [7, 8] (fun kp j wr => ∃ k : Nat, k ≤ xs.length ∧ j = .int .i64 k ∧ kp = .bool (keepTo false xs i k) ∧ ∃ nq, wr = wo.drewN nq) (fun _ j _ => xs.length - (intOf j).toNat)
          case atStart => exact ⟨0, Nat.zero_le _, rfl, by rw [Hk0.out]; first | rfl | (rw [Hd.out]; rfl) | simp [Hd.out], 0, rfl⟩
          case round =>
            obtain ⟨k, hk, rfl, rfl, nq, rfl⟩ := hrel
            by_cases hlt2 : k < xs.length
            · have hsuc : keepTo false xs i (k + 1) = (keepTo false xs i k && !(!decide (k = i) && condB false xs i k)) := rfl
              obtain ⟨kv, hkv⟩ : ∃ kv, keepTo false xs i k = kv := ⟨_, rfl⟩
              rw [hkv] at hsuc ⊢
              by_cases hki : k = i
              · have hs2 := Lib.hid (show keepTo false xs i (k + 1) = kv by rw [hsuc, decide_eq_true hki]; simp)
                have he : ((k : Int) == (i : Int)) = true := by rw [hki]; simp
                have he2 : ((k : Int) != (i : Int)) = false := by rw [hki]; simp
                clear hsuc hkv
                go_wp2_with fail
                (refine wp_region_quiet_lit (by kernel_rfl) (by kernel_rfl) ?_; (repeat ((with_reducible refine wpQuiet_step ?_); intro K hK; go_simp; first | ((with_reducible refine hK _ ?_); clear hK K) | (rw [if_neg (by decide)]; (with_reducible refine hK _ ?_); clear hK K) | (apply Exists.intro; refine ⟨fun _ => ?_, hK _ ?_⟩; (fail); clear hK K))); (with_reducible refine wpQuiet_nil ?_); intro _ hw'; obtain ⟨nq, hw''⟩ := hw'; subst hw'')
                go_wp2_with fail
                first
                  | (go_roundw
                     case rel => exact ⟨k + 1, by omega, by go_num, by rw [hs2.out], _, rfl⟩
                     case measure => simp [intOf] <;> omega)
                  | exact ⟨⟨k + 1, by omega, by go_num, by rw [hs2.out], _, rfl⟩, by simp [intOf] <;> omega⟩
              · have he : ((k : Int) == (i : Int)) = false := by rw [beq_eq_false_iff_ne]; omega
                have he2 : ((k : Int) != (i : Int)) = true := by rw [bne_iff_ne]; omega
                have he3 : ¬ (k : Int) = (i : Int) := by omega
                rw [decide_eq_false hki, Bool.not_false, Bool.true_and] at hsuc
                have hck := Hcells.out k hlt2
                have hci := Hcells.out i hlt
                have hcd : condB false xs i k = (decide (0 < k) && insB (xs.getD i ByteArray.empty) (xs.getD k ByteArray.empty)) := rfl
                rw [hcd] at hsuc
                clear hcd
                by_cases hk0 : 0 < k
                · have hkp : (0 : Int) < (k : Int) := by omega
                  rw [decide_eq_true hk0, Bool.true_and] at hsuc
                  obtain ⟨p, q, hp, hq, hins⟩ := insB_eq Hx.out hlt hlt2
                  rw [hins] at hsuc
                  rw [hp] at hci
                  rw [hq] at hck
                  have cI := Lib.hid (fun wx => l2Inside_any n p q hn5' wx)
                  obtain ⟨v, hv⟩ : ∃ v, insTo p q n = v := ⟨_, rfl⟩
                  obtain ⟨tp, htp⟩ : ∃ tp, termT n p = tp := ⟨_, rfl⟩
                  obtain ⟨tq, htq⟩ : ∃ tq, termT n q = tq := ⟨_, rfl⟩
                  rw [hv] at hsuc cI
                  rw [htp, htq] at cI
                  rw [htp] at hci
                  rw [htq] at hck
                  clear hv htp htq hp hq hins hkv
                  cases v
                  all_goals
                    have hs2 := Lib.hid hsuc
                    clear hsuc
                    go_wp2_with fail
                    (refine wp_region_quiet_lit (by kernel_rfl) (by kernel_rfl) ?_; (repeat ((with_reducible refine wpQuiet_step ?_); intro K hK; go_simp; first | ((with_reducible refine hK _ ?_); clear hK K) | (rw [if_neg (by decide)]; (with_reducible refine hK _ ?_); clear hK K) | (apply Exists.intro; refine ⟨fun _ => ?_, hK _ ?_⟩; (go_at_call 187; exact quiet_sum (cI.out _)); clear hK K))); (with_reducible refine wpQuiet_nil ?_); intro _ hw'; obtain ⟨nq, hw''⟩ := hw'; subst hw'')
                    go_wp2_with fail
                    first
                      | (go_roundw
                         case rel => exact ⟨k + 1, by omega, by go_num, by rw [hs2.out]; simp, _, rfl⟩
                         case measure => simp [intOf] <;> omega)
                      | exact ⟨⟨k + 1, by omega, by go_num, by rw [hs2.out]; simp, _, rfl⟩, by simp [intOf] <;> omega⟩
                · have hkp : ¬ (0 : Int) < (k : Int) := by omega
                  rw [decide_eq_false hk0, Bool.false_and, Bool.not_false, Bool.and_true] at hsuc
                  have hs2 := Lib.hid hsuc
                  clear hsuc hkv
                  go_wp2_with fail
                  (refine wp_region_quiet_lit (by kernel_rfl) (by kernel_rfl) ?_; (repeat ((with_reducible refine wpQuiet_step ?_); intro K hK; go_simp; first | ((with_reducible refine hK _ ?_); clear hK K) | (rw [if_neg (by decide)]; (with_reducible refine hK _ ?_); clear hK K) | (apply Exists.intro; refine ⟨fun _ => ?_, hK _ ?_⟩; (fail); clear hK K))); (with_reducible refine wpQuiet_nil ?_); intro _ hw'; obtain ⟨nq, hw''⟩ := hw'; subst hw'')
                  go_wp2_with fail
                  first
                    | (go_roundw
                       case rel => exact ⟨k + 1, by omega, by go_num, by rw [hs2.out], _, rfl⟩
                       case measure => simp [intOf] <;> omega)
                    | exact ⟨⟨k + 1, by omega, by go_num, by rw [hs2.out], _, rfl⟩, by simp [intOf] <;> omega⟩
            · obtain rfl : k = xs.length := by omega
              have ho : outTo false xs (i + 1) = if keepTo false xs i xs.length then outTo false xs i ++ [xs.getD i ByteArray.empty] else outTo false xs i := rfl
              have hci := Hcells.out i hlt
              rw [getD_get hlt] at ho
              obtain ⟨kv, hkv⟩ : ∃ kv, keepTo false xs i xs.length = kv := ⟨_, rfl⟩
              obtain ⟨x, hx⟩ : ∃ x, xs[i] = x := ⟨_, rfl⟩
              rw [hkv, hx] at ho
              rw [hx] at hci
              rw [hkv]
              have Hodrew := Lib.hid (own_below Hown.out (below_drewN (Below.refl wo.heap.size wo) nq))
              have hWd : Below w.heap.size w (wo.drewN nq) := below_drewN hW nq
              have hWds := hWd.size
              clear hkv hx
              cases kv
              · have Ho := Lib.hid (show outTo false xs (i + 1) = outTo false xs i from ho)
                clear ho
                go_wp2_with fail
                go_roundw
                case rel => exact ⟨i + 1, by omega, by go_num, by rw [Ho.out]; exact Hodrew.out, hWd⟩
                case measure => simp [intOf] <;> omega
              · have Ho := Lib.hid (show outTo false xs (i + 1) = outTo false xs i ++ [x] from ho)
                clear ho
                go_wp2_with (first | ((with_reducible show wpList _ _ _ (⟨_, .buildSlice 26 1 _, _, _, _, _⟩ :: _) _ _); refine wpList_buildSlice' rfl _ _ _ rfl rfl (str_one _ _) ?_) | (at_builtin; refine wpList_text_appendK rfl _ _ rfl w.heap.size _ (outTo false xs i) rfl ((Hodrew.out.alloc _)) _ _ rfl (cell_new ?_) (by omega) (hWd.alloc (by omega) _) ?_ ?_ ?_))
                · first | rfl | simp
                · exact Nat.le_refl _
                · first | omega | (simp; omega)
                · intro v' w4 hown4 hB4 _
                  have hown5 : w4.ownsRow w.heap.size 9 1 v' (outTo false xs (i + 1)).length (texts (outTo false xs (i + 1))) := by
                    rw [Ho.out, List.length_append]; exact hown4
                  have Hown4 := Lib.hid hown5
                  have HB4 := Lib.hid hB4
                  clear hown4 hown5 hB4
                  go_wp2_with fail
                  go_roundw
                  case rel => exact ⟨i + 1, by omega, by go_num, Hown4.out, HB4.out⟩
                  case measure => simp [intOf] <;> omega
      · have Hd := Lib.hid (rfl : true = true)
        have Hini := Lib.hid (show keepTo true xs i 0 = true from by rw [Hk0.out]; first | rfl | (rw [Hd.out]; rfl))
        go_wp2_with fail
        go_loopw [7, 8] (fun kp j wr => ∃ k : Nat, k ≤ xs.length ∧ j = .int .i64 k ∧ kp = .bool (keepTo true xs i k) ∧ ∃ nq, wr = wo.drewN nq) (fun _ j _ => xs.length - (intOf j).toNat)
        case atStart => exact ⟨0, Nat.zero_le _, rfl, by rw [Hk0.out]; first | rfl | (rw [Hd.out]; rfl) | simp [Hd.out], 0, rfl⟩
        case round =>
          obtain ⟨k, hk, rfl, rfl, nq, rfl⟩ := hrel
          by_cases hlt2 : k < xs.length
          · have hsuc : keepTo true xs i (k + 1) = (keepTo true xs i k && !(!decide (k = i) && condB true xs i k)) := rfl
            obtain ⟨kv, hkv⟩ : ∃ kv, keepTo true xs i k = kv := ⟨_, rfl⟩
            rw [hkv] at hsuc ⊢
            by_cases hki : k = i
            · have hs2 := Lib.hid (show keepTo true xs i (k + 1) = kv by rw [hsuc, decide_eq_true hki]; simp)
              have he : ((k : Int) == (i : Int)) = true := by rw [hki]; simp
              have he2 : ((k : Int) != (i : Int)) = false := by rw [hki]; simp
              clear hsuc hkv
              go_wp2_with fail
              (refine wp_region_quiet_lit (by kernel_rfl) (by kernel_rfl) ?_; (repeat ((with_reducible refine wpQuiet_step ?_); intro K hK; go_simp; first | ((with_reducible refine hK _ ?_); clear hK K) | (rw [if_neg (by decide)]; (with_reducible refine hK _ ?_); clear hK K) | (apply Exists.intro; refine ⟨fun _ => ?_, hK _ ?_⟩; (fail); clear hK K))); (with_reducible refine wpQuiet_nil ?_); intro _ hw'; obtain ⟨nq, hw''⟩ := hw'; subst hw'')
              go_wp2_with fail
              first
                | (go_roundw
                   case rel => exact ⟨k + 1, by omega, by go_num, by rw [hs2.out], _, rfl⟩
                   case measure => simp [intOf] <;> omega)
                | exact ⟨⟨k + 1, by omega, by go_num, by rw [hs2.out], _, rfl⟩, by simp [intOf] <;> omega⟩
            · have he : ((k : Int) == (i : Int)) = false := by rw [beq_eq_false_iff_ne]; omega
              have he2 : ((k : Int) != (i : Int)) = true := by rw [bne_iff_ne]; omega
              have he3 : ¬ (k : Int) = (i : Int) := by omega
              rw [decide_eq_false hki, Bool.not_false, Bool.true_and] at hsuc
              have hck := Hcells.out k hlt2
              have hci := Hcells.out i hlt
              have hcd : condB true xs i k = insB (xs.getD k ByteArray.empty) (xs.getD i ByteArray.empty) := rfl
              rw [hcd] at hsuc
              clear hcd
              obtain ⟨p, q, hp, hq, hins⟩ := insB_eq Hx.out hlt2 hlt
              rw [hins] at hsuc
              rw [hp] at hck
              rw [hq] at hci
              have cI := Lib.hid (fun wx => l2Inside_any n p q hn5' wx)
              obtain ⟨v, hv⟩ : ∃ v, insTo p q n = v := ⟨_, rfl⟩
              obtain ⟨tp, htp⟩ : ∃ tp, termT n p = tp := ⟨_, rfl⟩
              obtain ⟨tq, htq⟩ : ∃ tq, termT n q = tq := ⟨_, rfl⟩
              rw [hv] at hsuc cI
              rw [htp, htq] at cI
              rw [htp] at hck
              rw [htq] at hci
              clear hv htp htq hp hq hins hkv
              cases v
              all_goals
                have hs2 := Lib.hid hsuc
                clear hsuc
                go_wp2_with fail
                (refine wp_region_quiet_lit (by kernel_rfl) (by kernel_rfl) ?_; (repeat ((with_reducible refine wpQuiet_step ?_); intro K hK; go_simp; first | ((with_reducible refine hK _ ?_); clear hK K) | (rw [if_neg (by decide)]; (with_reducible refine hK _ ?_); clear hK K) | (apply Exists.intro; refine ⟨fun _ => ?_, hK _ ?_⟩; (go_at_call 187; exact quiet_sum (cI.out _)); clear hK K))); (with_reducible refine wpQuiet_nil ?_); intro _ hw'; obtain ⟨nq, hw''⟩ := hw'; subst hw'')
                go_wp2_with fail
                first
                  | (go_roundw
                     case rel => exact ⟨k + 1, by omega, by go_num, by rw [hs2.out]; simp, _, rfl⟩
                     case measure => simp [intOf] <;> omega)
                  | exact ⟨⟨k + 1, by omega, by go_num, by rw [hs2.out]; simp, _, rfl⟩, by simp [intOf] <;> omega⟩
          · obtain rfl : k = xs.length := by omega
            have ho : outTo true xs (i + 1) = if keepTo true xs i xs.length then outTo true xs i ++ [xs.getD i ByteArray.empty] else outTo true xs i := rfl
            have hci := Hcells.out i hlt
            rw [getD_get hlt] at ho
            obtain ⟨kv, hkv⟩ : ∃ kv, keepTo true xs i xs.length = kv := ⟨_, rfl⟩
            obtain ⟨x, hx⟩ : ∃ x, xs[i] = x := ⟨_, rfl⟩
            rw [hkv, hx] at ho
            rw [hx] at hci
            rw [hkv]
            have Hodrew := Lib.hid (own_below Hown.out (below_drewN (Below.refl wo.heap.size wo) nq))
            have hWd : Below w.heap.size w (wo.drewN nq) := below_drewN hW nq
            have hWds := hWd.size
            clear hkv hx
            cases kv
            · have Ho := Lib.hid (show outTo true xs (i + 1) = outTo true xs i from ho)
              clear ho
              go_wp2_with fail
              go_roundw
              case rel => exact ⟨i + 1, by omega, by go_num, by rw [Ho.out]; exact Hodrew.out, hWd⟩
              case measure => simp [intOf] <;> omega
            · have Ho := Lib.hid (show outTo true xs (i + 1) = outTo true xs i ++ [x] from ho)
              clear ho
              go_wp2_with (first | ((with_reducible show wpList _ _ _ (⟨_, .buildSlice 26 1 _, _, _, _, _⟩ :: _) _ _); refine wpList_buildSlice' rfl _ _ _ rfl rfl (str_one _ _) ?_) | (at_builtin; refine wpList_text_appendK rfl _ _ rfl w.heap.size _ (outTo true xs i) rfl ((Hodrew.out.alloc _)) _ _ rfl (cell_new ?_) (by omega) (hWd.alloc (by omega) _) ?_ ?_ ?_))
              · first | rfl | simp
              · exact Nat.le_refl _
              · first | omega | (simp; omega)
              · intro v' w4 hown4 hB4 _
                have hown5 : w4.ownsRow w.heap.size 9 1 v' (outTo true xs (i + 1)).length (texts (outTo true xs (i + 1))) := by
                  rw [Ho.out, List.length_append]; exact hown4
                have Hown4 := Lib.hid hown5
                have HB4 := Lib.hid hB4
                clear hown4 hown5 hB4
                go_wp2_with fail
                go_roundw
                case rel => exact ⟨i + 1, by omega, by go_num, Hown4.out, HB4.out⟩
                case measure => simp [intOf] <;> omega
    · obtain rfl : i = xs.length := by omega
      obtain ⟨a2, cp2, rfl, hcp2, hI⟩ := textsAt_of_own Hown.out
      have HI := Lib.hid hI
      clear hI
      go_wp2_with fail
      go_ret
      exact ⟨hW, a2, _, rfl, HI.out⟩
end Go.Proofs.YtcddnacbjdahbaaDoor
