/- The program's circuits as texts. -/
import Derived.Test.YtifallippecdmaaGreatDoorCk
import Derived.Test.YtifallippecdmaaGreatDoorP2
import Derived.Test.YtifallippecdmaaGreatDoorImplM
namespace Go.Proofs.YtifallippecdmaaGreatDoor
open Go Go.RowKit Go.Sw
set_option maxRecDepth 100000
set_option linter.unusedVariables false

theorem enc_sign (c : Nat) (h : 1 ≤ c ∧ c ≤ 3) : Utf8.encode (wrap32 ((signT c).toNat : Nat)) = bs [signT c] := by
  have e : ∀ b : UInt8, (b = 43 ∨ b = 45 ∨ b = 42) → Utf8.encode (wrap32 (b.toNat : Nat)) = bs [b] := by
    rintro b (rfl | rfl | rfl) <;> (apply ba_ext; decide +kernel)
  have : c = 1 ∨ c = 2 ∨ c = 3 := by omega
  exact e (signT c) (by rcases this with rfl | rfl | rfl <;> decide)
/-- the digits of the first k switches of a way -/
def digU (way : List Nat) (k : Nat) : ByteArray := bs (digT (way.take k))
theorem digU_zero (way : List Nat) : digU way 0 = ByteArray.empty := rfl
theorem digU_succ {way : List Nat} {k : Nat} (h : k < way.length) : digU way k ++ itoT way[k] = digU way (k + 1) := by
  apply ba_ext
  have e : digT (way.take (k + 1)) = digT (way.take k) ++ [UInt8.ofNat (48 + way[k])] := by
    rw [List.take_succ_eq_append_getElem h]; simp only [digT, List.map_append, List.map_cons, List.map_nil]
  unfold digU itoT
  rw [e]
  simp only [ByteArray.data_append, bs_data, Array.toList_append]
theorem digU_size (way : List Nat) (k : Nat) : (digU way k).size ≤ k := by
  unfold digU digT
  rw [bs_size, List.length_map, List.length_take]
  omega
theorem digU_all (N : Net) (way : List Nat) : digU way way.length ++ bs [signT (circC N way)] = circT N way := by
  apply ba_ext
  simp [digU, circT, ByteArray.data_append]
/-- the texts of the first k circuits -/
def ctxP (N : Net) (cs : List (List Nat)) (k : Nat) : List ByteArray := (cs.take k).map (circT N)
set_option maxHeartbeats 2000000 in
theorem circuitsOf_impl (t : ByteArray) (w : World) (hs : t.size ≤ 1048576) :
    Calls Tryz.prog 5 #[.string t] w fun e w' => Below w.heap.size w w' ∧ ∃ a cap, e = .returned (.slice a (circsL t).length cap) ∧ TextsAt w' w.heap.size a (circsL t) := by
  have cR := Lib.hid (readNetwork_any t w hs)
  cases hok0 : netOk t
  · have hr : circsL t = [] := by rw [circsL, hok0]; rfl
    rw [hr]
    have Hok := Lib.hid hok0
    clear hr hok0
    go_enter Tryz.func5, Tryz.ntmps5
    go_wp2_with fail
    refine cR.out.mono ?_
    rintro e w1 ⟨hW1, ⟨hbad, rfl⟩ | ⟨hok, b, cap, rfl, hb1, hb2, hat⟩⟩
    · clear hbad
      go_wp2_with fail
      go_ret
      exact ⟨hW1, none, 0, rfl, textsAt_nil _ _ _⟩
    · rw [Hok.out] at hok; cases hok
  · have hn := netOf_ok hok0
    have hr : circsL t = (circL (netOf t)).map (circT (netOf t)) := by rw [circsL, hok0]; rfl
    obtain ⟨N, hN⟩ : ∃ N, netOf t = N := ⟨_, rfl⟩
    rw [hN] at hr hn cR
    rw [hr]
    have Hok := Lib.hid hok0
    clear hr hok0 hN
    go_enter Tryz.func5, Tryz.ntmps5
    go_wp2_with fail
    refine cR.out.mono ?_
    rintro e w1 ⟨hW1, ⟨hbad, rfl⟩ | ⟨hok, b, cap, rfl, hb1, hb2, hat⟩⟩
    · rw [Hok.out] at hbad; cases hbad
    have cC := Lib.hid (circuits_any b cap N hn.2 w1 hat hb2)
    have hl0 := circL_length hn.2
    have hok2 := Lib.hid (fun c (h : c ∈ circL N) => (circ_sound h).1)
    have hW1s := hW1.size
    clear hat hok
    go_wp2_with fail
    refine cC.out.mono ?_
    rintro e w2 ⟨hW2, v, rfl, hC⟩
    have hW2s := hW2.size
    have hB2 := hW1.trans (hW2.mono hW1s)
    obtain ⟨va, vc, rfl⟩ := hC.slice
    have HC := Lib.hid hC
    clear hC
    obtain ⟨cs, hcs⟩ : ∃ cs, circL N = cs := ⟨_, rfl⟩
    rw [hcs] at HC hl0 hok2 ⊢
    have HCS := Lib.hid hcs
    clear hcs
    have hlen : (cs.map (circT N)).length = cs.length := List.length_map _
    go_wp2_with fail
    go_loopw [5, 7, 8, 10, 21] (fun out _ _ _ i wr => ∃ k : Nat, k ≤ cs.length ∧ i = .int .i64 k ∧ wr.ownsRow w2.heap.size 9 1 out (ctxP N cs k).length (texts (ctxP N cs k)) ∧ Below w2.heap.size w2 wr) (fun _ _ _ _ i _ => cs.length - (intOf i).toNat)
    case atStart => exact ⟨0, Nat.zero_le _, rfl, World.ownsRow_nil _ _ _ _, Below.refl _ _⟩
    case round =>
      obtain ⟨k, hk, rfl, hown, hW⟩ := hrel
      have Hown := Lib.hid hown
      have hWs := hW.size
      have hll : (ctxP N cs k).length = k := by unfold ctxP; rw [List.length_map, List.length_take]; omega
      clear hown
      by_cases hlt : k < cs.length
      · obtain ⟨q, c, g, c2, e, hq, hr, hcells⟩ := (HC.out.below hW).get hlt
        cases e
        have e0 : wr.cell? ⟨q, k * 3, none⟩ = some (.slice (some ⟨g, 0, none⟩) cs[k].length c2) := hcells 0 _ rfl
        have e1 : wr.cell? ⟨q, k * 3 + 1, none⟩ = some (.int .i64 (setL cs[k] : Nat)) := hcells 1 _ rfl
        have e2 : wr.cell? ⟨q, k * 3 + 2, none⟩ = some (.int .u8 (signT (circC N cs[k])).toNat) := hcells 2 _ rfl
        have hwok := hok2.out _ (List.getElem_mem hlt)
        have hwl := hwok.length
        have hwlt := Lib.hid (fun x (h : x ∈ cs[k]) => (hwok.2.2 x h).1)
        have henc := enc_sign (circC N cs[k]) (circC_le N _)
        have hall := digU_all N cs[k]
        have htk : ctxP N cs (k + 1) = ctxP N cs k ++ [circT N cs[k]] := by unfold ctxP; rw [List.take_succ_eq_append_getElem hlt, List.map_append]; rfl
        have hz1 : (bs [signT (circC N cs[k])]).size = 1 := rfl
        clear hcells hwok
        obtain ⟨way, hway⟩ : ∃ way, cs[k] = way := ⟨_, rfl⟩
        rw [hway] at e0 e1 e2 hr hwl hwlt henc hall htk hz1
        obtain ⟨sb, hsb⟩ : ∃ z, (signT (circC N way)).toNat = z := ⟨_, rfl⟩
        rw [hsb] at e2 henc
        obtain ⟨st, hst⟩ : ∃ z, bs [signT (circC N way)] = z := ⟨_, rfl⟩
        rw [hst] at henc hall hz1
        obtain ⟨ct, hct⟩ : ∃ z, circT N way = z := ⟨_, rfl⟩
        rw [hct] at hall htk
        obtain ⟨sl, hsl⟩ : ∃ z, setL way = z := ⟨_, rfl⟩
        rw [hsl] at e1
        have Htk := Lib.hid htk
        have Hall := Lib.hid hall
        have Henc := Lib.hid henc
        clear hway hsb hst hct htk hall henc hsl
        obtain ⟨wo, rfl⟩ : ∃ wo : World, wo = wr := ⟨_, rfl⟩
        have hgr := hr.1
        have hB1 : Below wo.heap.size wo (wo.alloc (.cells #[.slice (some ⟨g, 0, none⟩) way.length c2, .int .i64 sl, .int .u8 sb] 44)) := (Below.refl _ _).alloc (Nat.le_refl _) _
        have hr1 := hr.below hB1
        have hf2 : (wo.alloc (.cells #[.slice (some ⟨g, 0, none⟩) way.length c2, .int .i64 sl, .int .u8 sb] 44)).cell? ⟨wo.heap.size, 2, none⟩ = some (.int .u8 sb) := by
          rw [cell_of_row _ _ _ _ _ _ (heap_alloc_last _ _)]; rfl
        have Hr1 := Lib.hid hr1
        have hdz := digU_zero way
        clear hr1 hr
        go_wp2_with fail
        go_loop [8, 10, 28] (fun tx _ i => ∃ m : Nat, m ≤ way.length ∧ i = .int .i64 m ∧ tx = .string (digU way m)) (fun _ _ i => way.length - (intOf i).toNat)
        case atStart => exact ⟨0, Nat.zero_le _, rfl, rfl⟩
        case round =>
          obtain ⟨m, hm, rfl, rfl⟩ := hrel
          have hdm := digU_size way m
          by_cases hlm : m < way.length
          · have hc := Hr1.out.2 m hlm
            have hxl := hwlt.out _ (List.getElem_mem hlm)
            have hsu := digU_succ hlm
            obtain ⟨x, hx⟩ : ∃ x, way[m] = x := ⟨_, rfl⟩
            rw [hx] at hc hxl hsu
            have cI := Lib.hid (fun wx => itoa_any x (by omega) wx)
            have hi1 : (itoT x).size = 1 := rfl
            obtain ⟨d1, hd1⟩ : ∃ d, digU way m = d := ⟨_, rfl⟩
            obtain ⟨d2, hd2⟩ : ∃ d, itoT x = d := ⟨_, rfl⟩
            rw [hd1] at hdm hsu ⊢
            rw [hd2] at cI hi1 hsu
            have hsum : d1.size + d2.size ≤ 100 := by omega
            have Hsu := Lib.hid hsu
            clear hx hd1 hd2 hsu hi1 hdm
            go_wp2_with fail
            refine (cI.out _).mono ?_
            rintro e w' ⟨rfl, rfl⟩
            go_wp2_with fail
            go_round
            case rel => exact ⟨m + 1, by omega, by go_num, by rw [Hsu.out]⟩
            case measure => simp [intOf] <;> omega
          · obtain rfl : m = way.length := by omega
            obtain ⟨d1, hd1⟩ : ∃ d, digU way way.length = d := ⟨_, rfl⟩
            rw [hd1] at hdm Hall ⊢
            have hsum : d1.size + st.size ≤ 100 := by omega
            have henc := Henc.out
            have Hsum := Lib.hid hsum
            have hWa : Below w2.heap.size w2 (wo.alloc (.cells #[.slice (some ⟨g, 0, none⟩) way.length c2, .int .i64 sl, .int .u8 sb] 44)) := hW.alloc hWs _
            have hll2 : (ctxP N cs k).length ≤ 40000 := by rw [hll]; omega
            have Hll := Lib.hid hll
            obtain ⟨W1, hW1'⟩ : ∃ W, wo.alloc (.cells #[.slice (some ⟨g, 0, none⟩) way.length c2, .int .i64 sl, .int .u8 sb] 44) = W := ⟨_, rfl⟩
            rw [hW1'] at hWa hf2 hB1 ⊢
            have hown1 := own_below Hown.out hB1
            have Hown1 := Lib.hid hown1
            have hW1s2 := hWa.size
            clear hd1 hll hown1 hW1' Hr1
            go_wp2_with (first | ((with_reducible show wpList _ _ _ (⟨_, .buildSlice 24 1 _, _, _, _, _⟩ :: _) _ _); refine wpList_buildSlice' rfl _ _ _ rfl rfl (str_one _ _) ?_) | (at_builtin; refine wpList_text_appendK rfl _ _ rfl w2.heap.size _ (ctxP N cs k) rfl ((Hown1.out.alloc _)) _ _ rfl (cell_new ?_) (by omega) (hWa.alloc (by omega) _) ?_ ?_ ?_))
            all_goals first
              | rfl
              | exact Nat.le_refl _
              | (simp only [World.alloc, Array.size_push]; omega)
              | omega
              | skip
            · intro v' w4 hown4 hB4 _
              have hown5 : w4.ownsRow w2.heap.size 9 1 v' (ctxP N cs (k + 1)).length (texts (ctxP N cs (k + 1))) := by
                rw [Htk.out, List.length_append, ← Hall.out]; exact hown4
              have Hown4 := Lib.hid hown5
              have HB4 := Lib.hid hB4
              clear hown4 hown5 hB4
              go_wp2_with fail
              go_roundw
              case rel => exact ⟨k + 1, by omega, by go_num, Hown4.out, HB4.out⟩
              case measure => simp [intOf] <;> omega
      · obtain rfl : k = cs.length := by omega
        have hown6 := Hown.out
        have hX : ctxP N cs cs.length = cs.map (circT N) := by unfold ctxP; rw [List.take_length]
        obtain ⟨X, hX0⟩ : ∃ X, cs.map (circT N) = X := ⟨_, rfl⟩
        rw [hX, hX0] at hown6
        rw [hX, hX0] at hll
        obtain ⟨a, cp, rfl, hcp, hI⟩ := textsAt_of_own hown6
        have hI' := Lib.hid (hI.mono (B' := w.heap.size) (by omega))
        have ha : 0 < X.length → ∃ g, a = some ⟨g, 0, none⟩ := fun h0 => by
          obtain ⟨g, _, _, h1, _⟩ := hI.at' h0
          exact ⟨g, h1⟩
        have C := Lib.hid (fun wx => clips_any a X.length cp ha hcp (by omega) wx)
        have HX := Lib.hid hX0
        clear hI ha hown6 hcp hX hll hX0
        go_wp2_with fail
        refine (C.out _).mono ?_
        rintro e w' ⟨rfl, rfl⟩
        go_wp2_with fail
        go_ret
        exact ⟨hB2.trans (hW.mono hB2.size), a, X.length, by rw [HCS.out, HX.out]; rfl, by rw [HCS.out, HX.out]; exact hI'.out⟩
end Go.Proofs.YtifallippecdmaaGreatDoor
