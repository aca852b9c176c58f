/- The statement's arrows. -/
import Derived.Test.YtkfagolmpbbckaaDoorSpecG
import Derived.Test.YtkfagolmpbbckaaDoorAr
import Derived.Deep.RegionHeld3
import Derived.Deep.AppendLies
namespace Go.Proofs.YtkfagolmpbbckaaDoor
open Go Go.RowKit Go.Sw
set_option maxRecDepth 100000
set_option linter.unusedVariables false

/-- the arrows told lie in a row of the call's own, beside the network's texts -/
structure ArS (w wr : World) (N : Net) (b : Nat) (out : Value) (xs : List ByteArray) : Prop where
  own : wr.ownsRow w.heap.size 9 1 out xs.length (texts xs)
  below : Below w.heap.size w wr
  strs : StrsAt wr b (netTexts N)
  lt : b < wr.heap.size
  ne : out.ownBlock ≠ some b
theorem ArS.step {w wr w' : World} {N : Net} {b : Nat} {out : Value} {xs : List ByteArray} (h : ArS w wr N b out xs) (hb : Below wr.heap.size wr w') : ArS w w' N b out xs :=
  ⟨own_below h.own hb, h.below.trans (hb.mono h.below.size), h.strs.below hb h.lt, Nat.lt_of_lt_of_le h.lt hb.size, h.ne⟩
theorem arrT_joinS (N : Net) (i k : Nat) : ((decT i ++ (⟨#[62]⟩ : ByteArray)) ++ decT k) ++ (⟨#[signT (edgeC N i k)]⟩ : ByteArray) = arrT N i k := by
  apply ba_ext
  simp [decT, arrT, ByteArray.data_append, bs_data]
set_option maxHeartbeats 1000000 in
theorem arrowsOf_spec (t : ByteArray) (w : World) (hs : t.size ≤ 1048576) :
    Calls Tryd.prog 42 #[.string t] w fun e w' => Below w.heap.size w w' ∧ ∃ a cap, e = .returned (.slice a (arrowsL t).length cap) ∧ TextsAt w' w.heap.size a (arrowsL t) := by
  have hmade := Lib.hid (World.ownsRow_made (e := 9) (size := 1) (base := w.heap.size) w #[] 0 (Nat.le_refl _) (by unfold maxLen; omega) rfl)
  have hB0 : Below w.heap.size w (w.alloc (.cells #[] 9)) := (Below.refl _ _).alloc (Nat.le_refl _) _
  obtain ⟨w0, hw0⟩ : ∃ w0, w.alloc (.cells #[] 9) = w0 := ⟨_, rfl⟩
  rw [hw0] at hmade hB0
  have cO := Lib.hid (l3Open_any t w0 hs)
  have Hw0 := Lib.hid hw0
  clear hw0
  cases hok0 : netOk t
  · have hr : arrowsL t = [] := by rw [arrowsL, hok0]; rfl
    rw [hr]
    have Hok := Lib.hid hok0
    clear hr hok0
    go_enter Tryd.func42, Tryd.ntmps42
    go_wp2_with ((with_reducible show wpList _ _ _ (⟨_, .buildSlice 41 0 _, _, _, _, _⟩ :: _) _ _); refine wpList_buildSlice' rfl _ _ _ rfl rfl (str_none _) ?_)
    rw [Hw0.out]
    refine cO.out.mono ?_
    rintro e w1 ⟨hW1, ⟨hbad, v, rfl⟩ | ⟨hok, b, cap, rfl, hb1, hb2, hat⟩⟩
    · have hB1 := hB0.trans (hW1.mono hB0.size)
      clear hbad
      go_wp2_with fail
      go_loopw [3, 6] (fun out i wr => out = .slice (some ⟨w.heap.size, 0, none⟩) 0 0 ∧ i = .int .i64 0 ∧ wr = w1) (fun _ _ _ => 0)
      case atStart => exact ⟨rfl, rfl, rfl⟩
      case round =>
        obtain ⟨rfl, rfl, rfl⟩ := hrel
        go_wp2_with fail
        go_ret
        exact ⟨hB1, _, 0, rfl, textsAt_nil _ _ _⟩
    · rw [Hok.out] at hok; cases hok
  · have hn := netOf_ok hok0
    have hr : arrowsL t = arrL (netOf t) (netOf t).n := by rw [arrowsL, hok0]; rfl
    obtain ⟨N, hN⟩ : ∃ N, netOf t = N := ⟨_, rfl⟩
    rw [hN] at hr hn cO
    rw [hr]
    have Hok := Lib.hid hok0
    obtain ⟨i0, hi0, hz0, hz1, hz2⟩ := info_parts str_row
    have Hi0 := Lib.hid hi0
    have Hz0 := Lib.hid hz0
    have Hz1 := Lib.hid hz1
    have Hz2 := Lib.hid hz2
    clear hr hok0 hN hi0 hz0 hz1 hz2
    go_enter Tryd.func42, Tryd.ntmps42
    go_wp2_with ((with_reducible show wpList _ _ _ (⟨_, .buildSlice 41 0 _, _, _, _, _⟩ :: _) _ _); refine wpList_buildSlice' rfl _ _ _ rfl rfl (str_none _) ?_)
    rw [Hw0.out]
    refine cO.out.mono ?_
    rintro e w1 ⟨hW1, ⟨hbad, v, rfl⟩ | ⟨hok, b, cap, rfl, hb1, hb2, hat⟩⟩
    · rw [Hok.out] at hbad; cases hbad
    have Hat := Lib.hid hat
    have hB1 := hB0.trans (hW1.mono hB0.size)
    have Hmade := Lib.hid (own_below hmade.out hW1)
    clear hat hok
    go_wp2_with fail
    go_loopw [3, 6, 7] (fun out i _ wr => ∃ k : Nat, k ≤ N.n ∧ i = .int .i64 k ∧ ArS w wr N b out (arrL N k)) (fun _ i _ _ => N.n - (intOf i).toNat)
    case atStart => exact ⟨0, Nat.zero_le _, rfl, Hmade.out, hB1, Hat.out, hb2, by
      intro e
      have e2 : w.heap.size = b := Option.some.inj e
      rw [← Hw0.out] at hb1; simp at hb1; omega⟩
    case round =>
      obtain ⟨i, hi, rfl, hS⟩ := hrel
      have HS := Lib.hid hS
      by_cases hlt : i < N.n
      · obtain ⟨wo, rfl⟩ : ∃ wo : World, wo = wr := ⟨_, rfl⟩
        clear hS
        go_wp2_with fail
        go_loopw [3, 7] (fun out j wr => ∃ k : Nat, k ≤ N.n ∧ j = .int .i64 k ∧ ArS w wr N b out (partA N i k)) (fun _ j _ => N.n - (intOf j).toNat)
        case atStart => exact ⟨0, Nat.zero_le _, rfl, by rw [partA_zero]; exact HS.out⟩
        case round =>
          obtain ⟨k, hk, rfl, hS2⟩ := hrel
          have HS2 := Lib.hid hS2
          have hl2 := partA_length hn.2 i k
          have hlen : (partA N i k).length ≤ 30 := by omega
          have hWs := hS2.below.size
          have hbl := hS2.lt
          by_cases hlt2 : k < N.n
          · have hcell : wr.cell? ⟨b, k, none⟩ = some (.string (tabText N.n (N.f k))) := by
              rw [← netTexts_get N k hlt2]; exact hS2.strs k (by rw [netTexts_length]; exact hlt2)
            have c0 := l7Sign_any b cap N hn.2 i k hlt hlt2 wr hS2.strs
            rw [edgeC_sg] at c0
            have c3 := fun wx => signOf_any N.n (N.f k) i hn.1 hn.2 hlt wx
            rw [sgT_code] at c3
            have cI := Lib.hid (fun wx => l14Dec_any i (by omega) wx)
            have cK := Lib.hid (fun wx => l14Dec_any k (by omega) wx)
            have Hyes := Lib.hid (fun h : 0 < edgeC N i k => show partA N i (k + 1) = partA N i k ++ [((decT i ++ (⟨#[62]⟩ : ByteArray)) ++ decT k) ++ (⟨#[signT (edgeC N i k)]⟩ : ByteArray)] by rw [arrT_joinS, partA_yes h])
            have Hno := Lib.hid (fun h : edgeC N i k = 0 => partA_no h)
            have hs1 : (⟨#[signT (edgeC N i k)]⟩ : ByteArray).size = 1 := rfl
            have hs2 : (decT i).size = 1 := rfl
            have hs3 : (decT k).size = 1 := rfl
            obtain ⟨z, hz0⟩ : ∃ z, edgeC N i k = z := ⟨_, rfl⟩
            rw [hz0] at c0 c3 Hyes Hno hs1
            obtain ⟨sT, hsT⟩ : ∃ sT, (⟨#[signT z]⟩ : ByteArray) = sT := ⟨_, rfl⟩
            rw [hsT] at c3 Hyes hs1
            obtain ⟨tI, htI⟩ : ∃ tI, decT i = tI := ⟨_, rfl⟩
            rw [htI] at cI Hyes hs2
            obtain ⟨tK, htK⟩ : ∃ tK, decT k = tK := ⟨_, rfl⟩
            rw [htK] at cK Hyes hs3
            have C0 := Lib.hid c0
            have C3 := Lib.hid c3
            clear c0 c3 hz0 hsT htI htK hS2
            by_cases h0 : 0 < z
            · have hz : (0 : Int) < (z : Int) := by omega
              have Hx := Lib.hid (Hyes.out h0)
              clear h0 Hno Hyes
              go_wp2_with fail
              refine C0.out.mono ?_
              rintro e w' ⟨rfl, rfl⟩
              go_wp2_with fail
              obtain ⟨ps, hps⟩ : ∃ ps, partA N i k = ps := ⟨_, rfl⟩
              rw [hps] at HS2 hlen Hx
              clear hps
              go_region_held3 (fun w' => w'.cell? ⟨b, k, none⟩ = some (.string (tabText N.n (N.f k))))
                (first | with_reducible exact hka | with_reducible exact hkb | with_reducible exact hk6 | with_reducible exact hcell | go_keep)
                (first
                | (go_at_call 93
                   with_reducible refine Calls.mono (cI.out _) ?_
                   rintro e wa ⟨hWa, rfl⟩
                   have hka : wa.cell? ⟨b, k, none⟩ = some (.string (tabText N.n (N.f k))) := (hWa.cell hbl).trans hcell
                   have hBa : Below wr.heap.size wr wa := ((Below.refl _ _).drew).trans (hWa.mono (by simp)))
                | (go_at_call 93
                   with_reducible refine Calls.mono (cK.out _) ?_
                   rintro e wb ⟨hWb, rfl⟩
                   have hkb : wb.cell? ⟨b, k, none⟩ = some (.string (tabText N.n (N.f k))) := (hWb.cell (by have := hBa.size; show b < wa.heap.size; omega)).trans hka
                   have hBb : Below wr.heap.size wr wb := hBa.trans (hWb.mono hBa.size))
                | (go_at_call 91
                   with_reducible refine Calls.mono (C3.out _) ?_
                   rintro e w' ⟨rfl, rfl⟩)
                | (refine step_append_lies _ (by rfl) _ _ _ (by rfl) w.heap.size 9 i0 (.string ByteArray.empty) 1 16 Tryd.underlying41 Hi0.out Hz0.out Hz1.out Hz2.out rfl (by omega) u3 ps.length (texts ps) (by rfl) ((own_below HS2.out.own hBb).alloc _) ⟨wb.heap.size, 0, none⟩ 1 1 [_] (by rfl) (by rfl) (World.news_of_block (t := 9) (fr := (0, 0)) (heap_alloc_new wb _)) (by simp [Value.oneCell']) (by omega) (by unfold maxLen; omega) (by omega) (by have := hBb.size; simp; omega) (wb.heap.size + 1) (by simp) ?_
                   intro gg cp w6 hown6 hgrow hat6 hlt6
                   have hk6 : w6.cell? ⟨b, k, none⟩ = some (.string (tabText N.n (N.f k))) := by
                     rw [World.cell?_of_block (w := wb) (a := ⟨b, k, none⟩) ((hgrow.block b (by have := hBb.size; simp; omega) (fun h => HS2.out.ne h.symm)).trans (Below.heap_alloc _ _ _ (by have := hBb.size; omega)))]; exact hkb))
              have hblk : w6.heap[b]? = wb.heap[b]? := (hgrow.block b (by have := hBb.size; simp; omega) (fun h => HS2.out.ne h.symm)).trans (Below.heap_alloc _ _ _ (by have := hBb.size; omega))
              have hBw := HS2.out.below.trans (hBb.mono hWs)
              have hown7 : w6.ownsRow w.heap.size 9 1 (.slice (some ⟨gg, 0, none⟩) (ps.length + 1) cp) (partA N i (k + 1)).length (texts (partA N i (k + 1))) := by
                rw [Hx.out, List.length_append, texts_snoc]; exact hown6
              have HS6 := Lib.hid (show ArS w w6 N b (.slice (some ⟨gg, 0, none⟩) (ps.length + 1) cp) (partA N i (k + 1)) from
                ⟨hown7, (hBw.alloc hBw.size _).grown hgrow (by have := hBw.size; simp; omega) (fun q hq => own_ge HS2.out.own hq), (HS2.out.strs.below hBb hbl).same hblk, by have := hgrow.size; have := hBb.size; simp at *; omega, by
                  rcases hat6 with h | h
                  · intro e
                    exact HS2.out.ne (h.trans e)
                  · intro e
                    have e2 : gg = b := Option.some.inj e
                    have := hBb.size
                    omega⟩)
              clear hgrow hown6 hown7 hat6 hblk
              go_wp2_with fail
              go_roundw
              case rel => exact ⟨k + 1, by omega, by go_num, HS6.out⟩
              case measure => simp [intOf] <;> omega
            · have hz : ¬ (0 : Int) < (z : Int) := by omega
              have Hx := Lib.hid (Hno.out (by omega))
              clear h0 Hno Hyes
              go_wp2_with fail
              refine C0.out.mono ?_
              rintro e w' ⟨rfl, rfl⟩
              go_wp2_with fail
              go_roundw
              case rel => exact ⟨k + 1, by omega, by go_num, by rw [Hx.out]; exact HS2.out⟩
              case measure => simp [intOf] <;> omega
          · obtain rfl : k = N.n := by omega
            rw [partA_end] at HS2
            clear hS2
            go_wp2_with fail
            go_roundw
            case rel => exact ⟨i + 1, by omega, by go_num, HS2.out⟩
            case measure => simp [intOf] <;> omega
      · obtain rfl : i = N.n := by omega
        obtain ⟨a, cp, rfl, hcp, hI⟩ := textsAt_of_own hS.own
        have HI := Lib.hid hI
        clear hS hI
        go_wp2_with fail
        go_ret
        exact ⟨HS.out.below, a, cp, rfl, HI.out⟩
end Go.Proofs.YtkfagolmpbbckaaDoor
