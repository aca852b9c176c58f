/- The reference's texts of tables and of networks; turned networks. -/
import Derived.Test.YtkfagolmpbbckaaGreatDoorSpecC
import Derived.Test.YtkfagolmpbbckaaGreatDoorP1
import Derived.Test.YtkfagolmpbbckaaGreatDoorSl
import Derived.Test.YtkfagolmpbbckaaGreatDoorSx
import Derived.Deep.QuietTactic
import Derived.BigQuiet
import Derived.Laws.Concat
namespace Go.Proofs.YtkfagolmpbbckaaGreatDoor
open Go Go.RowKit Go.Sw
set_option maxRecDepth 100000
set_option linter.unusedVariables false

/-- m values as a text, as numbers -/
def bitsT (m : Nat) (v : Nat → Bool) : ByteArray := bs ((List.range m).map fun s => if v s then 49 else 48)
def bitInts (m : Nat) (v : Nat → Bool) : List Int := (List.range m).map fun s => ((v s).toNat : Int)
theorem bitInts_length (m : Nat) (v : Nat → Bool) : (bitInts m v).length = m := by simp [bitInts]
theorem bitInts_get (m : Nat) (v : Nat → Bool) (k : Nat) (h : k < m) : (bitInts m v)[k]'(by rw [bitInts_length]; exact h) = ((v k).toNat : Int) := by simp [bitInts]
theorem bitInts_succ (m : Nat) (v : Nat → Bool) : bitInts (m + 1) v = bitInts m v ++ [((v m).toNat : Int)] := by simp [bitInts, List.range_succ]
theorem bitsT_size (m : Nat) (v : Nat → Bool) : (bitsT m v).size = m := by simp [bitsT]
theorem bitsT_succ (m : Nat) (v : Nat → Bool) : bitsT (m + 1) v = bitsT m v ++ bs [if v m then 49 else 48] := by
  apply ba_ext
  simp [bitsT, List.range_succ]

theorem l1Text_any (B m : Nat) (a : Option Addr) (cap : Nat) (v : Nat → Bool) (hm : m ≤ 64) (w : World) (h : IntsAt w B a (bitInts m v)) :
    Calls Tryz.prog 108 #[.slice a m cap] w fun e w' => Below w.heap.size w w' ∧ e = .returned (.string (bitsT m v)) := by
  have H := Lib.hid h.at'
  clear h
  go_enter Tryz.func108, Tryz.ntmps108
  go_wp2_with fail
  go_loopw [3, 4] (fun out i wr => (∃ k : Nat, k ≤ m ∧ i = .int .i64 k ∧ out = .string (bitsT k v)) ∧ ∃ nq, wr = w.drewN nq) (fun _ i _ => m - (intOf i).toNat)
  case atStart => exact ⟨⟨0, Nat.zero_le _, rfl, rfl⟩, 0, rfl⟩
  case round =>
    obtain ⟨⟨k, hk, rfl, rfl⟩, nq0, rfl⟩ := hrel
    by_cases hlt : k < m
    · obtain ⟨g, cur, t, rfl, _, hc, _, hj⟩ := H.out (by rw [bitInts_length]; omega)
      have hjk := hj k (by rw [bitInts_length]; exact hlt)
      rw [bitInts_get m v k hlt] at hjk
      have e1 : w.cell? ⟨g, k, none⟩ = some (.int .i64 ((v k).toNat : Int)) := by rw [cell_of_row w _ _ _ _ _ hc]; exact hjk
      have hS := bitsT_succ k v
      have hz : (bitsT k v).size ≤ 64 := by rw [bitsT_size]; omega
      clear hj hc hjk
      cases hv : v k <;> rw [hv] at e1 hS <;> simp only [Bool.toNat_true, Bool.toNat_false, Int.natCast_zero, Int.natCast_one] at e1
      all_goals
        have HS := Lib.hid hS
        clear hS hv
        have q1 : IntKind.i64.wrap 1 = 1 := rfl
        have q2 : IntKind.i64.wrap 2 = 2 := rfl
        have q3 : (IntKind.i64.wrap (1 + 1)) = 2 := rfl
        go_wp2_with fail
        go_quiet (fail)
        go_wp2_with fail
        first
          | (go_roundw
             case rel => exact ⟨⟨k + 1, by omega, by go_num, by rw [HS.out]; rfl⟩, _, rfl⟩
             case measure => simp [intOf] <;> omega)
          | exact ⟨⟨⟨k + 1, by omega, by go_num, by rw [HS.out]; rfl⟩, _, rfl⟩, by simp [intOf] <;> omega⟩
    · obtain rfl : k = m := by omega
      go_wp2_with fail
      go_ret
      exact ⟨below_drewN (Below.refl _ _) _, rfl⟩

theorem joinL_take_succ (ps : List ByteArray) (k : Nat) (h : k < ps.length) :
    bs (joinL ((ps.take (k + 1)).map (·.data.toList))) = if 0 < k then bs (joinL ((ps.take k).map (·.data.toList))) ++ bs [44] ++ ps[k] else ps[k] := by
  rw [List.take_succ_eq_append_getElem h, List.map_append, List.map_singleton]
  split
  · rename_i hk
    rw [joinL_snoc _ _ (by
      intro e
      have := congrArg List.length e
      rw [List.length_map, List.length_take, List.length_nil] at this
      omega)]
    apply ba_ext
    simp [ByteArray.data_append]
  · obtain rfl : k = 0 := by omega
    rw [List.take_zero]
    show bs ps[0].data.toList = ps[0]
    exact bs_of _
theorem joinL_take_size (ps : List ByteArray) (k m : Nat) (h : ∀ p ∈ ps, p.size ≤ m) (hk : k ≤ ps.length) : (bs (joinL ((ps.take k).map (·.data.toList)))).size ≤ k * (m + 1) := by
  rw [bs_size]
  have := joinL_length ((ps.take k).map (·.data.toList)) m (fun p hp => by
    obtain ⟨t, ht, rfl⟩ := List.mem_map.1 hp
    have := h t (List.mem_of_mem_take ht)
    simpa using this)
  rw [List.length_map, List.length_take, Nat.min_eq_left hk] at this
  exact this

theorem l3Text_any (b cap : Nat) (ps : List ByteArray) (hn : ps.length ≤ 64) (hp : ∀ p ∈ ps, p.size ≤ 64) (w : World) (hat : StrsAt w b ps) :
    Calls Tryz.prog 65 #[.slice (some ⟨b, 0, none⟩) ps.length cap] w fun e w' => e = .returned (.string (bs (joinL (ps.map (·.data.toList))))) ∧ w = w' := by
  have Hat := Lib.hid hat
  have Hp := Lib.hid hp
  clear hat hp
  go_enter Tryz.func65, Tryz.ntmps65
  go_wp2_with fail
  go_loop [3, 4] (fun out i => ∃ k : Nat, k ≤ ps.length ∧ i = .int .i64 k ∧ out = .string (bs (joinL ((ps.take k).map (·.data.toList))))) (fun _ i => ps.length - (intOf i).toNat)
  case atStart => exact ⟨0, Nat.zero_le _, rfl, rfl⟩
  case round =>
    obtain ⟨k, hk, rfl, rfl⟩ := hrel
    by_cases hlt : k < ps.length
    · have hcell : w.cell? ⟨b, k, none⟩ = some (.string ps[k]) := Hat.out k hlt
      have hS := joinL_take_succ ps k hlt
      have hz := joinL_take_size ps k 64 Hp.out hk
      have hzk : ps[k].size ≤ 64 := Hp.out _ (List.getElem_mem hlt)
      have h44 : bs [44] = ⟨#[44]⟩ := rfl
      rw [h44] at hS
      obtain ⟨t, ht⟩ : ∃ t, bs (joinL ((ps.take k).map (·.data.toList))) = t := ⟨_, rfl⟩
      obtain ⟨p, hp⟩ : ∃ p, ps[k] = p := ⟨_, rfl⟩
      rw [ht, hp] at hS
      rw [hp] at hcell hzk
      rw [ht] at hz ⊢
      have hz2 : t.size ≤ 5000 := by omega
      by_cases h0 : 0 < k
      · rw [if_pos h0] at hS
        have HS := Lib.hid hS
        clear hS h44 hp ht hz
        go_wp2_with fail
        go_round
        case rel => exact ⟨k + 1, by omega, by go_num, by rw [HS.out]⟩
        case measure => simp [intOf] <;> omega
      · rw [if_neg h0] at hS
        obtain rfl : k = 0 := by omega
        have HS := Lib.hid hS
        have ht0 : t = ByteArray.empty := by rw [← ht]; rfl
        subst ht0
        have he : ByteArray.empty ++ p = p := by apply ba_ext; simp [ByteArray.data_append]
        have He := Lib.hid he
        clear hS h44 hp ht hz hz2 he
        go_wp2_with fail
        go_round
        case rel => exact ⟨1, by omega, by go_num, by rw [HS.out]⟩
        case measure => simp [intOf] <;> omega
    · obtain rfl : k = ps.length := by omega
      have ht : ps.take ps.length = ps := List.take_length
      have Ht := Lib.hid ht
      clear ht
      go_wp2_with fail
      go_ret
      exact ⟨rfl, rfl⟩
end Go.Proofs.YtkfagolmpbbckaaGreatDoor
