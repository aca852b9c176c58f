/- The program's tables: their width, their sign, tables made of a function, tables read and written. -/
import Derived.Test.YtkfagolmpbbckaaGreatDoorProg
import Derived.Test.YtkfagolmpbbckaaGreatDoorP1
import Derived.Deep.WholeRow
import Derived.Deep.MidRow
namespace Go.Proofs.YtkfagolmpbbckaaGreatDoor
open Go Go.RowKit Go.Sw
set_option maxRecDepth 100000
set_option linter.unusedVariables false

theorem tab_info : (Tryz.prog.info? 86).map (·.size) = some 33 := by kernel_rfl
theorem tab_infoc (n : Nat) (f : Nat → Bool) : (Tryz.prog.info? 86).map (·.size) = some (tcells n f).size := by rw [tcells_size]; kernel_rfl
/-- a table of no inputs -/
def tab0 : Array Value := tcells 0 fun _ => false
theorem tab_alloc (w : World) : (Instr.alloc 86 true (.tuple #[])).run Tryz.prog w = .ok (.pointer (some ⟨w.heap.size, 0, none⟩)) (w.alloc (.cells tab0 86)) := by kernel_rfl
theorem tab_build0 (w : World) : (Instr.build 86 [].toArray).run Tryz.prog w = .ok (.agg tab0) w := by kernel_rfl
theorem tab_build1 (n : Nat) (w : World) : (Instr.build 86 [(0, .int .i64 n)].toArray).run Tryz.prog w = .ok (.agg (tcells n fun _ => false)) w := by kernel_rfl
theorem tab_store_new (w : World) (b n : Nat) (f : Nat → Bool) (hb : b = w.heap.size) :
    (Instr.storeAt 86 (.pointer (some ⟨b, 0, none⟩)) (.agg (tcells n f))).run Tryz.prog (w.alloc (.cells tab0 86)) = .ok () (w.alloc (.cells (tcells n f) 86)) := by
  subst hb
  simp only [Instr.storeAt, Instr.sureAddr, Sem.run_bind, Sem.run_pure, Result.andThen_ok]
  rw [run_storeVar_row _ _ 86 86 tab0 (tcells n f) (heap_alloc_last w _) (tab_infoc n f) (by rw [tab0, tcells_size, tcells_size]) (tcells_one n f), World.setRow_alloc_new]
theorem tab_load_at (w : World) (b o n : Nat) (f : Nat → Bool) (h : w.rangeAt b o (tlist n f)) :
    (Instr.loadAt 86 (.pointer (some ⟨b, o, none⟩))).run Tryz.prog w = .ok (.agg (tcells n f)) w :=
  run_loadAt_mid w b o 86 (tlist n f) _ h Tryz.underlying86 rfl (by rw [tlist_length]; exact tab_info)
theorem range_of_heap {w : World} {b n t : Nat} {f : Nat → Bool} {fr : Nat × Nat} (h : w.heap[b]? = some (.cells (tcells n f) t fr)) : w.rangeAt b 0 (tlist n f) := fun j v hv => by
  rw [cell_of_row w b (0 + j) _ t fr h, Nat.zero_add]; simpa [tcells] using hv

theorem range_new {w : World} {b n t : Nat} {f : Nat → Bool} (hb : b = w.heap.size) : (w.alloc (.cells (tcells n f) t)).rangeAt b 0 (tlist n f) := by
  subst hb; exact range_of_heap (heap_alloc_last _ _)

theorem width_any (n : Nat) (f : Nat → Bool) (hn : n ≤ 5) (w : World) :
    Calls Tryz.prog 132 #[.agg (tcells n f)] w fun e w' => e = .returned (.int .i64 (pw n)) ∧ w' = w.alloc (.cells (tcells n f) 86) := by
  have h2 := pow2_le n hn
  go_enter Tryz.func132, Tryz.ntmps132
  go_wp2
  go_ret
  exact ⟨ret_int (pw_cast n), rfl⟩

theorem each_any (n : Nat) (hn : n ≤ 5) (k : Nat) (cap : Array Value) (g : Nat → Bool) (w : World)
    (hk : ∀ args w, (callFunc k args).run Tryz.prog w = .ok (.enter k args) w)
    (hcl : ∀ (s : Nat) (wx : World), s < pw n → Below w.heap.size w wx →
      Calls Tryz.prog k (#[.int .i64 s] ++ cap) wx fun e w' => e = .returned (.int .u8 (b2 (g s))) ∧ Below wx.heap.size wx w') :
    Calls Tryz.prog 122 #[.int .i64 n, .func (.func k) #[] cap] w fun e w' => e = .returned (.agg (tcells n (upto (pw n) g))) ∧ Below w.heap.size w w' := by
  have h2 := pw_le hn
  have Hcl := Lib.hid hcl
  clear hcl
  go_enter Tryz.func122, Tryz.ntmps122
  go_wp2_with (first | ((with_reducible show wpList _ _ _ (⟨_, .alloc 86, _, _, _, _⟩ :: _) _ _); refine wpList_alloc' rfl _ rfl (tab_alloc _) ?_) | ((with_reducible show wpList _ _ _ (⟨_, .build 86 _, _, _, _, _⟩ :: _) _ _); refine wpList_build' rfl _ _ rfl rfl (tab_build1 n _) ?_) | ((with_reducible show wpList _ _ _ (⟨_, .store 86 _ _, _, _, _, _⟩ :: _) _ _); refine wpList_store' rfl _ _ _ rfl rfl rfl (tab_store_new _ _ n _ ?_) ?_; simp) | ((with_reducible show wpList _ _ _ (⟨_, .load 86 _, _, _, _, _⟩ :: _) _ _); refine wpList_load' rfl _ _ rfl rfl (tab_load_at _ _ _ n (fun _ => false) (range_new ?_)) ?_; simp) | (go_at_call 132; refine (width_any n _ hn _).mono ?_; rintro e w' ⟨rfl, rfl⟩))
  go_loopw [11] (fun s wr => ∃ k : Nat, k ≤ pw n ∧ s = .int .i64 k ∧ wr.heap[w.heap.size]? = some (.cells tab0 86 (0, 0)) ∧ wr.heap[w.heap.size + 1]? = some (.cells (tcells n (upto k g)) 86 (0, 0)) ∧ Below w.heap.size w wr) (fun s _ => pw n - (intOf s).toNat)
  case atStart =>
    refine ⟨0, Nat.zero_le _, rfl, ?_, ?_, ((Below.refl _ _).alloc (Nat.le_refl _) _ |>.alloc (by simp) _ |>.alloc (by simp; omega) _)⟩
    · rw [Below.heap_alloc _ _ _ (by simp; omega), Below.heap_alloc _ _ _ (by simp)]; exact heap_alloc_new _ _
    · rw [Below.heap_alloc _ _ _ (by simp), upto_zero]; exact heap_alloc2_new _ _ _
  case round =>
    obtain ⟨s, hs, rfl, hA, hB, hW⟩ := hrel
    by_cases hlt : s < pw n
    · go_wp2_with fail
      refine (Hcl.out s wr hlt hW).mono ?_
      rintro e w1 ⟨rfl, hb⟩
      have hA1 : w1.heap[w.heap.size]? = some (.cells tab0 86 (0, 0)) := (hb.block _ (block_lt hA)).trans hA
      have hB1 : w1.heap[w.heap.size + 1]? = some (.cells (tcells n (upto s g)) 86 (0, 0)) := (hb.block _ (block_lt hB)).trans hB
      have hc : w1.cell? ⟨w.heap.size + 1, 1 + s, none⟩ = some (.int .u8 (b2 (upto s g s))) := by
        rw [cell_of_row w1 _ _ _ _ _ hB1]; exact tcells_bit n _ s (by omega)
      have hf : w1.frozen? ⟨w.heap.size + 1, 1 + s, none⟩ = false := frozen_of_row w1 _ _ _ _ hB1
      have HB1 := Lib.hid hB1
      have HA1 := Lib.hid hA1
      clear hA hB hA1 hB1
      go_wp2_with fail
      go_roundw
      case rel =>
        refine ⟨s + 1, by omega, by go_num, ?_, ?_, (hW.trans (hb.mono hW.size)).setCell (by simp) _⟩
        · rw [heap_setCell_other _ _ _ _ (by simp)]; exact HA1.out
        · rw [heap_setCell_same _ _ _ _ _ _ HB1.out, tcells_set _ _ _ _ (by omega), upto_succ]
      case measure => simp [intOf] <;> omega
    · obtain rfl : s = pw n := by omega
      go_wp2_with (first | ((with_reducible show wpList _ _ _ (⟨_, .load 86 _, _, _, _, _⟩ :: _) _ _); refine wpList_load' rfl _ _ rfl rfl (tab_load_at _ _ _ n (upto (pw n) g) (range_of_heap hB)) ?_) | ((with_reducible show wpList _ _ _ (⟨_, .store 86 _ _, _, _, _, _⟩ :: _) _ _); refine wpList_store_row rfl _ _ _ rfl _ _ rfl rfl _ _ hA (tab_infoc n _) (by rw [tab0, tcells_size, tcells_size]) (tcells_one n _) ?_))
      exact bodyPost_ret (results_cell_row rfl _ _ _ _ _ _ _ rfl (setRow_heap _ _ _ _ _ _ hA) Tryz.underlying86 rfl (tab_infoc n _)) rfl ⟨rfl, below_setRow hW (Nat.le_refl _) _⟩

theorem readTable1_any (f : ByteArray) (s : Nat) (hs : s < f.size) (hf : f.size ≤ 32) (v : UInt8) (hv : f[s] = v) (h48 : 48 ≤ v.toNat) (h49 : v.toNat ≤ 49) (b : Nat) (w : World) (hb : w.heap[b]? = some (.cells #[.string f] 9 (0, 0))) :
    Calls Tryz.prog 123 #[.int .i64 s, .pointer (some ⟨b, 0, none⟩)] w fun e w' => e = .returned (.int .u8 ((v.toNat : Int) - 48)) ∧ w = w' := by
  have hc : w.cell? ⟨b, 0, none⟩ = some (.string f) := by rw [cell_of_row w _ _ _ _ _ hb]; rfl
  go_enter Tryz.func123, Tryz.ntmps123
  go_wp2
  go_ret
  exact ⟨rfl, rfl⟩

theorem results_tab {fn : Func} {p u : Tmp} (h : fn.results = #[.cell p 86, .tmp u]) (tmps : Array Value) (w : World) (g : Nat) (t : TypeId) (n : Nat) (f : Nat → Bool) (fr : Nat × Nat)
    (hp : tmps.getD p undef = .pointer (some ⟨g, 0, none⟩)) (hg : w.heap[g]? = some (.cells (tcells n f) t fr)) :
    (results fn tmps).run Tryz.prog w = .ok (.tuple #[.agg (tcells n f), tmps.getD u undef]) w := by
  have hl := run_loadVar_row (P := Tryz.prog) w g t 86 (tcells n f) fr _ hg Tryz.underlying86 rfl (tab_infoc n f)
  have hp' : tmps[p]?.getD undef = .pointer (some ⟨g, 0, none⟩) := by simpa using hp
  simp [results, h, hp', asAddr, hl]

/-- what readTable gives besides whether it can -/
def rdCells (f : ByteArray) : Array Value := if tabOk f then tcells (logN f.size) (bitAt f) else tab0

theorem readTable_any (f : ByteArray) (w : World) (hm : f.size ≤ 1048576) :
    Calls Tryz.prog 79 #[.string f] w fun e w' => e = .returned (.tuple #[.agg (rdCells f), .bool (tabOk f)]) ∧ Below w.heap.size w w' := by
  have hB0 : Below w.heap.size w ((w.alloc (.cells #[.string f] 9)).alloc (.cells tab0 86)) := ((Below.refl _ _).alloc (Nat.le_refl _) _).alloc (by simp) _
  go_enter Tryz.func79, Tryz.ntmps79
  go_wp2_with (first | ((with_reducible show wpList _ _ _ (⟨_, .alloc 86, _, _, _, _⟩ :: _) _ _); refine wpList_alloc' rfl _ rfl (tab_alloc _) ?_))
  go_loopw [4] (fun n wr => (∃ k : Nat, 1 ≤ k ∧ k ≤ 6 ∧ n = .int .i64 k ∧ (0 < logN f.size → k ≤ logN f.size)) ∧ ∃ nq, wr = ((w.alloc (.cells #[.string f] 9)).alloc (.cells tab0 86)).drewN nq) (fun n _ => 6 - (intOf n).toNat)
  case atStart => exact ⟨⟨1, by omega, by omega, rfl, fun h => by omega⟩, 0, rfl⟩
  case round =>
    obtain ⟨⟨k, h1, h6, rfl, hk⟩, nq0, rfl⟩ := hrel
    by_cases hlt : k ≤ 5
    · have h2 := pow2_le k hlt
      by_cases he : f.size = pw k
      · have hne : ((f.size : Int) != 2 ^ k) = false := by rw [he, ← pw_cast]; simp
        have hlog : logN f.size = k := by rw [he]; exact logN_pw h1 hlt
        have Hlog := Lib.hid hlog
        have Hk := Lib.hid hk
        have He := Lib.hid he
        clear hlog hk he
        go_wp2_with fail
        go_quiet (fail)
        go_wp2_with fail
        go_loopw [5] (fun i wr => (∃ j : Nat, j ≤ f.size ∧ i = .int .i64 j ∧ ∀ m (hm : m < f.size), m < j → isBit f[m] = true) ∧ ∃ nq, wr = ((w.alloc (.cells #[.string f] 9)).alloc (.cells tab0 86)).drewN nq) (fun i _ => f.size - (intOf i).toNat)
        case atStart => exact ⟨⟨0, Nat.zero_le _, rfl, fun m hm h => absurd h (Nat.not_lt_zero _)⟩, nq0 + nq, World.drewN_drewN _ _ _⟩
        case round =>
          obtain ⟨⟨j, hj, rfl, hall⟩, nq2, rfl⟩ := hrel
          have Hall := Lib.hid hall
          clear hall
          by_cases hjl : j < f.size
          · obtain ⟨v, hv⟩ : ∃ v, f[j] = v := ⟨_, rfl⟩
            cases hb : isBit v
            · have hbad : rdCells f = tab0 ∧ tabOk f = false := by
                have := tab_bad f j hjl (by rw [hv]; exact hb)
                exact ⟨by rw [rdCells, this]; rfl, this⟩
              have Hbad := Lib.hid hbad
              clear hbad
              obtain ⟨e1, e2⟩ := bit_no v hb
              clear hb
              go_wp2_with (first | ((with_reducible show wpList _ _ _ (⟨_, .build 86 _, _, _, _, _⟩ :: _) _ _); refine wpList_build' rfl _ _ rfl rfl (tab_build0 _) ?_) | ((with_reducible show wpList _ _ _ (⟨_, .store 86 _ _, _, _, _, _⟩ :: _) _ _); refine wpList_store_row rfl _ _ _ rfl _ _ rfl rfl _ _ (heap_alloc2_new _ _ _) (tab_infoc _ _) rfl (tcells_one _ _) ?_))
              refine bodyPost_ret (results_tab rfl _ _ _ _ 0 (fun _ => false) _ rfl (setRow_heap _ _ _ _ _ _ (heap_alloc2_new _ _ _))) rfl ⟨?_, below_setRow (below_drewN hB0 _) (by simp) _⟩
              rw [Hbad.out.1, Hbad.out.2]; rfl
            · obtain ⟨hb1, hb2⟩ | ⟨hb1, hb2⟩ := bit_yes v hb
              all_goals
                have hall' : ∀ m (hm : m < f.size), m < j + 1 → isBit f[m] = true := fun m hm hlt' => by
                  by_cases e : m = j
                  · subst e; rw [hv]; exact hb
                  · exact Hall.out m hm (by omega)
                have Hall' := Lib.hid hall'
                clear hall' hb
                go_wp2_with fail
                go_roundw
                case rel => exact ⟨⟨j + 1, by omega, by go_num, Hall'.out⟩, _, rfl⟩
                case measure => simp [intOf] <;> omega
          · obtain rfl : j = f.size := by omega
            have hok : tabOk f = true := tab_good f (by rw [Hlog.out]; omega) (fun m hm => Hall.out m hm hm)
            have hres : rdCells f = tcells k (upto (pw k) (bitAt f)) := by
              rw [rdCells, hok, if_pos rfl, Hlog.out]
              exact tcells_congr _ _ _ fun s _ => by rw [← He.out]; exact (bitAt_upto f s).symm
            have Hok := Lib.hid hok
            have Hres := Lib.hid hres
            clear hok hres
            have hcl : ∀ (s : Nat) (wx : World), s < pw k → Below (((w.alloc (.cells #[.string f] 9)).alloc (.cells tab0 86)).drewN nq2).heap.size (((w.alloc (.cells #[.string f] 9)).alloc (.cells tab0 86)).drewN nq2) wx →
                Calls Tryz.prog 123 (#[.int .i64 s] ++ #[.pointer (some ⟨w.heap.size, 0, none⟩)]) wx fun e w' => e = .returned (.int .u8 (b2 (bitAt f s))) ∧ Below wx.heap.size wx w' := fun s wx hs hb => by
              have hsf : s < f.size := by rw [He.out]; exact hs
              obtain ⟨q1, q2, q3⟩ := bitAt_b2 f s hsf (Hall.out s hsf hsf)
              refine (readTable1_any f s hsf (by have := pw_le hlt; rw [He.out]; omega) _ rfl q2 q3 w.heap.size wx ?_).mono fun e w' ⟨h1, h2⟩ => ⟨by rw [h1, q1], by subst h2; exact Below.refl _ _⟩
              rw [hb.block _ (by simp; omega)]; exact heap_alloc2_old _ _ _
            have Hcl := Lib.hid hcl
            clear hcl
            go_wp2_with fail
            refine (each_any k hlt _ _ (bitAt f) _ (enters_fn Tryz.func123 (by kernel_rfl) rfl) Hcl.out).mono ?_
            rintro e w1 ⟨rfl, hb1⟩
            have hA : w1.heap[w.heap.size + 1]? = some (.cells tab0 86 (0, 0)) := by rw [hb1.block _ (by simp)]; exact heap_alloc2_new _ _ _
            have hw1 : Below w.heap.size w w1 := (below_drewN hB0 nq2).trans (hb1.mono (by simp; omega))
            go_wp2_with (first | ((with_reducible show wpList _ _ _ (⟨_, .store 86 _ _, _, _, _, _⟩ :: _) _ _); refine wpList_store_row rfl _ _ _ rfl _ _ rfl rfl _ _ hA (tab_infoc _ _) (by rw [tab0, tcells_size, tcells_size]) (tcells_one _ _) ?_))
            refine bodyPost_ret (results_tab rfl _ _ _ _ k (upto (pw k) (bitAt f)) _ rfl (setRow_heap _ _ _ _ _ _ hA)) rfl ⟨?_, below_setRow hw1 (by simp) _⟩
            rw [Hres.out, Hok.out]; rfl
      · have hne : ((f.size : Int) != 2 ^ k) = true := by
          rw [pw_cast]; simp only [bne_iff_ne, ne_eq, Int.natCast_inj]; exact he
        have hk' : 0 < logN f.size → k + 1 ≤ logN f.size := fun h => by
          have := hk h
          by_cases e : k = logN f.size
          · rcases logN_spec f.size with h0 | h0
            · omega
            · exact absurd (e ▸ h0.2.2) he
          · omega
        have Hk' := Lib.hid hk'
        clear hk hk'
        go_wp2_with fail
        go_quiet (fail)
        go_wp2_with fail
        exact ⟨⟨⟨k + 1, by omega, by omega, by go_num, Hk'.out⟩, _, rfl⟩, by simp [intOf]; omega⟩
    · have hbad : rdCells f = tab0 ∧ tabOk f = false := by
        have h0 : logN f.size = 0 := by rcases logN_spec f.size with h | h <;> omega
        have : tabOk f = false := by unfold tabOk; rw [h0]; rfl
        exact ⟨by rw [rdCells, this]; rfl, this⟩
      have Hbad := Lib.hid hbad
      clear hbad hk
      go_wp2_with (first | ((with_reducible show wpList _ _ _ (⟨_, .build 86 _, _, _, _, _⟩ :: _) _ _); refine wpList_build' rfl _ _ rfl rfl (tab_build0 _) ?_) | ((with_reducible show wpList _ _ _ (⟨_, .store 86 _ _, _, _, _, _⟩ :: _) _ _); refine wpList_store_row rfl _ _ _ rfl _ _ rfl rfl _ _ (heap_alloc2_new _ _ _) (tab_infoc _ _) rfl (tcells_one _ _) ?_))
      all_goals
        refine bodyPost_ret (results_tab rfl _ _ _ _ 0 (fun _ => false) _ rfl (setRow_heap _ _ _ _ _ _ (heap_alloc2_new _ _ _))) rfl ⟨?_, below_setRow (below_drewN hB0 _) (by simp) _⟩
        rw [Hbad.out.1, Hbad.out.2]; rfl

theorem sign_any (n : Nat) (f : Nat → Bool) (i : Nat) (hn : n ≤ 5) (hi : i < n) (w : World) :
    Calls Tryz.prog 96 #[.agg (tcells n f), .int .i64 i] w fun e w' => e = .returned (.string (sgT (sgU n f i) (sgD n f i))) ∧ Below w.heap.size w w' := by
  have h2 := pw_le hn
  have h2i := pow2_le i (by omega)
  go_enter Tryz.func96, Tryz.ntmps96
  go_wp2_with (first | ((with_reducible show wpList _ _ _ (⟨_, .load 86 _, _, _, _, _⟩ :: _) _ _); refine wpList_load' rfl _ _ rfl rfl (tab_load_at _ _ _ n f (range_new ?_)) ?_; simp) | (go_at_call 132; refine (width_any _ _ hn _).mono ?_; rintro e w' ⟨rfl, rfl⟩))
  go_loopw [12, 5, 6] (fun s up down wr => (∃ k : Nat, k ≤ pw n ∧ s = .int .i64 k ∧ up = .bool (anyB (upB f i) k) ∧ down = .bool (anyB (downB f i) k)) ∧ ∃ nq, wr = ((w.alloc (.cells (tcells n f) 86)).alloc (.cells (tcells n f) 86)).drewN nq) (fun s _ _ _ => pw n - (intOf s).toNat)
  case atStart => exact ⟨⟨0, Nat.zero_le _, rfl, rfl, rfl⟩, 0, rfl⟩
  case round =>
    obtain ⟨⟨k, hk, rfl, rfl, rfl⟩, nq, rfl⟩ := hrel
    by_cases hlt : k < pw n
    · have hor := or_pow k i (by omega) (by omega)
      have hlt2 : k ||| 2 ^ i < pw n := or_pow_lt k i n hlt hi
      have hk1 := tcells_bit n f k (by omega)
      have hk2 := tcells_bit n f (k ||| 2 ^ i) (by omega)
      have hu : anyB (upB f i) (k + 1) = (anyB (upB f i) k || (!k.testBit i && (!f k && f (k ||| 2 ^ i)))) := rfl
      have hd : anyB (downB f i) (k + 1) = (anyB (downB f i) k || (!k.testBit i && (f k && !f (k ||| 2 ^ i)))) := rfl
      cases hb : k.testBit i
      · cases h3 : f k <;> cases h4 : f (k ||| 2 ^ i) <;> simp only [hb, h3, h4, b2_true, b2_false] at hk1 hk2 hu hd
        all_goals
          have Hu := Lib.hid hu; have Hd := Lib.hid hd; clear hu hd
          go_wp2_with fail
          go_quiet (fail)
          go_wp2_with fail
          go_roundw
          case rel => exact ⟨⟨k + 1, by omega, by go_num, by rw [Hu.out]; simp, by rw [Hd.out]; simp⟩, _, rfl⟩
          case measure => simp [intOf] <;> omega
      · simp only [hb] at hu hd
        have Hu := Lib.hid hu; have Hd := Lib.hid hd; clear hu hd
        go_wp2_with fail
        go_roundw
        case rel => exact ⟨⟨k + 1, by omega, by go_num, by rw [Hu.out]; simp, by rw [Hd.out]; simp⟩, _, rfl⟩
        case measure => simp [intOf] <;> omega
    · obtain rfl : k = pw n := by omega
      have hs : sgT (sgU n f i) (sgD n f i) = sgT (anyB (upB f i) (pw n)) (anyB (downB f i) (pw n)) := rfl
      cases h3 : anyB (upB f i) (pw n) <;> cases h4 : anyB (downB f i) (pw n) <;> simp only [h3, h4] at hs
      all_goals
        have Hs := Lib.hid hs; clear hs
        go_wp2_with fail
        go_ret
        exact ⟨by rw [Hs.out]; rfl, below_drewN ((Below.refl _ _).alloc (Nat.le_refl _) _ |>.alloc (by simp) _) _⟩
end Go.Proofs.YtkfagolmpbbckaaGreatDoor
