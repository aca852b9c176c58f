/- The program's single steps and what they lead to. The program's steady states and attractors. The program's attractors. The program's count of the attractors within a trap. -/
import Derived.Test.YtkfagolmpbbckaaGreatDoorMp
import Derived.Test.YtkfagolmpbbckaaGreatDoorP2
import Derived.Test.YtkfagolmpbbckaaGreatDoorImpl9
import Derived.Test.YtkfagolmpbbckaaGreatDoorSl
import Derived.Test.YtkfagolmpbbckaaGreatDoorAp
import Derived.Deep.LoopGhost
import Derived.Test.YtkfagolmpbbckaaGreatDoorImplG
namespace Go.Proofs.YtkfagolmpbbckaaGreatDoor
open Go Go.RowKit Go.Sw
set_option maxRecDepth 100000
set_option linter.unusedVariables false

/-- numbers as ints -/
def nats (l : List Nat) : List Int := l.map Int.ofNat
theorem nats_length (l : List Nat) : (nats l).length = l.length := by simp [nats]
theorem nats_snoc (l : List Nat) (x : Nat) : nats (l ++ [x]) = nats l ++ [((x : Nat) : Int)] := by simp [nats]
theorem next_any (b cap s : Nat) (N : Net) (hn : N.n ≤ 5) (hs : s < pw N.n) (w : World) (hat : NetAt w b N.n N.f) (hb : b < w.heap.size) :
    Calls Tryz.prog 124 #[.slice (some ⟨b, 0, none⟩) N.n cap, .int .i64 s] w fun e w' => Below w.heap.size w w' ∧ ∃ a c, e = .returned (.slice a (nextL N s).length c) ∧ IntsAt w' w.heap.size a (nats (nextL N s)) := by
  have Hat := Lib.hid hat
  clear hat
  go_enter Tryz.func124, Tryz.ntmps124
  go_wp2_with fail
  go_loopw [5, 6, 7, 10] (fun out _ _ i wr => ∃ k : Nat, k ≤ N.n ∧ i = .int .i64 k ∧ wr.ownsRow w.heap.size 3 1 out (nats (nextTo N s k)).length (ints (nats (nextTo N s k))) ∧ Below w.heap.size w wr) (fun _ _ _ i _ => N.n - (intOf i).toNat)
  case atStart => exact ⟨0, Nat.zero_le _, rfl, World.ownsRow_nil _ _ _ _, Below.refl _ _⟩
  case round =>
    obtain ⟨k, hk, rfl, hown, hW⟩ := hrel
    have Hown := Lib.hid hown
    have hlk := nextTo_length N s k
    have hWs := hW.size
    clear hown
    by_cases hlt : k < N.n
    · have cO := Lib.hid (stepOne_any b cap s k N hn hs hlt wr (Hat.out.below hW hb))
      have hsuc : nextTo N s (k + 1) = if setN s k (N.f k s) ≠ s then nextTo N s k ++ [setN s k (N.f k s)] else nextTo N s k := rfl
      obtain ⟨t, ht⟩ : ∃ t, setN s k (N.f k s) = t := ⟨_, rfl⟩
      rw [ht] at cO hsuc
      obtain ⟨ps, hps⟩ : ∃ ps, nextTo N s k = ps := ⟨_, rfl⟩
      rw [hps] at hsuc Hown hlk
      have hpl : (nats ps).length ≤ 5 := by rw [nats_length]; omega
      clear ht hps
      by_cases hts : t = s
      · rw [if_neg (by simpa using hts)] at hsuc
        have Hs := Lib.hid hsuc
        have he : ((t : Int) == (s : Int)) = true := by rw [hts]; simp
        clear hsuc hts
        go_wp2_with fail
        refine cO.out.mono ?_
        rintro e w2 ⟨hW2, rfl⟩
        have Hown2 := Lib.hid (own_below Hown.out hW2)
        have hW3 := hW.trans (hW2.mono hWs)
        go_wp2_with fail
        go_roundw
        case rel => exact ⟨k + 1, by omega, by go_num, by rw [Hs.out]; exact Hown2.out, hW3⟩
        case measure => simp [intOf] <;> omega
      · rw [if_pos hts] at hsuc
        have Hs := Lib.hid hsuc
        have he : ((t : Int) == (s : Int)) = false := by rw [beq_eq_false_iff_ne]; omega
        clear hsuc
        go_wp2_with fail
        refine cO.out.mono ?_
        rintro e w2 ⟨hW2, rfl⟩
        have Hown2 := Lib.hid (own_below Hown.out hW2)
        have hW3 := hW.trans (hW2.mono hWs)
        have hs3 := hW3.size
        go_wp2_with (first | ((with_reducible show wpList _ _ _ (⟨_, .buildSlice 27 1 _, _, _, _, _⟩ :: _) _ _); refine wpList_buildSlice' rfl _ _ _ rfl rfl (int_one (t : Int) _) ?_) | (at_builtin; refine wpList_int_append rfl _ _ rfl w.heap.size _ (nats ps) rfl ((Hown2.out.alloc _)) _ _ rfl (cell_new ?_) (by omega) (hW3.alloc (by omega) _) ?_ ?_ ?_))
        · rfl
        · exact Nat.le_refl _
        · first | omega | (simp; omega)
        · intro v' w4 hown4 hB4
          have hown5 : w4.ownsRow w.heap.size 3 1 v' (nats (nextTo N s (k + 1))).length (ints (nats (nextTo N s (k + 1)))) := by
            rw [Hs.out, nats_snoc, List.length_append]; exact hown4
          have Hown4 := Lib.hid hown5
          have HB4 := Lib.hid hB4
          clear hown4 hown5 hB4
          go_wp2_with fail
          go_roundw
          case rel => exact ⟨k + 1, by omega, by go_num, Hown4.out, HB4.out⟩
          case measure => simp [intOf] <;> omega
    · obtain rfl : k = N.n := by omega
      obtain ⟨a, cp, rfl, hcp, hI⟩ := intsAt_of_own Hown.out
      have HI := Lib.hid hI
      have ha : 0 < (nats (nextL N s)).length → ∃ g, a = some ⟨g, 0, none⟩ := fun h0 => by
        obtain ⟨g, _, _, h1, _⟩ := hI.at' h0
        exact ⟨g, h1⟩
      have C := Lib.hid (fun wx => clip_any a (nats (nextL N s)).length cp ha hcp (by rw [nats_length]; exact Nat.le_trans hlk (by omega)) wx)
      have hnl : nextTo N s N.n = nextL N s := rfl
      rw [hnl] at HI ⊢
      clear hI ha
      rw [nats_length] at C ⊢
      go_wp2_with fail
      refine (C.out _).mono ?_
      rintro e w' ⟨rfl, rfl⟩
      go_wp2_with fail
      go_ret
      exact ⟨hW, a, _, rfl, HI.out⟩
theorem IntsAt.same {w w' : World} {B : Nat} {a : Option Addr} {xs : List Int} (h : IntsAt w B a xs) (hb : 0 < xs.length → ∀ g, a = some ⟨g, 0, none⟩ → w'.heap[g]? = w.heap[g]?) : IntsAt w' B a xs :=
  ⟨fun h0 => by
    obtain ⟨g, cur, t, h1, h2, h3, h4⟩ := h.at' h0
    exact ⟨g, cur, t, h1, h2, (hb h0 g h1).trans h3, h4⟩⟩
/-- the last number of a row is left away -/
theorem own_pop {w : World} {base : Nat} {e : TypeId} {a : Option Addr} {c : Nat} {L : List Nat} {t : Nat} (h : w.ownsRow base e 1 (.slice a (L.length + 1) c) (nats (L ++ [t])).length (ints (nats (L ++ [t])))) : w.ownsRow base e 1 (.slice a L.length c) (nats L).length (ints (nats L)) := by
  refine ⟨by simp [ints], ?_⟩
  rcases h.2 with ⟨h0, hz⟩ | ⟨g, cap, cur, h0, hb, hg, h1, h2, h3, h4⟩
  · injection h0 with e1 e2 e3
    omega
  · injection h0 with e1 e2 e3
    subst e1 e3
    refine .inr ⟨g, c, cur, ?_, hb, hg, ?_, h2, h3, ?_⟩
    · rw [nats_length]
    · rw [nats_length] at h1 ⊢
      rw [List.length_append] at h1; simp at h1; omega
    · have e2 : ints (nats (L ++ [t])) = ints (nats L) ++ [.int .i64 (t : Int)] := by rw [nats_snoc, ints_snoc]
      rw [e2] at h4
      have h5 := congrArg (List.take (nats L).length) h4
      rw [List.take_take] at h5
      rw [nats_length] at h5 ⊢
      rw [nats_length, List.length_append] at h5
      simp only [List.length_cons, List.length_nil, Nat.mul_one, Nat.zero_add] at h5 ⊢
      rw [show min L.length (L.length + 1) = L.length by omega] at h5
      rw [h5, List.take_append_of_le_length (by simp [ints, nats]), List.take_of_length_le (by simp [ints, nats])]
/-- the stack and the set of the search -/
structure RchAt (w wr : World) (N : Net) (s : Nat) (todo : Value) (S : Nat → Bool) (L : List Nat) (n : Nat) (x : Option (Nat × Nat)) : Prop where
  own : wr.ownsRow (w.heap.size + 1) 3 1 todo (nats L).length (ints (nats L))
  set : SetM wr w.heap.size n S
  room : n + unmN (pw N.n) S ≤ 33
  inv : RInv N s S L x
  below : Below w.heap.size w wr
theorem RchAt.step {w wr w' : World} {N : Net} {s : Nat} {todo : Value} {S : Nat → Bool} {L : List Nat} {n : Nat} {x : Option (Nat × Nat)} (h : RchAt w wr N s todo S L n x) (hb : Below wr.heap.size wr w') : RchAt w w' N s todo S L n x :=
  ⟨own_below h.own hb, h.set.below hb, h.room, h.inv, h.below.trans (hb.mono h.below.size)⟩
set_option maxHeartbeats 2000000 in
theorem reach_any (b cap s : Nat) (N : Net) (hn : N.n ≤ 5) (hs : s < pw N.n) (w : World) (hat : NetAt w b N.n N.f) (hb : b < w.heap.size) :
    Calls Tryz.prog 86 #[.slice (some ⟨b, 0, none⟩) N.n cap, .int .i64 s] w fun e w' => Below w.heap.size w w' ∧ ∃ n, e = .returned (.map (some w.heap.size)) ∧ SetM w' w.heap.size n (arB N s) := by
  have Hat := Lib.hid hat
  have hpw := pw_le hn
  have hmm := @run_makeMap Tryz.prog
  have hmade := Lib.hid (setM_made w)
  have hini := Lib.hid (RInv.init (N := N) hs)
  have hu0 : 1 + unmN (pw N.n) (fun j => j == s || false) ≤ 33 := by
    have := unm_put (n := pw N.n) (S := fun _ => false) hs rfl
    have := unm_le (pw N.n) (fun _ => false)
    omega
  clear hat
  go_enter Tryz.func86, Tryz.ntmps86
  go_wp2_with ((with_reducible show wpList _ _ _ (⟨_, .insert 93 _ _ _, _, _, _, _⟩ :: _) _ _); refine wpList_insert_setM _ rfl _ _ _ rfl w.heap.size 0 (fun _ => false) rfl hmade.out (by omega) s (by omega) rfl rfl ?_; intro w2 hS2 hg2)
  have hB2 : Below w.heap.size w w2 := ((Below.refl _ _).alloc (Nat.le_refl _) _).grown hg2 (by simp) (fun q hq => by cases hq; exact Nat.le_refl _)
  have hs2 : w.heap.size + 1 ≤ w2.heap.size := by have := hg2.size; simpa using this
  have HS2 := Lib.hid hS2
  clear hmm hS2 hg2
  go_wp2_with ((with_reducible show wpList _ _ _ (⟨_, .buildSlice 27 1 _, _, _, _, _⟩ :: _) _ _); refine wpList_buildSlice' rfl _ _ _ rfl rfl (int_one (s : Int) _) ?_)
  have hR0 : RchAt w (w2.alloc (.cells #[.int .i64 (s : Int)] 3)) N s (.slice (some ⟨w2.heap.size, 0, none⟩) 1 1) (fun j => j == s || false) [s] 1 none :=
    ⟨own_made1 w2 (.int .i64 (s : Int)) 3 (w.heap.size + 1) hs2, HS2.out.below ((Below.refl _ _).alloc (Nat.le_refl _) _), hu0, hini.out, hB2.alloc hB2.size _⟩
  have HR0 := Lib.hid hR0
  clear hR0
  go_loopg [6, 7, 9, 31, 32, 33] 100 (fun g todo _ _ _ _ _ wr => ∃ S L n, RchAt w wr N s todo S L n none ∧ 2 * unmN (pw N.n) S + L.length ≤ g ∧ 2 * unmN (pw N.n) S + L.length ≤ 100)
  case atStart =>
    have hu := unm_le (pw N.n) (fun j => j == s || false)
    have hfin : 2 * unmN (pw N.n) (fun j => j == s || false) + [s].length ≤ 100 := by rw [List.length_singleton]; omega
    exact ⟨_, _, 1, HR0.out, hfin, hfin⟩
  case round =>
    obtain ⟨S, L, n, hR, hg, hg100⟩ := hrel
    have HR := Lib.hid hR
    obtain ⟨a, cp, rfl, hcp, hI⟩ := intsAt_of_own hR.own
    rw [nats_length] at hcp ⊢
    have hWs := hR.below.size
    rcases List.eq_nil_or_concat L with rfl | ⟨L', t, rfl⟩
    · have Hend := Lib.hid (hR.inv.end')
      clear hR hI
      go_wp2_with fail
      go_ret
      exact ⟨HR.out.below, n, rfl, HR.out.set.congr fun i _ => Hend.out i⟩
    · obtain ⟨wo, rfl⟩ : ∃ wo : World, wo = wr := ⟨_, rfl⟩
      rw [List.concat_eq_append] at HR hR hI hcp hg hg100 ⊢
      have hpop := Lib.hid (hR.inv.pop)
      have htS := hR.inv.stack t (by simp)
      have htp := (hR.inv.only t htS).1
      obtain ⟨gt, cur, tt, rfl, hBg, hcur, hcs, hcells⟩ := hI.at' (by rw [nats_length]; simp)
      have hcell : wo.cell? ⟨gt, L'.length, none⟩ = some (.int .i64 (t : Int)) := by
        rw [cell_of_row wo _ _ _ _ _ hcur, hcells L'.length (by rw [nats_length]; simp)]
        simp [nats]
      have hgw := block_lt hcur
      have hel : (nats (L' ++ [t])).length = L'.length + 1 := by simp [nats]
      rw [List.length_append, List.length_singleton] at hcp hg hg100 ⊢
      have cN := Lib.hid (next_any b cap t N hn htp wo (Hat.out.below hR.below hb) (Nat.lt_of_lt_of_le hb hWs))
      have hlen0 : L'.length ≤ 100 := by omega
      have hR1 : RchAt w wo N s (.slice (some ⟨gt, 0, none⟩) L'.length cp) S L' n (some (t, 0)) := ⟨own_pop (t := t) (by rw [← hel]; exact hR.own), hR.set, hR.room, hpop.out, hR.below⟩
      have HR1 := Lib.hid hR1
      have hnl := nextTo_length N t N.n
      have ei : (((L'.length + 1 : Nat) : Int) - 1) = (L'.length : Int) := by omega
      clear hR hI hcells hcur htS hpop hR1
      go_wp2_with fail
      refine cN.out.mono ?_
      rintro e w3 ⟨hW3, a2, c2, rfl, hI2⟩
      have HR3 := Lib.hid (HR1.out.step hW3)
      have hws3 := hW3.size
      have hbm : w.heap.size < wo.heap.size := HR1.out.set.lt
      have hgne : 0 < (nextL N t).length → ∀ q, a2 = some ⟨q, 0, none⟩ → wo.heap.size ≤ q ∧ q < w3.heap.size := fun h0 q e => by
        obtain ⟨q', _, _, e1, h1, _⟩ := hI2.at' (by rw [nats_length]; exact h0)
        have h2 := hI2.lt (by rw [nats_length]; exact h0) q e
        rw [e] at e1; cases e1
        exact ⟨h1, h2⟩
      have HI2 := Lib.hid hI2
      have Hgne := Lib.hid hgne
      have hnl5 : (nextL N t).length ≤ 5 := Nat.le_trans hnl hn
      have hntp := Lib.hid (fun u (hu : u ∈ nextL N t) => nextL_lt htp hu)
      clear hI2 hgne hnl
      go_wp2_with fail
      go_loopw [6, 9, 33] (fun todo _ i wr => ∃ (m : Nat) (S' : Nat → Bool) (M : List Nat) (n' : Nat), m ≤ (nextL N t).length ∧ i = .int .i64 m ∧ RchAt w wr N s todo S' M n' (some (t, m)) ∧ 2 * unmN (pw N.n) S' + M.length ≤ 2 * unmN (pw N.n) S + L'.length ∧ IntsAt wr wo.heap.size a2 (nats (nextL N t)) ∧ (0 < (nextL N t).length → ∀ q, a2 = some ⟨q, 0, none⟩ → todo.ownBlock ≠ some q)) (fun _ _ i _ => (nextL N t).length - (intOf i).toNat)
      case atStart => exact ⟨0, S, L', n, Nat.zero_le _, rfl, HR3.out, Nat.le_refl _, HI2.out, fun h0 q e => by
        have := Hgne.out h0 q e
        intro e2
        have e3 : gt = q := Option.some.inj e2
        omega⟩
      case round =>
        obtain ⟨m, S', M, n', hm, rfl, hR4, hle, hI4, hne⟩ := hrel
        have HR4 := Lib.hid hR4
        have HI4 := Lib.hid hI4
        have Hne := Lib.hid hne
        have hWs4 := hR4.below.size
        have hroom := hR4.room
        by_cases hlt : m < (nextL N t).length
        · obtain ⟨q, cur4, t4, rfl, hq, hcur4, hcs4, hcells4⟩ := hI4.at' (by rw [nats_length]; omega)
          have hcell4 : wr.cell? ⟨q, m, none⟩ = some (.int .i64 (((nextL N t)[m] : Nat) : Int)) := by
            rw [cell_of_row wr _ _ _ _ _ hcur4, hcells4 m (by rw [nats_length]; exact hlt)]
            simp [nats]
          have hup := hntp.out _ (List.getElem_mem hlt)
          have hskip := Lib.hid (fun h : S' (nextL N t)[m] = true => hR4.inv.skip hlt h)
          have hpush := Lib.hid (hR4.inv.push hlt)
          have hunm := Lib.hid (fun h : S' (nextL N t)[m] = false => unm_put hup h)
          have hqw := block_lt hcur4
          have hne4 := hne (by omega) q rfl
          obtain ⟨u, hu⟩ : ∃ u, (nextL N t)[m] = u := ⟨_, rfl⟩
          rw [hu] at hcell4 hup hskip hpush hunm
          have Hcur4 := Lib.hid hcur4
          have hML : M.length ≤ 100 := by omega
          clear hR4 hI4 hne hcells4 hcur4 hu
          cases hSu : S' u
          · have hun := hunm.out hSu
            have hsb : S' u = false := hSu
            have Hpush := Lib.hid hpush.out
            have HSu := Lib.hid hSu
            have Hset := Lib.hid HR4.out.set
            have hlook : ∀ {ops : Array Oper} {rest : List Oper} {o : Oper} {a : Act} {Q : Exit → Act → World → Prop} (hg : o.guard = none) (m x : Operand) (hop : o.op = Op.lookup 93 m x false) (hm : a.eval m = .map (some w.heap.size)) (hx : a.eval x = .int .i64 (u : Int)) (hK : wpList Tryz.prog ops Q rest (a.put o.dst (.bool false)) wr), wpList Tryz.prog ops Q (o :: rest) a wr := fun hg m x hop hm hx hK => wpList_lookup_setM wr hg m x hop w.heap.size n' S' hm Hset.out u (by omega) hx (by rw [HSu.out]; exact hK)
            have Hlook := @hlook
            clear hlook hSu hsb
            have hlM : (nats M).length ≤ 4000000 := by rw [nats_length]; omega
            have Hbelow := Lib.hid HR4.out.below
            have hbq : w.heap.size ≠ q := by have := Hset.out.lt; omega
            go_wp2_with (first
              | (at_lookup; refine Hlook rfl _ _ rfl rfl rfl ?_)
              | (at_mapUpdate; refine wpList_mapUpdate_setM _ rfl _ _ _ rfl w.heap.size n' S' rfl Hset.out (by omega) u (by omega) rfl rfl ?_; intro w5 hS5 hg5)
              | ((with_reducible show wpList _ _ _ (⟨_, .buildSlice 27 1 _, _, _, _, _⟩ :: _) _ _); refine wpList_buildSlice' rfl _ _ _ rfl rfl (int_one (u : Int) _) ?_)
              | (at_builtin; refine wpList_int_appendK rfl _ _ rfl (w.heap.size + 1) _ (nats M) rfl (((own_grown HR4.out.own hg5 (fun q hq => by intro e; have := own_ge HR4.out.own hq; cases e; omega)).alloc _)) _ _ rfl (cell_new ?_) (by omega) ((Hbelow.out.grown hg5 (by omega) (fun q hq => by cases hq; exact Nat.le_refl _)).alloc (by have := hg5.size; omega) _) ?_ ?_ ?_))
            · rfl
            · omega
            · have := hg5.size; simp; omega
            · intro v' w6 hown6 hB6 hstay
              have hs5 := hg5.size
              have hq5 : w5.heap[q]? = wr.heap[q]? := hg5.block q hqw (fun e => hbq (Option.some.inj e).symm)
              obtain ⟨k1, k2⟩ := hstay q (by first | omega | (simp; omega)) hne4
              have hq6 : w6.heap[q]? = wr.heap[q]? := k1.trans ((Below.heap_alloc _ _ _ (by omega)).trans hq5)
              have hbm6 : w6.heap[w.heap.size]? = w5.heap[w.heap.size]? := by
                have hblt := Hset.out.lt
                obtain ⟨k3, _⟩ := hstay w.heap.size (by first | omega | (simp; omega)) (fun e => by have := own_ge HR4.out.own e; omega)
                exact k3.trans (Below.heap_alloc _ _ _ (by omega))
              have Hfin := Lib.hid (show RchAt w w6 N s v' (fun j => j == u || S' j) (M ++ [u]) (n' + 1) (some (t, m + 1)) from
                ⟨by rw [nats_snoc, List.length_append]; exact hown6, hS5.same hbm6, by omega, Hpush.out, hB6⟩)
              have HI6 := Lib.hid (HI4.out.same (w' := w6) fun _ q' e => by cases e; exact hq6)
              have Hk2 := Lib.hid (show 0 < (nextL N t).length → ∀ q', some (⟨q, 0, none⟩ : Addr) = some ⟨q', 0, none⟩ → v'.ownBlock ≠ some q' from fun _ q' e => by cases e; exact k2)
              clear hown6 hB6 hstay k1 k2 hq5 hq6 hbm6 hS5 hg5
              go_wp2_with fail
              go_roundw
              case rel => exact ⟨m + 1, _, _, n' + 1, by omega, by go_num, Hfin.out, by rw [List.length_append, List.length_singleton]; omega, HI6.out, Hk2.out⟩
              case measure => simp [intOf] <;> omega
          · have Hsk := Lib.hid (hskip.out hSu)
            have Hset := Lib.hid HR4.out.set
            have HSu := Lib.hid hSu
            have hlook : ∀ {ops : Array Oper} {rest : List Oper} {o : Oper} {a : Act} {Q : Exit → Act → World → Prop} (hg : o.guard = none) (m x : Operand) (hop : o.op = Op.lookup 93 m x false) (hm : a.eval m = .map (some w.heap.size)) (hx : a.eval x = .int .i64 (u : Int)) (hK : wpList Tryz.prog ops Q rest (a.put o.dst (.bool true)) wr), wpList Tryz.prog ops Q (o :: rest) a wr := fun hg m x hop hm hx hK => wpList_lookup_setM wr hg m x hop w.heap.size n' S' hm Hset.out u (by omega) hx (by rw [HSu.out]; exact hK)
            have Hlook := @hlook
            clear hlook hSu
            go_wp2_with (at_lookup; refine Hlook rfl _ _ rfl rfl rfl ?_)
            go_roundw
            case rel => exact ⟨m + 1, S', M, n', by omega, by go_num, ⟨HR4.out.own, HR4.out.set, HR4.out.room, Hsk.out, HR4.out.below⟩, hle, HI4.out, Hne.out⟩
            case measure => simp [intOf] <;> omega
        · obtain rfl : m = (nextL N t).length := by omega
          have Hcl := Lib.hid (hR4.inv.close (Nat.le_refl _))
          clear hR4 hI4 hne
          go_wp2_with fail
          go_roundg (2 * unmN (pw N.n) S' + M.length)
          case measure => omega
          case rel => exact ⟨S', M, n', ⟨HR4.out.own, HR4.out.set, HR4.out.room, Hcl.out, HR4.out.below⟩, Nat.le_refl _, by omega⟩
end Go.Proofs.YtkfagolmpbbckaaGreatDoor
namespace Go.Proofs.YtkfagolmpbbckaaGreatDoor
open Go Go.RowKit Go.Sw
set_option maxRecDepth 100000
set_option linter.unusedVariables false

set_option maxHeartbeats 1000000 in
theorem steady_any (b cap s : Nat) (N : Net) (hn : N.n ≤ 5) (hs : s < pw N.n) (w : World) (hat : NetAt w b N.n N.f) (hb : b < w.heap.size) :
    Calls Tryz.prog 85 #[.slice (some ⟨b, 0, none⟩) N.n cap, .int .i64 s] w fun e w' => Below w.heap.size w w' ∧ e = .returned (.bool (steadyB N s)) := by
  have Hat := Lib.hid hat
  have hpw := pw_le hn
  have cR := Lib.hid (reach_any b cap s N hn hs w hat hb)
  have hno := Lib.hid (fun t (h1 : arB N s t = true) (h2 : arB N t s = false) => show steadyB N s = false from by
    cases e : steadyB N s with
    | false => rfl
    | true =>
      have := arB_iff.2 ((steadyB_iff hs).1 e t (arB_iff.1 h1))
      rw [h2] at this; cases this)
  have hyes := Lib.hid (fun (h : ∀ t, t < 32 → arB N s t = true → arB N t s = true) => show steadyB N s = true from (steadyB_iff hs).2 fun t ht => arB_iff.1 (h t (by have := ht.lt hs; omega) (arB_iff.2 ht)))
  have hlt32 := Lib.hid (fun t (h : arB N s t = true) => (arB_iff.1 h).lt hs)
  obtain ⟨S, hS⟩ : ∃ S : Nat → Bool, arB N s = S := ⟨_, rfl⟩
  rw [hS] at cR
  simp only [hS] at hno hyes hlt32
  clear hat hS
  go_enter Tryz.func85, Tryz.ntmps85
  go_wp2_with fail
  refine cR.out.mono ?_
  rintro e w1 ⟨hW1, n, rfl, hM⟩
  have HM := Lib.hid hM
  have hlt1 := hM.lt
  clear hM
  go_wp2_with (at_range; refine wpList_range_setM _ rfl _ rfl w.heap.size n S rfl HM.out ?_; intro w2 hR2 hg2 hs2)
  have hB2 : Below w.heap.size w w2 := hW1.grown hg2 (by omega) (fun q hq => by cases hq)
  have HR2 := Lib.hid hR2
  clear hR2 hg2
  go_frame
  go_loopw [5] (fun _ wr => ∃ left : Nat → Bool, RngM wr w.heap.size w1.heap.size n S left ∧ Below w.heap.size w wr ∧ ∀ t, t < 32 → S t = true → left t = false → arB N t s = true) (fun _ wr => wr.rangeLeft w.heap.size w1.heap.size)
  case atStart => exact ⟨S, HR2.out, hB2, fun t _ h1 h2 => by rw [h1] at h2; cases h2⟩
  case round =>
    obtain ⟨left, hR, hW, hinv⟩ := hrel
    have HR := Lib.hid hR
    have Hinv := Lib.hid hinv
    have hWs := hW.size
    clear hR hinv
    go_wp2_with (at_next; refine wpList_next_setM _ rfl _ rfl w.heap.size w1.heap.size n S left rfl HR.out ?_ ?_)
    · intro hdone
      have Hr := Lib.hid (hyes.out fun t ht hSt => Hinv.out t ht hSt (hdone t ht))
      clear hdone
      go_wp2_with fail
      go_ret
      exact ⟨hW, by rw [Hr.out]; rfl⟩
    · intro i w3 hi hleft hSi hR3 hlt3 hg3 hs3 hen
      have hip := hlt32.out i hSi
      have hrr := HR.out.lt
      have hB3 : Below w.heap.size w w3 := hW.grown hg3 (by omega) (fun q hq => by cases hq; have := hW1.size; omega)
      have cR3 := Lib.hid (reach_any b cap i N hn hip w3 (Hat.out.below hB3 hb) (Nat.lt_of_lt_of_le hb hB3.size))
      have HR3 := Lib.hid hR3
      have Hen := Lib.hid hen
      have hlo := Lib.hid hlt3
      clear hR3 hlt3 hg3
      go_wp2_with fail
      refine cR3.out.mono ?_
      rintro e w4 ⟨hW4, n4, rfl, hM4⟩
      rw [hs3] at hM4
      have HM4 := Lib.hid hM4
      obtain ⟨hR4, hl4⟩ := HR3.out.below hW4
      have HR4 := Lib.hid hR4
      have hB4 := hB3.trans (hW4.mono hB3.size)
      have hml : w4.rangeLeft w.heap.size w1.heap.size < wr.rangeLeft w.heap.size w1.heap.size := by rw [hl4]; exact hlo.out
      have Hml := Lib.hid hml
      clear hM4 hR4 hl4 hml
      cases hv : arB N i s
      · have Hno := Lib.hid (hno.out i hSi hv)
        have Hv := Lib.hid hv
        clear hv
        go_wp2_with (at_lookup; refine wpList_lookup_setM _ rfl _ _ rfl wr.heap.size n4 (arB N i) rfl HM4.out s (by omega) rfl ?_; rw [Hv.out])
        go_ret
        exact ⟨hB4, by rw [Hno.out]; rfl⟩
      · have Hv := Lib.hid hv
        clear hv
        go_wp2_with (at_lookup; refine wpList_lookup_setM _ rfl _ _ rfl wr.heap.size n4 (arB N i) rfl HM4.out s (by omega) rfl ?_; rw [Hv.out])
        go_roundw
        case rel => exact ⟨_, HR4.out, hB4, fun t ht h1 h2 => by
          by_cases e : t = i
          · subst e; exact Hv.out
          · exact Hinv.out t ht h1 (by simpa [e] using h2)⟩
        case measure => exact Hml.out
theorem which_any (b cap : Nat) (N : Net) (hn : N.n ≤ 5) (k : Nat) (cap2 : Array Value) (p : Nat → Bool) (w : World)
    (hk : ∀ args w, (callFunc k args).run Tryz.prog w = .ok (.enter k args) w)
    (hcl : ∀ (s : Nat) (wx : World), s < pw N.n → Below w.heap.size w wx → Calls Tryz.prog k (#[.int .i64 s] ++ cap2) wx fun e w' => Below wx.heap.size wx w' ∧ e = .returned (.bool (p s))) :
    Calls Tryz.prog 87 #[.slice (some ⟨b, 0, none⟩) N.n cap, .func (.func k) #[] cap2] w fun e w' => Below w.heap.size w w' ∧ ∃ a c, e = .returned (.slice a (pickL p (pw N.n)).length c) ∧ IntsAt w' w.heap.size a (nats (pickL p (pw N.n))) := by
  have Hcl := Lib.hid hcl
  have hpw := pw_le hn
  clear hcl
  go_enter Tryz.func87, Tryz.ntmps87
  go_wp2_with (go_at_call 51; refine (states_any _ _ _ hn _).mono ?_; rintro e w' ⟨rfl, rfl⟩)
  go_loopw [5, 6, 9] (fun out _ i wr => ∃ m : Nat, m ≤ pw N.n ∧ i = .int .i64 m ∧ wr.ownsRow w.heap.size 3 1 out (nats (pickL p m)).length (ints (nats (pickL p m))) ∧ Below w.heap.size w wr) (fun _ _ i _ => pw N.n - (intOf i).toNat)
  case atStart => exact ⟨0, Nat.zero_le _, rfl, World.ownsRow_nil _ _ _ _, Below.refl _ _⟩
  case round =>
    obtain ⟨m, hm, rfl, hown, hW⟩ := hrel
    have Hown := Lib.hid hown
    have hlk := pickL_length p m
    have hWs := hW.size
    clear hown
    by_cases hlt : m < pw N.n
    · have c5 := Hcl.out m wr hlt hW
      have hsuc : pickL p (m + 1) = if p m then pickL p m ++ [m] else pickL p m := rfl
      obtain ⟨ps, hps⟩ : ∃ ps, pickL p m = ps := ⟨_, rfl⟩
      rw [hps] at hsuc Hown hlk
      have hpl : (nats ps).length ≤ 32 := by rw [nats_length]; omega
      clear hps
      cases hp : p m <;> rw [hp] at c5 hsuc
      · have C5 := Lib.hid c5
        have Hs := Lib.hid (show pickL p (m + 1) = ps from hsuc)
        clear c5 hsuc hp
        go_wp2_with fail
        refine C5.out.mono ?_
        rintro e w2 ⟨hW2, rfl⟩
        have Hown2 := Lib.hid (own_below Hown.out hW2)
        have hW3 := hW.trans (hW2.mono hWs)
        go_wp2_with fail
        go_roundw
        case rel => exact ⟨m + 1, by omega, by go_num, by rw [Hs.out]; exact Hown2.out, hW3⟩
        case measure => simp [intOf] <;> omega
      · have C5 := Lib.hid c5
        have Hs := Lib.hid (show pickL p (m + 1) = ps ++ [m] from hsuc)
        clear c5 hsuc hp
        go_wp2_with fail
        refine C5.out.mono ?_
        rintro e w2 ⟨hW2, rfl⟩
        have Hown2 := Lib.hid (own_below Hown.out hW2)
        have hW3 := hW.trans (hW2.mono hWs)
        have hs3 := hW3.size
        go_wp2_with (first | ((with_reducible show wpList _ _ _ (⟨_, .buildSlice 27 1 _, _, _, _, _⟩ :: _) _ _); refine wpList_buildSlice' rfl _ _ _ rfl rfl (int_one (m : Int) _) ?_) | (at_builtin; refine wpList_int_append rfl _ _ rfl w.heap.size _ (nats ps) rfl ((Hown2.out.alloc _)) _ _ rfl (cell_new ?_) (by omega) (hW3.alloc (by omega) _) ?_ ?_ ?_))
        · rfl
        · exact Nat.le_refl _
        · first | omega | (simp; omega)
        · intro v' w4 hown4 hB4
          have hown5 : w4.ownsRow w.heap.size 3 1 v' (nats (pickL p (m + 1))).length (ints (nats (pickL p (m + 1)))) := by
            rw [Hs.out, nats_snoc, List.length_append]; exact hown4
          have Hown4 := Lib.hid hown5
          have HB4 := Lib.hid hB4
          clear hown4 hown5 hB4
          go_wp2_with fail
          go_roundw
          case rel => exact ⟨m + 1, by omega, by go_num, Hown4.out, HB4.out⟩
          case measure => simp [intOf] <;> omega
    · obtain rfl : m = pw N.n := by omega
      obtain ⟨a, cp, rfl, hcp, hI⟩ := intsAt_of_own Hown.out
      have HI := Lib.hid hI
      have ha : 0 < (nats (pickL p (pw N.n))).length → ∃ g, a = some ⟨g, 0, none⟩ := fun h0 => by
        obtain ⟨g, _, _, h1, _⟩ := hI.at' h0
        exact ⟨g, h1⟩
      have C := Lib.hid (fun wx => clip_any a (nats (pickL p (pw N.n))).length cp ha hcp (by rw [nats_length]; omega) wx)
      clear hI ha
      rw [nats_length] at C ⊢
      go_wp2_with fail
      refine (C.out _).mono ?_
      rintro e w' ⟨rfl, rfl⟩
      go_wp2_with fail
      go_ret
      exact ⟨hW, a, _, rfl, HI.out⟩
theorem attractors1_any (bv bm n s : Nat) (S : Nat → Bool) (hs : s < 32) (w : World) (hbv : bv < w.heap.size) (hc : w.cell? ⟨bv, 0, none⟩ = some (.map (some bm))) (hM : SetM w bm n S) :
    Calls Tryz.prog 88 #[.int .i64 s, .pointer (some ⟨bv, 0, none⟩)] w fun e w' => Below w.heap.size w w' ∧ e = .returned (.bool (S s)) := by
  have HM := Lib.hid hM
  clear hM
  go_enter Tryz.func88, Tryz.ntmps88
  go_wp2_with (at_lookup; refine wpList_lookup_setM _ rfl _ _ rfl bm n S rfl HM.out s hs rfl ?_)
  go_ret
  exact ⟨Below.refl _ _, rfl⟩
end Go.Proofs.YtkfagolmpbbckaaGreatDoor
namespace Go.Proofs.YtkfagolmpbbckaaGreatDoor
open Go Go.RowKit Go.Sw
set_option maxRecDepth 100000
set_option linter.unusedVariables false

def doneAt (N : Net) (k i : Nat) : Prop := ∃ s, s < k ∧ leastB N s = true ∧ AR N s i
theorem done_skip {N : Net} {k : Nat} (hk : k < pw N.n) (h : doneAt N k k) : leastB N k = false := by
  cases e : leastB N k with
  | false => rfl
  | true => rw [(done_iff hk (leastB_iff.1 e).1).1 h] at e; cases e
theorem done_least {N : Net} {k : Nat} (hk : k < pw N.n) (h : ¬ doneAt N k k) (hs : steadyB N k = true) : leastB N k = true := by
  cases e : leastB N k with
  | true => rfl
  | false => exact absurd ((done_iff hk hs).2 e) h
theorem done_no {N : Net} {k : Nat} (hl : leastB N k = false) (i : Nat) : doneAt N (k + 1) i ↔ doneAt N k i := by
  constructor
  · rintro ⟨s, h1, h2, h3⟩
    by_cases e : s = k
    · subst e; rw [hl] at h2; cases h2
    · exact ⟨s, by omega, h2, h3⟩
  · rintro ⟨s, h1, h2, h3⟩; exact ⟨s, by omega, h2, h3⟩
theorem done_yes {N : Net} {k : Nat} (hl : leastB N k = true) (i : Nat) : doneAt N (k + 1) i ↔ doneAt N k i ∨ AR N k i := by
  constructor
  · rintro ⟨s, h1, h2, h3⟩
    by_cases e : s = k
    · subst e; exact .inr h3
    · exact .inl ⟨s, by omega, h2, h3⟩
  · rintro (⟨s, h1, h2, h3⟩ | h)
    · exact ⟨s, by omega, h2, h3⟩
    · exact ⟨k, by omega, hl, h⟩
noncomputable def attTo (N : Net) (k : Nat) : List (List Nat) := (pickL (leastB N) k).map (stR N)
theorem attTo_no {N : Net} {k : Nat} (hl : leastB N k = false) : attTo N (k + 1) = attTo N k := by unfold attTo; rw [pickL, if_neg (by simp [hl])]
theorem attTo_yes {N : Net} {k : Nat} (hl : leastB N k = true) : attTo N (k + 1) = attTo N k ++ [stR N k] := by unfold attTo; rw [pickL, if_pos hl]; simp
theorem attTo_length (N : Net) (k : Nat) : (attTo N k).length ≤ k := by unfold attTo; rw [List.length_map]; exact pickL_length _ _
theorem attTo_all (N : Net) : attTo N (pw N.n) = attL N := rfl

theorem intss_row : (Tryz.prog.info? 27).map (fun i => (i.zero, i.size, i.bytes)) = some (some (.slice none 0 0), 1, 24) := by kernel_rfl
theorem intss_one (a : Option Addr) (n c : Nat) (w : World) : (Instr.buildSlice 29 1 [(0, .slice a n c)].toArray).run Tryz.prog w =
    .ok (.slice (some ⟨w.heap.size, 0, none⟩) 1 1) (w.alloc (.cells #[.slice a n c] 27)) := by kernel_rfl
structure RowsAt (w : World) (base : Nat) (out : Value) (Ls : List (List Nat)) (vs : List Value) : Prop where
  own : w.ownsRow base 27 1 out vs.length vs
  len : vs.length = Ls.length
  each : ∀ j (h : j < Ls.length), ∃ a c, vs[j]? = some (.slice a Ls[j].length c) ∧ IntsAt w base a (nats Ls[j]) ∧ (0 < Ls[j].length → ∀ q, a = some ⟨q, 0, none⟩ → out.ownBlock ≠ some q)
theorem RowsAt.below {w w' : World} {base : Nat} {out : Value} {Ls : List (List Nat)} {vs : List Value} (h : RowsAt w base out Ls vs) (hb : Below w.heap.size w w') : RowsAt w' base out Ls vs :=
  ⟨own_below h.own hb, h.len, fun j hj => by
    obtain ⟨a, c, e1, e2, e3⟩ := h.each j hj
    exact ⟨a, c, e1, e2.below hb, e3⟩⟩
theorem RowsAt.same {w w' : World} {base : Nat} {out : Value} {Ls : List (List Nat)} {vs : List Value} (h : RowsAt w base out Ls vs) (hs : ∀ q, base ≤ q → q < w.heap.size → w'.heap[q]? = w.heap[q]?) : RowsAt w' base out Ls vs :=
  ⟨own_same h.own fun q hq => hs q (own_ge h.own hq) (own_blt h.own hq), h.len, fun j hj => by
    obtain ⟨a, c, e1, e2, e3⟩ := h.each j hj
    refine ⟨a, c, e1, e2.same fun h0 g hga => ?_, e3⟩
    have hl := e2.lt h0 g hga
    obtain ⟨g', _, _, k1, k2, _⟩ := e2.at' h0
    rw [hga] at k1; cases k1
    exact hs g k2 hl⟩
theorem RowsAt.more {w w' : World} {base : Nat} {out out' : Value} {Ls : List (List Nat)} {vs : List Value} {L : List Nat} {a : Option Addr} {c : Nat} (h : RowsAt w base out Ls vs) (hI : IntsAt w base a (nats L))
    (hne : 0 < L.length → ∀ q, a = some ⟨q, 0, none⟩ → out.ownBlock ≠ some q) (hg : w.grownBy w' out.ownBlock) (hown : w'.ownsRow base 27 1 out' (vs.length + 1) (vs ++ [.slice a L.length c])) (hat : out'.ownBlock = out.ownBlock ∨ out'.ownBlock = some w.heap.size) :
    RowsAt w' base out' (Ls ++ [L]) (vs ++ [.slice a L.length c]) := by
  have key : ∀ (M : List Nat) (x : Option Addr), IntsAt w base x (nats M) → (0 < M.length → ∀ q, x = some ⟨q, 0, none⟩ → out.ownBlock ≠ some q) → IntsAt w' base x (nats M) ∧ (0 < M.length → ∀ q, x = some ⟨q, 0, none⟩ → out'.ownBlock ≠ some q) := by
    intro M x hx hn
    refine ⟨hx.same fun h0 g hga => hg.block g (hx.lt h0 g hga) fun e => hn (by simpa [nats_length] using h0) g hga e.symm, fun h0 q hq e => ?_⟩
    rcases hat with k | k
    · exact hn h0 q hq (k.symm.trans e)
    · have := hx.lt (by rw [nats_length]; exact h0) q hq
      rw [k] at e
      have := Option.some.inj e
      omega
  refine ⟨by rw [List.length_append]; exact hown, by simp [h.len], fun j hj => ?_⟩
  by_cases e : j < Ls.length
  · obtain ⟨x, d, e1, e2, e3⟩ := h.each j e
    obtain ⟨k1, k2⟩ := key _ _ e2 e3
    have e4 : (Ls ++ [L])[j] = Ls[j] := List.getElem_append_left e
    rw [e4]
    exact ⟨x, d, by rw [List.getElem?_append_left (by rw [h.len]; exact e)]; exact e1, k1, k2⟩
  · have hj' : j = Ls.length := by simp at hj; omega
    subst hj'
    obtain ⟨k1, k2⟩ := key _ _ hI hne
    have e4 : (Ls ++ [L])[Ls.length] = L := by simp
    rw [e4]
    exact ⟨a, c, by rw [← h.len]; simp, k1, k2⟩
theorem RowsAt.mono {w : World} {base base' : Nat} {out : Value} {Ls : List (List Nat)} {vs : List Value} (h : RowsAt w base out Ls vs) (hb : base' ≤ base) : RowsAt w base' out Ls vs := by
  refine ⟨⟨h.own.1, ?_⟩, h.len, fun j hj => by
    obtain ⟨a, c, e1, e2, e3⟩ := h.each j hj
    exact ⟨a, c, e1, e2.mono hb, e3⟩⟩
  rcases h.own.2 with h0 | ⟨g, cap, cur, h1, h2, h3⟩
  · exact .inl h0
  · exact .inr ⟨g, cap, cur, h1, by omega, h3⟩
theorem RngM.grown {w w' : World} {b r n : Nat} {row : Option Nat} {S left : Nat → Bool} (h : RngM w b r n S left) (hg : w.grownBy w' row) (h1 : some b ≠ row) (h2 : some r ≠ row) : RngM w' b r n S left ∧ w'.rangeLeft b r = w.rangeLeft b r := by
  obtain ⟨D, lf, cnt, k1, k2, k3, k4⟩ := h
  have hk := k1.kept hg h1 h2
  exact ⟨⟨D, lf, cnt, hk, k2, k3, k4⟩, by rw [hk.left_eq, k1.left_eq]⟩
/-- the inner loop: the map in block bm is ranged over (iterator br), its numbers are put into the map in block w.heap.size; all else stays -/
structure InnAt (w w4 wr : World) (bm br nS n n' : Nat) (D S left : Nat → Bool) : Prop where
  rng : RngM wr bm br nS S left
  set : SetM wr w.heap.size n' (fun i => D i || (S i && !left i))
  room : n' + unmN 32 (fun j => !left j) ≤ n + 32
  below : Below w.heap.size w wr
  kept : ∀ q, q < w4.heap.size → q ≠ w.heap.size → q ≠ br → wr.heap[q]? = w4.heap[q]?
  size : w4.heap.size ≤ wr.heap.size
theorem InnAt.put {w w4 wr w5 w6 : World} {bm br nS n n' i : Nat} {D S left : Nat → Bool} (h : InnAt w w4 wr bm br nS n n' D S left) (hi : i < 32) (hl : left i = true) (hS : S i = true) (hg5 : wr.grownBy w5 (some br)) (hR5 : RngM w5 bm br nS S (fun j => left j && !(j == i)))
    (hg6 : w5.grownBy w6 (some w.heap.size)) (hS6 : SetM w6 w.heap.size (n' + 1) (fun j => j == i || (D j || (S j && !left j)))) (h1 : w.heap.size < bm) (h2 : w.heap.size < br) : InnAt w w4 w6 bm br nS n (n' + 1) D S (fun j => left j && !(j == i)) := by
  refine ⟨(hR5.grown hg6 (fun e => by have := Option.some.inj e; omega) (fun e => by have := Option.some.inj e; omega)).1, hS6.congr fun j _ => ?_, ?_, ?_, fun q hq k1 k2 => ?_, ?_⟩
  · by_cases e : j = i
    · subst e; simp [hS]
    · have e2 : (j == i) = false := by simp [e]
      rw [e2]; simp
  · have := unm_put (n := 32) (S := fun j => !left j) hi (by simp [hl])
    have e : unmN 32 (fun j => !(left j && !(j == i))) = unmN 32 (fun j => j == i || !left j) := by
      unfold unmN
      exact congrArg List.length (pickL_congr fun j _ => by show (!(!(left j && !(j == i)))) = (!(j == i || !left j)); cases left j <;> cases (j == i) <;> rfl)
    have := h.room
    rw [e]; omega
  · refine (h.below.grown hg5 h.below.size (fun q hq => by cases hq; omega)).grown hg6 ?_ (fun q hq => by cases hq; exact Nat.le_refl _)
    have := hg5.size; have := h.below.size; omega
  · have hq' := h.size
    rw [hg6.block q (by have := hg5.size; omega) (fun e => k1 (Option.some.inj e)), hg5.block q (by omega) (fun e => k2 (Option.some.inj e))]
    exact h.kept q hq k1 k2
  · have := hg5.size; have := hg6.size; have := h.size; omega
structure AtrAt (w wr : World) (N : Net) (k : Nat) (out : Value) (n : Nat) (D : Nat → Bool) (vs : List Value) : Prop where
  rows : RowsAt wr (w.heap.size + 1) out (attTo N k) vs
  set : SetM wr w.heap.size n D
  room : n ≤ 32 * k
  done : ∀ i, i < 32 → (D i = true ↔ doneAt N k i)
  below : Below w.heap.size w wr
theorem AtrAt.step {w wr w' : World} {N : Net} {k n : Nat} {out : Value} {D : Nat → Bool} {vs : List Value} (h : AtrAt w wr N k out n D vs) (hb : Below wr.heap.size wr w') : AtrAt w w' N k out n D vs :=
  ⟨h.rows.below hb, h.set.below hb, h.room, h.done, h.below.trans (hb.mono h.below.size)⟩
theorem AtrAt.no {w wr : World} {N : Net} {k n : Nat} {out : Value} {D : Nat → Bool} {vs : List Value} (h : AtrAt w wr N k out n D vs) (hl : leastB N k = false) : AtrAt w wr N (k + 1) out n D vs :=
  ⟨by rw [attTo_no hl]; exact h.rows, h.set, by have := h.room; omega, fun i hi => (h.done i hi).trans (done_no hl i).symm, h.below⟩
theorem put_none' (a : Act) (v : Value) : a.put none v = a := rfl
set_option maxHeartbeats 2000000 in
theorem attractors_any (b cap : Nat) (N : Net) (hn : N.n ≤ 5) (w : World) (hat : NetAt w b N.n N.f) (hb : b < w.heap.size) :
    Calls Tryz.prog 44 #[.slice (some ⟨b, 0, none⟩) N.n cap] w fun e w' => Below w.heap.size w w' ∧ ∃ out vs, e = .returned out ∧ RowsAt w' w.heap.size out (attL N) vs := by
  have Hat := Lib.hid hat
  have hpw := pw_le hn
  have hmm := @run_makeMap Tryz.prog
  have hmade := Lib.hid (setM_made w)
  clear hat
  go_enter Tryz.func44, Tryz.ntmps44
  go_wp2_with (go_at_call 51; refine (states_any _ _ _ hn _).mono ?_; rintro e w' ⟨rfl, rfl⟩)
  go_loopw [3, 5, 6, 7, 11, 27] (fun out _ _ _ i _ wr => ∃ (k n : Nat) (D : Nat → Bool) (vs : List Value), k ≤ pw N.n ∧ i = .int .i64 k ∧ AtrAt w wr N k out n D vs) (fun _ _ _ _ i _ _ => pw N.n - (intOf i).toNat)
  case atStart =>
    exact ⟨0, 0, _, [], Nat.zero_le _, rfl, ⟨⟨World.ownsRow_nil _ _ _ _, rfl, fun j hj => by cases hj⟩, hmade.out, Nat.le_refl _, fun i _ => Iff.intro (fun h => by cases h) (fun h => by obtain ⟨s, h1, _⟩ := h; exact absurd h1 (Nat.not_lt_zero _)), (Below.refl _ _).alloc (Nat.le_refl _) _⟩⟩
  case round =>
    obtain ⟨k, n, D, vs, hk, rfl, hA⟩ := hrel
    obtain ⟨wo, rfl⟩ : ∃ wo : World, wo = wr := ⟨_, rfl⟩
    have HA := Lib.hid hA
    have Hset := Lib.hid hA.set
    have hWs := hA.below.size
    have hroom := hA.room
    by_cases hlt : k < pw N.n
    · have hdk := hA.done k (by omega)
      have hskip := Lib.hid (fun h : D k = true => done_skip hlt (hdk.1 h))
      have hleast := Lib.hid (fun h : D k = false => done_least hlt (fun h2 => by rw [hdk.2 h2] at h; cases h))
      have hnost := Lib.hid (fun h : steadyB N k = false => show leastB N k = false from by
        cases e : leastB N k with
        | false => rfl
        | true => rw [(leastB_iff.1 e).1] at h; cases h)
      clear hA hdk
      cases hD : D k
      · have cS := steady_any b cap k N hn hlt wo (Hat.out.below HA.out.below hb) (Nat.lt_of_lt_of_le hb hWs)
        have Hl := Lib.hid (hleast.out hD)
        have HD := Lib.hid hD
        clear hD
        cases hst : steadyB N k <;> rw [hst] at cS
        · have HnoL := Lib.hid (hnost.out hst)
          have CS := Lib.hid cS
          clear cS hst
          go_wp2_with (at_lookup; refine wpList_lookup_setM _ rfl _ _ rfl w.heap.size n D rfl Hset.out k (by omega) rfl ?_; rw [HD.out])
          refine CS.out.mono ?_
          rintro e w1 ⟨hW1, rfl⟩
          have HA1 := Lib.hid (HA.out.step hW1)
          go_wp2_with fail
          go_roundw
          case rel => exact ⟨k + 1, n, D, vs, by omega, by go_num, HA1.out.no HnoL.out⟩
          case measure => simp [intOf] <;> omega
        · have HL := Lib.hid (Hl.out hst)
          have CS := Lib.hid cS
          have hpk := stR_head hlt HL.out
          have hne0 : 0 < (stR N k).length := List.length_pos_iff.2 hpk.2
          clear cS hst hpk
          go_wp2_with (at_lookup; refine wpList_lookup_setM _ rfl _ _ rfl w.heap.size n D rfl Hset.out k (by omega) rfl ?_; rw [HD.out])
          refine CS.out.mono ?_
          rintro e w1 ⟨hW1, rfl⟩
          have HA1 := Lib.hid (HA.out.step hW1)
          have hWs1 := HA1.out.below.size
          have cR := Lib.hid (reach_any b cap k N hn hlt w1 (Hat.out.below HA1.out.below hb) (Nat.lt_of_lt_of_le hb hWs1))
          go_wp2_with fail
          refine cR.out.mono ?_
          rintro e w2 ⟨hW2, nS, rfl, hM⟩
          have HA2 := Lib.hid (HA1.out.step hW2)
          have HM := Lib.hid hM
          have hlt2 := hM.lt
          obtain ⟨S, hS⟩ : ∃ S : Nat → Bool, arB N k = S := ⟨_, rfl⟩
          rw [hS] at HM
          have hsd := Lib.hid (fun i => show S i = true ↔ AR N k i from by rw [← hS]; exact arB_iff)
          have hpk := Lib.hid (show pickL S (pw N.n) = stR N k from by rw [← hS]; rfl)
          have hS32 := Lib.hid (fun i (h : S i = true) => show i < 32 from by
            have := (hsd.out i).1 h
            have := this.lt hlt
            omega)
          have hlt0 := HA1.out.set.lt
          clear hM hS
          have hrg : (w2.alloc (.cells #[.map (some w1.heap.size)] 93)).heap.size = w2.heap.size + 1 := by simp
          go_wp2_with (at_range; refine wpList_range_setM _ rfl _ rfl w1.heap.size nS S rfl (HM.out.below ((Below.refl _ _).alloc (Nat.le_refl _) _)) ?_; intro w4 hR4 hg4 hs4; rw [hrg])
          rw [hrg] at hR4 hs4
          have hB4 : Below w2.heap.size w2 w4 := ((Below.refl _ _).alloc (Nat.le_refl _) _).grown hg4 (by omega) (fun q hq => by cases hq)
          have hW2s := hW2.size
          have hW1s := hW1.size
          have hB4o : Below wo.heap.size wo w4 := hW1.trans ((hW2.trans (hB4.mono hW2s)).mono hW1.size)
          have hA4 := HA.out.step hB4o
          have hcell : w4.cell? ⟨w2.heap.size, 0, none⟩ = some (.map (some w1.heap.size)) := by
            rw [World.cell?_of_block (w := w2.alloc (.cells #[.map (some w1.heap.size)] 93)) (a := ⟨w2.heap.size, 0, none⟩) (hg4.block w2.heap.size (by omega) (by simp)), cell_of_row _ _ 0 _ _ (0, 0) (heap_alloc_last _ _)]
            rfl
          have hM4 := HM.out.below hB4
          have HA4 := Lib.hid hA4
          have Hcell := Lib.hid hcell
          have HM4 := Lib.hid hM4
          have HR4 := Lib.hid hR4
          have HB4o := Lib.hid hB4o
          have hW4s := hB4o.size
          clear hrg hR4 hg4 hB4 hA4 hcell hM4 hB4o
          go_frame
          go_loopw [7] (fun _ wr => ∃ (left : Nat → Bool) (n' : Nat), InnAt w w4 wr w1.heap.size (w2.heap.size + 1) nS n n' D S left) (fun _ wr => wr.rangeLeft w1.heap.size (w2.heap.size + 1))
          case atStart =>
            refine ⟨S, n, HR4.out, HA4.out.set.congr fun i _ => by simp, ?_, HA4.out.below, fun _ _ _ _ => rfl, Nat.le_refl _⟩
            have := unm_le 32 (fun j => !S j)
            omega
          case round =>
            obtain ⟨left, n', hI⟩ := hrel
            have HI := Lib.hid hI
            have hroomI := hI.room
            have hsI := hI.size
            have Hrng := Lib.hid hI.rng
            clear hI
            go_wp2_with (at_next; refine wpList_next_setM _ rfl _ rfl w1.heap.size (w2.heap.size + 1) nS S left rfl Hrng.out ?_ ?_)
            · intro hdone
              have hset' := Lib.hid (HI.out.set.congr (T := fun i => D i || S i) fun i hi => by rw [hdone i hi]; simp)
              have hrows := HA.out.rows.same (w' := wr) fun q k1 k2 => by
                rw [HI.out.kept q (by omega) (by omega) (by omega)]
                exact HB4o.out.block q k2
              have hsrc := HM4.out.same (w' := wr) (HI.out.kept _ (by omega) (by omega) (by omega))
              have hvar : wr.cell? ⟨w2.heap.size, 0, none⟩ = some (.map (some w1.heap.size)) := by
                rw [World.cell?_of_block (w := w4) (a := ⟨w2.heap.size, 0, none⟩) (HI.out.kept w2.heap.size (by omega) (by omega) (by omega))]
                exact Hcell.out
              have hIb := HI.out.below
              have hIbs := hIb.size
              have cW := Lib.hid (which_any b cap N hn 88 #[.pointer (some ⟨w2.heap.size, 0, none⟩)] S wr (fun _ _ => rfl) (fun s wx hs hwx => by
                have hwxs := hwx.size
                exact attractors1_any w2.heap.size w1.heap.size nS s S (by omega) wx (by omega) (by rw [World.cell?_of_block (w := wr) (a := ⟨w2.heap.size, 0, none⟩) (hwx.block w2.heap.size (by omega))]; exact hvar) (hsrc.below hwx)))
              rw [hpk.out] at cW
              have Hrows := Lib.hid hrows
              have HIb := Lib.hid hIb
              clear hdone hrows hsrc hvar hIb
              go_wp2_with fail
              refine cW.out.mono ?_
              rintro e w7 ⟨hW7, a, c, rfl, hIa⟩
              have hRows7 := Hrows.out.below hW7
              have HRows := Lib.hid (hRows7.below ((Below.refl _ _).alloc (Nat.le_refl _) (.cells #[.slice a (stR N k).length c] 27)))
              have hW7s := hW7.size
              have hB7 : Below w.heap.size w w7 := HIb.out.trans (hW7.mono hIbs)
              have HIa := Lib.hid (((hIa.mono (B' := w.heap.size + 1) (by omega)).below ((Below.refl _ _).alloc (Nat.le_refl _) (.cells #[.slice a (stR N k).length c] 27))))
              have hneq := Lib.hid (fun (h0 : 0 < (stR N k).length) q (e : a = some (⟨q, 0, none⟩ : Addr)) => show u3.ownBlock ≠ some q from fun e2 => by
                obtain ⟨q', _, _, e1, h1, _⟩ := hIa.at' (by rw [nats_length]; exact h0)
                rw [e] at e1; cases e1
                have := own_blt Hrows.out.own e2
                omega)
              have HS7 := Lib.hid ((hset'.below hW7).below ((Below.refl _ _).alloc (Nat.le_refl _) (.cells #[.slice a (stR N k).length c] 27)))
              have hvl : vs.length ≤ 32 := by rw [HRows.out.len]; exact Nat.le_trans (attTo_length N k) (by omega)
              clear hRows7 hIa hset'
              go_wp2_with (first | ((with_reducible show wpList _ _ _ (⟨_, .buildSlice 29 _ _, _, _, _, _⟩ :: _) _ _); refine wpList_buildSlice' rfl _ _ _ rfl rfl (intss_one _ _ _ _) ?_) | (at_builtin; refine wpList_elem_append rfl _ _ 29 27 (.slice none 0 0) 1 24 intss_row rfl (by omega) (by omega) Tryz.underlying29 rfl (w.heap.size + 1) _ vs.length vs rfl HRows.out.own _ [.slice a (stR N k).length c] rfl rfl (range_one rfl) (by simp [Value.oneCell']) (by omega) (by simp; omega) ?_))
              intro ov w8 hown8 hg8 hat8
              have hsz7 : (w7.alloc (.cells #[.slice a (stR N k).length c] 27)).heap.size = w7.heap.size + 1 := by simp
              have hMore := HRows.out.more HIa.out hneq.out hg8 hown8 (hat8.imp id fun h => h.trans (by rw [hsz7]))
              have hS8 := HS7.out.same (w' := w8) (hg8.block _ (by omega) (fun e => by have := own_ge HRows.out.own e.symm; omega))
              have hB8 : Below w.heap.size w w8 := (hB7.alloc (by omega) _).grown hg8 (by omega) (fun z hz => by have := own_ge HRows.out.own hz; omega)
              have hdn := HA.out.done
              have HA8 := Lib.hid (show AtrAt w w8 N (k + 1) ov n' (fun i => D i || S i) (vs ++ [.slice a (stR N k).length c]) from
                ⟨by rw [attTo_yes HL.out]; exact hMore, hS8, by omega, fun i hi => by
                  rw [done_yes HL.out, Bool.or_eq_true, hdn i hi, hsd.out i], hB8⟩)
              clear hown8 hg8 hat8 hMore hS8 hB8 hdn
              go_wp2_with fail
              go_roundw
              case rel => exact ⟨k + 1, n', _, _, by omega, by go_num, HA8.out⟩
              case measure => simp [intOf] <;> omega
            · intro i w5 hi hleft hSi hR5 hlt5 hg5 hs5 hen
              have Hset5 := Lib.hid (HI.out.set.same (w' := w5) (hg5.block _ (by omega) (fun e => by have := Option.some.inj e; omega)))
              have HR5 := Lib.hid hR5
              have hlo := Lib.hid hlt5
              have Hg5 := Lib.hid hg5
              have Hleft := Lib.hid hleft
              have HSi := Lib.hid hSi
              clear hR5 hlt5 hg5 hleft hSi
              go_wp2_with (at_mapUpdate; refine wpList_mapUpdate_setM _ rfl _ _ _ rfl w.heap.size n' _ rfl Hset5.out (by omega) i hi rfl rfl ?_; intro w6 hS6 hg6; rw [put_none'])
              have Hput := Lib.hid (HI.out.put hi Hleft.out HSi.out Hg5.out HR5.out hg6 hS6 (by omega) (by omega))
              have hl6 := (HR5.out.grown hg6 (fun e => by have := Option.some.inj e; omega) (fun e => by have := Option.some.inj e; omega)).2
              have Hml := Lib.hid (show w6.rangeLeft w1.heap.size (w2.heap.size + 1) < wr.rangeLeft w1.heap.size (w2.heap.size + 1) from by rw [hl6]; exact hlo.out)
              clear hS6 hg6 hl6
              go_roundw
              case rel => exact ⟨_, n' + 1, Hput.out⟩
              case measure => exact Hml.out
      · have HnoL := Lib.hid (hskip.out hD)
        have HD := Lib.hid hD
        clear hD
        go_wp2_with (at_lookup; refine wpList_lookup_setM _ rfl _ _ rfl w.heap.size n D rfl Hset.out k (by omega) rfl ?_; rw [HD.out])
        go_roundw
        case rel => exact ⟨k + 1, n, D, vs, by omega, by go_num, HA.out.no HnoL.out⟩
        case measure => simp [intOf] <;> omega
    · obtain rfl : k = pw N.n := by omega
      clear hA
      go_wp2_with fail
      go_ret
      exact ⟨HA.out.below, _, vs, rfl, by rw [← attTo_all]; exact HA.out.rows.mono (by omega)⟩
end Go.Proofs.YtkfagolmpbbckaaGreatDoor
namespace Go.Proofs.YtkfagolmpbbckaaGreatDoor
open Go Go.RowKit Go.Sw
set_option maxRecDepth 100000
set_option linter.unusedVariables false

theorem RowsAt.get {w : World} {base : Nat} {out : Value} {Ls : List (List Nat)} {vs : List Value} (h : RowsAt w base out Ls vs) : ∃ a c, out = .slice a Ls.length c ∧ (0 < Ls.length → ∃ g, a = some ⟨g, 0, none⟩ ∧ g < w.heap.size ∧ ∀ j (hj : j < Ls.length), ∃ x d, w.cell? ⟨g, j, none⟩ = some (.slice x Ls[j].length d) ∧ IntsAt w base x (nats Ls[j])) := by
  have hl := h.len
  rcases h.own.2 with ⟨e, hz⟩ | ⟨g, cap, cur, e, hb, hg, h1, h2, h3, h4⟩
  · exact ⟨none, 0, by rw [e, ← hl, hz], fun h0 => by omega⟩
  · refine ⟨_, cap, by rw [e, hl], fun h0 => ⟨g, rfl, block_lt hg, fun j hj => ?_⟩⟩
    obtain ⟨x, d, e1, e2, _⟩ := h.each j hj
    refine ⟨x, d, ?_, e2⟩
    rw [cell_of_row w _ _ _ _ _ hg]
    rw [← h4, List.getElem?_take] at e1
    rw [if_pos (by omega)] at e1
    simpa using e1
def cntTo (N : Net) (p : Trm) (q : Nat → Bool) (k : Nat) : Nat := (((pickL q (pw N.n)).take k).filter fun s => hasP N.n p s).length
theorem cntTo_le (N : Net) (p : Trm) (q : Nat → Bool) (k : Nat) : cntTo N p q k ≤ 2 ^ 5 + pw N.n := by
  unfold cntTo
  have h1 := List.length_filter_le (fun s => hasP N.n p s) ((pickL q (pw N.n)).take k)
  have h2 := pickL_length q (pw N.n)
  rw [List.length_take] at h1
  omega
theorem cntTo_suc (N : Net) (p : Trm) (q : Nat → Bool) (k : Nat) (hk : k < (pickL q (pw N.n)).length) : cntTo N p q (k + 1) = cntTo N p q k + if hasP N.n p (pickL q (pw N.n))[k] then 1 else 0 := by
  unfold cntTo
  rw [List.take_add_one, List.getElem?_eq_getElem hk, Option.toList_some, List.filter_append, List.length_append]
  congr 1
  cases h : hasP N.n p (pickL q (pw N.n))[k] <;> simp [h]
theorem cntTo_all (N : Net) (p : Trm) : cntTo N p (leastB N) (attL N).length = attIn N p := by
  unfold cntTo attIn attL
  rw [List.length_map]
  show (List.filter _ (List.take (attS N).length (attS N))).length = _
  rw [List.take_length]
end Go.Proofs.YtkfagolmpbbckaaGreatDoor
