/- The program's single steps and what they lead to. The program's steady states and attractors. The program's attractors. The program's count of the attractors within a trap. -/
import Derived.Test.YtkfagolmpbbckaaDoorMp
import Derived.Test.YtkfagolmpbbckaaDoorRs
import Derived.Test.YtkfagolmpbbckaaDoorImpl9
import Derived.Test.YtkfagolmpbbckaaDoorSl
import Derived.Test.YtkfagolmpbbckaaDoorAp
import Derived.Deep.LoopGhost
import Derived.Test.YtkfagolmpbbckaaDoorImplG
namespace Go.Proofs.YtkfagolmpbbckaaDoor
open Go Go.RowKit Go.Sw
set_option maxRecDepth 100000
set_option linter.unusedVariables false

/-- numbers as ints -/
def nats (l : List Nat) : List Int := l.map Int.ofNat
theorem nats_length (l : List Nat) : (nats l).length = l.length := by simp [nats]
theorem nats_snoc (l : List Nat) (x : Nat) : nats (l ++ [x]) = nats l ++ [((x : Nat) : Int)] := by simp [nats]
theorem next_any (b cap s : Nat) (N : Net) (hn : N.n ≤ 5) (hs : s < pw N.n) (w : World) (hat : NetAt w b N.n N.f) (hb : b < w.heap.size) :
    Calls Tryd.prog 134 #[.slice (some ⟨b, 0, none⟩) N.n cap, .int .i64 s] w fun e w' => Below w.heap.size w w' ∧ ∃ a c, e = .returned (.slice a (nextL N s).length c) ∧ IntsAt w' w.heap.size a (nats (nextL N s)) := by
  have Hat := Lib.hid hat
  clear hat
  go_enter Tryd.func134, Tryd.ntmps134
  go_wp2_with fail
  go_loopw [5, 6, 7, 10] (fun out _ _ i wr => ∃ k : Nat, k ≤ N.n ∧ i = .int .i64 k ∧ wr.ownsRow w.heap.size 3 1 out (nats (nextTo N s k)).length (ints (nats (nextTo N s k))) ∧ Below w.heap.size w wr) (fun _ _ _ i _ => N.n - (intOf i).toNat)
  case atStart => exact ⟨0, Nat.zero_le _, rfl, World.ownsRow_nil _ _ _ _, Below.refl _ _⟩
  case round =>
    obtain ⟨k, hk, rfl, hown, hW⟩ := hrel
    have Hown := Lib.hid hown
    have hlk := nextTo_length N s k
    have hWs := hW.size
    clear hown
    by_cases hlt : k < N.n
    · have cO := Lib.hid (stepOne_any b cap s k N hn hs hlt wr (Hat.out.below hW hb))
      have hsuc : nextTo N s (k + 1) = if setN s k (N.f k s) ≠ s then nextTo N s k ++ [setN s k (N.f k s)] else nextTo N s k := rfl
      obtain ⟨t, ht⟩ : ∃ t, setN s k (N.f k s) = t := ⟨_, rfl⟩
      rw [ht] at cO hsuc
      obtain ⟨ps, hps⟩ : ∃ ps, nextTo N s k = ps := ⟨_, rfl⟩
      rw [hps] at hsuc Hown hlk
      have hpl : (nats ps).length ≤ 5 := by rw [nats_length]; omega
      clear ht hps
      by_cases hts : t = s
      · rw [if_neg (by simpa using hts)] at hsuc
        have Hs := Lib.hid hsuc
        have he : ((t : Int) == (s : Int)) = true := by rw [hts]; simp
        clear hsuc hts
        go_wp2_with fail
        refine cO.out.mono ?_
        rintro e w2 ⟨hW2, rfl⟩
        have Hown2 := Lib.hid (own_below Hown.out hW2)
        have hW3 := hW.trans (hW2.mono hWs)
        go_wp2_with fail
        go_roundw
        case rel => exact ⟨k + 1, by omega, by go_num, by rw [Hs.out]; exact Hown2.out, hW3⟩
        case measure => simp [intOf] <;> omega
      · rw [if_pos hts] at hsuc
        have Hs := Lib.hid hsuc
        have he : ((t : Int) == (s : Int)) = false := by rw [beq_eq_false_iff_ne]; omega
        clear hsuc
        go_wp2_with fail
        refine cO.out.mono ?_
        rintro e w2 ⟨hW2, rfl⟩
        have Hown2 := Lib.hid (own_below Hown.out hW2)
        have hW3 := hW.trans (hW2.mono hWs)
        have hs3 := hW3.size
        go_wp2_with (first | ((with_reducible show wpList _ _ _ (⟨_, .buildSlice 26 1 _, _, _, _, _⟩ :: _) _ _); refine wpList_buildSlice' rfl _ _ _ rfl rfl (int_one (t : Int) _) ?_) | (at_builtin; refine wpList_int_append rfl _ _ rfl w.heap.size _ (nats ps) rfl ((Hown2.out.alloc _)) _ _ rfl (cell_new ?_) (by omega) (hW3.alloc (by omega) _) ?_ ?_ ?_))
        · rfl
        · exact Nat.le_refl _
        · first | omega | (simp; omega)
        · intro v' w4 hown4 hB4
          have hown5 : w4.ownsRow w.heap.size 3 1 v' (nats (nextTo N s (k + 1))).length (ints (nats (nextTo N s (k + 1)))) := by
            rw [Hs.out, nats_snoc, List.length_append]; exact hown4
          have Hown4 := Lib.hid hown5
          have HB4 := Lib.hid hB4
          clear hown4 hown5 hB4
          go_wp2_with fail
          go_roundw
          case rel => exact ⟨k + 1, by omega, by go_num, Hown4.out, HB4.out⟩
          case measure => simp [intOf] <;> omega
    · obtain rfl : k = N.n := by omega
      obtain ⟨a, cp, rfl, hcp, hI⟩ := intsAt_of_own Hown.out
      have HI := Lib.hid hI
      have ha : 0 < (nats (nextL N s)).length → ∃ g, a = some ⟨g, 0, none⟩ := fun h0 => by
        obtain ⟨g, _, _, h1, _⟩ := hI.at' h0
        exact ⟨g, h1⟩
      have C := Lib.hid (fun wx => clip_any a (nats (nextL N s)).length cp ha hcp (by rw [nats_length]; exact Nat.le_trans hlk (by omega)) wx)
      have hnl : nextTo N s N.n = nextL N s := rfl
      rw [hnl] at HI ⊢
      clear hI ha
      rw [nats_length] at C ⊢
      go_wp2_with fail
      refine (C.out _).mono ?_
      rintro e w' ⟨rfl, rfl⟩
      go_wp2_with fail
      go_ret
      exact ⟨hW, a, _, rfl, HI.out⟩
theorem IntsAt.same {w w' : World} {B : Nat} {a : Option Addr} {xs : List Int} (h : IntsAt w B a xs) (hb : 0 < xs.length → ∀ g, a = some ⟨g, 0, none⟩ → w'.heap[g]? = w.heap[g]?) : IntsAt w' B a xs :=
  ⟨fun h0 => by
    obtain ⟨g, cur, t, h1, h2, h3, h4⟩ := h.at' h0
    exact ⟨g, cur, t, h1, h2, (hb h0 g h1).trans h3, h4⟩⟩
/-- the last number of a row is left away -/
theorem own_pop {w : World} {base : Nat} {e : TypeId} {a : Option Addr} {c : Nat} {L : List Nat} {t : Nat} (h : w.ownsRow base e 1 (.slice a (L.length + 1) c) (nats (L ++ [t])).length (ints (nats (L ++ [t])))) : w.ownsRow base e 1 (.slice a L.length c) (nats L).length (ints (nats L)) := by
  refine ⟨by simp [ints], ?_⟩
  rcases h.2 with ⟨h0, hz⟩ | ⟨g, cap, cur, h0, hb, hg, h1, h2, h3, h4⟩
  · injection h0 with e1 e2 e3
    omega
  · injection h0 with e1 e2 e3
    subst e1 e3
    refine .inr ⟨g, c, cur, ?_, hb, hg, ?_, h2, h3, ?_⟩
    · rw [nats_length]
    · rw [nats_length] at h1 ⊢
      rw [List.length_append] at h1; simp at h1; omega
    · have e2 : ints (nats (L ++ [t])) = ints (nats L) ++ [.int .i64 (t : Int)] := by rw [nats_snoc, ints_snoc]
      rw [e2] at h4
      have h5 := congrArg (List.take (nats L).length) h4
      rw [List.take_take] at h5
      rw [nats_length] at h5 ⊢
      rw [nats_length, List.length_append] at h5
      simp only [List.length_cons, List.length_nil, Nat.mul_one, Nat.zero_add] at h5 ⊢
      rw [show min L.length (L.length + 1) = L.length by omega] at h5
      rw [h5, List.take_append_of_le_length (by simp [ints, nats]), List.take_of_length_le (by simp [ints, nats])]
/-- the stack and the set of the search -/
structure RchAt (w wr : World) (N : Net) (s : Nat) (todo : Value) (S : Nat → Bool) (L : List Nat) (n : Nat) (x : Option (Nat × Nat)) : Prop where
  own : wr.ownsRow (w.heap.size + 1) 3 1 todo (nats L).length (ints (nats L))
  set : SetM wr w.heap.size n S
  room : n + unmN (pw N.n) S ≤ 33
  inv : RInv N s S L x
  below : Below w.heap.size w wr
theorem RchAt.step {w wr w' : World} {N : Net} {s : Nat} {todo : Value} {S : Nat → Bool} {L : List Nat} {n : Nat} {x : Option (Nat × Nat)} (h : RchAt w wr N s todo S L n x) (hb : Below wr.heap.size wr w') : RchAt w w' N s todo S L n x :=
  ⟨own_below h.own hb, h.set.below hb, h.room, h.inv, h.below.trans (hb.mono h.below.size)⟩
set_option maxHeartbeats 2000000 in
theorem reach_any (b cap s : Nat) (N : Net) (hn : N.n ≤ 5) (hs : s < pw N.n) (w : World) (hat : NetAt w b N.n N.f) (hb : b < w.heap.size) :
    Calls Tryd.prog 83 #[.slice (some ⟨b, 0, none⟩) N.n cap, .int .i64 s] w fun e w' => Below w.heap.size w w' ∧ ∃ n, e = .returned (.map (some w.heap.size)) ∧ SetM w' w.heap.size n (arB N s) := by
  have Hat := Lib.hid hat
  have hpw := pw_le hn
  have hmm := @run_makeMap Tryd.prog
  have hmade := Lib.hid (setM_made w)
  have hini := Lib.hid (RInv.init (N := N) hs)
  have hu0 : 1 + unmN (pw N.n) (fun j => j == s || false) ≤ 33 := by
    have := unm_put (n := pw N.n) (S := fun _ => false) hs rfl
    have := unm_le (pw N.n) (fun _ => false)
    omega
  clear hat
  go_enter Tryd.func83, Tryd.ntmps83
  go_wp2_with ((with_reducible show wpList _ _ _ (⟨_, .insert 74 _ _ _, _, _, _, _⟩ :: _) _ _); refine wpList_insert_setM _ rfl _ _ _ rfl w.heap.size 0 (fun _ => false) rfl hmade.out (by omega) s (by omega) rfl rfl ?_; intro w2 hS2 hg2)
  have hB2 : Below w.heap.size w w2 := ((Below.refl _ _).alloc (Nat.le_refl _) _).grown hg2 (by simp) (fun q hq => by cases hq; exact Nat.le_refl _)
  have hs2 : w.heap.size + 1 ≤ w2.heap.size := by have := hg2.size; simpa using this
  have HS2 := Lib.hid hS2
  clear hmm hS2 hg2
  go_wp2_with ((with_reducible show wpList _ _ _ (⟨_, .buildSlice 26 1 _, _, _, _, _⟩ :: _) _ _); refine wpList_buildSlice' rfl _ _ _ rfl rfl (int_one (s : Int) _) ?_)
  have hR0 : RchAt w (w2.alloc (.cells #[.int .i64 (s : Int)] 3)) N s (.slice (some ⟨w2.heap.size, 0, none⟩) 1 1) (fun j => j == s || false) [s] 1 none :=
    ⟨own_made1 w2 (.int .i64 (s : Int)) 3 (w.heap.size + 1) hs2, HS2.out.below ((Below.refl _ _).alloc (Nat.le_refl _) _), hu0, hini.out, hB2.alloc hB2.size _⟩
  have HR0 := Lib.hid hR0
  clear hR0
  go_loopg [6, 7, 9, 31, 32, 33] 100 (fun g todo _ _ _ _ _ wr => ∃ S L n, RchAt w wr N s todo S L n none ∧ 2 * unmN (pw N.n) S + L.length ≤ g ∧ 2 * unmN (pw N.n) S + L.length ≤ 100)
  case atStart =>
    have hu := unm_le (pw N.n) (fun j => j == s || false)
    have hfin : 2 * unmN (pw N.n) (fun j => j == s || false) + [s].length ≤ 100 := by rw [List.length_singleton]; omega
    exact ⟨_, _, 1, HR0.out, hfin, hfin⟩
  case round =>
    obtain ⟨S, L, n, hR, hg, hg100⟩ := hrel
    have HR := Lib.hid hR
    obtain ⟨a, cp, rfl, hcp, hI⟩ := intsAt_of_own hR.own
    rw [nats_length] at hcp ⊢
    have hWs := hR.below.size
    rcases List.eq_nil_or_concat L with rfl | ⟨L', t, rfl⟩
    · have Hend := Lib.hid (hR.inv.end')
      clear hR hI
      go_wp2_with fail
      go_ret
      exact ⟨HR.out.below, n, rfl, HR.out.set.congr fun i _ => Hend.out i⟩
    · obtain ⟨wo, rfl⟩ : ∃ wo : World, wo = wr := ⟨_, rfl⟩
      rw [List.concat_eq_append] at HR hR hI hcp hg hg100 ⊢
      have hpop := Lib.hid (hR.inv.pop)
      have htS := hR.inv.stack t (by simp)
      have htp := (hR.inv.only t htS).1
      obtain ⟨gt, cur, tt, rfl, hBg, hcur, hcs, hcells⟩ := hI.at' (by rw [nats_length]; simp)
      have hcell : wo.cell? ⟨gt, L'.length, none⟩ = some (.int .i64 (t : Int)) := by
        rw [cell_of_row wo _ _ _ _ _ hcur, hcells L'.length (by rw [nats_length]; simp)]
        simp [nats]
      have hgw := block_lt hcur
      have hel : (nats (L' ++ [t])).length = L'.length + 1 := by simp [nats]
      rw [List.length_append, List.length_singleton] at hcp hg hg100 ⊢
      have cN := Lib.hid (next_any b cap t N hn htp wo (Hat.out.below hR.below hb) (Nat.lt_of_lt_of_le hb hWs))
      have hlen0 : L'.length ≤ 100 := by omega
      have hR1 : RchAt w wo N s (.slice (some ⟨gt, 0, none⟩) L'.length cp) S L' n (some (t, 0)) := ⟨own_pop (t := t) (by rw [← hel]; exact hR.own), hR.set, hR.room, hpop.out, hR.below⟩
      have HR1 := Lib.hid hR1
      have hnl := nextTo_length N t N.n
      have ei : (((L'.length + 1 : Nat) : Int) - 1) = (L'.length : Int) := by omega
      clear hR hI hcells hcur htS hpop hR1
      go_wp2_with fail
      refine cN.out.mono ?_
      rintro e w3 ⟨hW3, a2, c2, rfl, hI2⟩
      have HR3 := Lib.hid (HR1.out.step hW3)
      have hws3 := hW3.size
      have hbm : w.heap.size < wo.heap.size := HR1.out.set.lt
      have hgne : 0 < (nextL N t).length → ∀ q, a2 = some ⟨q, 0, none⟩ → wo.heap.size ≤ q ∧ q < w3.heap.size := fun h0 q e => by
        obtain ⟨q', _, _, e1, h1, _⟩ := hI2.at' (by rw [nats_length]; exact h0)
        have h2 := hI2.lt (by rw [nats_length]; exact h0) q e
        rw [e] at e1; cases e1
        exact ⟨h1, h2⟩
      have HI2 := Lib.hid hI2
      have Hgne := Lib.hid hgne
      have hnl5 : (nextL N t).length ≤ 5 := Nat.le_trans hnl hn
      have hntp := Lib.hid (fun u (hu : u ∈ nextL N t) => nextL_lt htp hu)
      clear hI2 hgne hnl
      go_wp2_with fail
      go_loopw [6, 9, 33] (fun todo _ i wr => ∃ (m : Nat) (S' : Nat → Bool) (M : List Nat) (n' : Nat), m ≤ (nextL N t).length ∧ i = .int .i64 m ∧ RchAt w wr N s todo S' M n' (some (t, m)) ∧ 2 * unmN (pw N.n) S' + M.length ≤ 2 * unmN (pw N.n) S + L'.length ∧ IntsAt wr wo.heap.size a2 (nats (nextL N t)) ∧ (0 < (nextL N t).length → ∀ q, a2 = some ⟨q, 0, none⟩ → todo.ownBlock ≠ some q)) (fun _ _ i _ => (nextL N t).length - (intOf i).toNat)
      case atStart => exact ⟨0, S, L', n, Nat.zero_le _, rfl, HR3.out, Nat.le_refl _, HI2.out, fun h0 q e => by
        have := Hgne.out h0 q e
        intro e2
        have e3 : gt = q := Option.some.inj e2
        omega⟩
      case round =>
        obtain ⟨m, S', M, n', hm, rfl, hR4, hle, hI4, hne⟩ := hrel
        have HR4 := Lib.hid hR4
        have HI4 := Lib.hid hI4
        have Hne := Lib.hid hne
        have hWs4 := hR4.below.size
        have hroom := hR4.room
        by_cases hlt : m < (nextL N t).length
        · obtain ⟨q, cur4, t4, rfl, hq, hcur4, hcs4, hcells4⟩ := hI4.at' (by rw [nats_length]; omega)
          have hcell4 : wr.cell? ⟨q, m, none⟩ = some (.int .i64 (((nextL N t)[m] : Nat) : Int)) := by
            rw [cell_of_row wr _ _ _ _ _ hcur4, hcells4 m (by rw [nats_length]; exact hlt)]
            simp [nats]
          have hup := hntp.out _ (List.getElem_mem hlt)
          have hskip := Lib.hid (fun h : S' (nextL N t)[m] = true => hR4.inv.skip hlt h)
          have hpush := Lib.hid (hR4.inv.push hlt)
          have hunm := Lib.hid (fun h : S' (nextL N t)[m] = false => unm_put hup h)
          have hqw := block_lt hcur4
          have hne4 := hne (by omega) q rfl
          obtain ⟨u, hu⟩ : ∃ u, (nextL N t)[m] = u := ⟨_, rfl⟩
          rw [hu] at hcell4 hup hskip hpush hunm
          have Hcur4 := Lib.hid hcur4
          have hML : M.length ≤ 100 := by omega
          clear hR4 hI4 hne hcells4 hcur4 hu
          cases hSu : S' u
          · have hun := hunm.out hSu
            have hsb : S' u = false := hSu
            have Hpush := Lib.hid hpush.out
            have HSu := Lib.hid hSu
            have Hset := Lib.hid HR4.out.set
            have hlook : ∀ {ops : Array Oper} {rest : List Oper} {o : Oper} {a : Act} {Q : Exit → Act → World → Prop} (hg : o.guard = none) (m x : Operand) (hop : o.op = Op.lookup 74 m x false) (hm : a.eval m = .map (some w.heap.size)) (hx : a.eval x = .int .i64 (u : Int)) (hK : wpList Tryd.prog ops Q rest (a.put o.dst (.bool false)) wr), wpList Tryd.prog ops Q (o :: rest) a wr := fun hg m x hop hm hx hK => wpList_lookup_setM wr hg m x hop w.heap.size n' S' hm Hset.out u (by omega) hx (by rw [HSu.out]; exact hK)
            have Hlook := @hlook
            clear hlook hSu hsb
            have hlM : (nats M).length ≤ 4000000 := by rw [nats_length]; omega
            have Hbelow := Lib.hid HR4.out.below
            have hbq : w.heap.size ≠ q := by have := Hset.out.lt; omega
            go_wp2_with (first
              | (at_lookup; refine Hlook rfl _ _ rfl rfl rfl ?_)
              | (at_mapUpdate; refine wpList_mapUpdate_setM _ rfl _ _ _ rfl w.heap.size n' S' rfl Hset.out (by omega) u (by omega) rfl rfl ?_; intro w5 hS5 hg5)
              | ((with_reducible show wpList _ _ _ (⟨_, .buildSlice 26 1 _, _, _, _, _⟩ :: _) _ _); refine wpList_buildSlice' rfl _ _ _ rfl rfl (int_one (u : Int) _) ?_)
              | (at_builtin; refine wpList_int_appendK rfl _ _ rfl (w.heap.size + 1) _ (nats M) rfl (((own_grown HR4.out.own hg5 (fun q hq => by intro e; have := own_ge HR4.out.own hq; cases e; omega)).alloc _)) _ _ rfl (cell_new ?_) (by omega) ((Hbelow.out.grown hg5 (by omega) (fun q hq => by cases hq; exact Nat.le_refl _)).alloc (by have := hg5.size; omega) _) ?_ ?_ ?_))
            · rfl
            · omega
            · have := hg5.size; simp; omega
            · intro v' w6 hown6 hB6 hstay
              have hs5 := hg5.size
              have hq5 : w5.heap[q]? = wr.heap[q]? := hg5.block q hqw (fun e => hbq (Option.some.inj e).symm)
              obtain ⟨k1, k2⟩ := hstay q (by first | omega | (simp; omega)) hne4
              have hq6 : w6.heap[q]? = wr.heap[q]? := k1.trans ((Below.heap_alloc _ _ _ (by omega)).trans hq5)
              have hbm6 : w6.heap[w.heap.size]? = w5.heap[w.heap.size]? := by
                have hblt := Hset.out.lt
                obtain ⟨k3, _⟩ := hstay w.heap.size (by first | omega | (simp; omega)) (fun e => by have := own_ge HR4.out.own e; omega)
                exact k3.trans (Below.heap_alloc _ _ _ (by omega))
              have Hfin := Lib.hid (show RchAt w w6 N s v' (fun j => j == u || S' j) (M ++ [u]) (n' + 1) (some (t, m + 1)) from
                ⟨by rw [nats_snoc, List.length_append]; exact hown6, hS5.same hbm6, by omega, Hpush.out, hB6⟩)
              have HI6 := Lib.hid (HI4.out.same (w' := w6) fun _ q' e => by cases e; exact hq6)
              have Hk2 := Lib.hid (show 0 < (nextL N t).length → ∀ q', some (⟨q, 0, none⟩ : Addr) = some ⟨q', 0, none⟩ → v'.ownBlock ≠ some q' from fun _ q' e => by cases e; exact k2)
              clear hown6 hB6 hstay k1 k2 hq5 hq6 hbm6 hS5 hg5
              go_wp2_with fail
              go_roundw
              case rel => exact ⟨m + 1, _, _, n' + 1, by omega, by go_num, Hfin.out, by rw [List.length_append, List.length_singleton]; omega, HI6.out, Hk2.out⟩
              case measure => simp [intOf] <;> omega
          · have Hsk := Lib.hid (hskip.out hSu)
            have Hset := Lib.hid HR4.out.set
            have HSu := Lib.hid hSu
            have hlook : ∀ {ops : Array Oper} {rest : List Oper} {o : Oper} {a : Act} {Q : Exit → Act → World → Prop} (hg : o.guard = none) (m x : Operand) (hop : o.op = Op.lookup 74 m x false) (hm : a.eval m = .map (some w.heap.size)) (hx : a.eval x = .int .i64 (u : Int)) (hK : wpList Tryd.prog ops Q rest (a.put o.dst (.bool true)) wr), wpList Tryd.prog ops Q (o :: rest) a wr := fun hg m x hop hm hx hK => wpList_lookup_setM wr hg m x hop w.heap.size n' S' hm Hset.out u (by omega) hx (by rw [HSu.out]; exact hK)
            have Hlook := @hlook
            clear hlook hSu
            go_wp2_with (at_lookup; refine Hlook rfl _ _ rfl rfl rfl ?_)
            go_roundw
            case rel => exact ⟨m + 1, S', M, n', by omega, by go_num, ⟨HR4.out.own, HR4.out.set, HR4.out.room, Hsk.out, HR4.out.below⟩, hle, HI4.out, Hne.out⟩
            case measure => simp [intOf] <;> omega
        · obtain rfl : m = (nextL N t).length := by omega
          have Hcl := Lib.hid (hR4.inv.close (Nat.le_refl _))
          clear hR4 hI4 hne
          go_wp2_with fail
          go_roundg (2 * unmN (pw N.n) S' + M.length)
          case measure => omega
          case rel => exact ⟨S', M, n', ⟨HR4.out.own, HR4.out.set, HR4.out.room, Hcl.out, HR4.out.below⟩, Nat.le_refl _, by omega⟩
end Go.Proofs.YtkfagolmpbbckaaDoor
namespace Go.Proofs.YtkfagolmpbbckaaDoor
open Go Go.RowKit Go.Sw
set_option maxRecDepth 100000
set_option linter.unusedVariables false

end Go.Proofs.YtkfagolmpbbckaaDoor
namespace Go.Proofs.YtkfagolmpbbckaaDoor
open Go Go.RowKit Go.Sw
set_option maxRecDepth 100000
set_option linter.unusedVariables false

def doneAt (N : Net) (k i : Nat) : Prop := ∃ s, s < k ∧ leastB N s = true ∧ AR N s i
theorem done_skip {N : Net} {k : Nat} (hk : k < pw N.n) (h : doneAt N k k) : leastB N k = false := by
  cases e : leastB N k with
  | false => rfl
  | true => rw [(done_iff hk (leastB_iff.1 e).1).1 h] at e; cases e
theorem done_least {N : Net} {k : Nat} (hk : k < pw N.n) (h : ¬ doneAt N k k) (hs : steadyB N k = true) : leastB N k = true := by
  cases e : leastB N k with
  | true => rfl
  | false => exact absurd ((done_iff hk hs).2 e) h
theorem done_no {N : Net} {k : Nat} (hl : leastB N k = false) (i : Nat) : doneAt N (k + 1) i ↔ doneAt N k i := by
  constructor
  · rintro ⟨s, h1, h2, h3⟩
    by_cases e : s = k
    · subst e; rw [hl] at h2; cases h2
    · exact ⟨s, by omega, h2, h3⟩
  · rintro ⟨s, h1, h2, h3⟩; exact ⟨s, by omega, h2, h3⟩
theorem done_yes {N : Net} {k : Nat} (hl : leastB N k = true) (i : Nat) : doneAt N (k + 1) i ↔ doneAt N k i ∨ AR N k i := by
  constructor
  · rintro ⟨s, h1, h2, h3⟩
    by_cases e : s = k
    · subst e; exact .inr h3
    · exact .inl ⟨s, by omega, h2, h3⟩
  · rintro (⟨s, h1, h2, h3⟩ | h)
    · exact ⟨s, by omega, h2, h3⟩
    · exact ⟨k, by omega, hl, h⟩
noncomputable def attTo (N : Net) (k : Nat) : List (List Nat) := (pickL (leastB N) k).map (stR N)
theorem attTo_no {N : Net} {k : Nat} (hl : leastB N k = false) : attTo N (k + 1) = attTo N k := by unfold attTo; rw [pickL, if_neg (by simp [hl])]
theorem attTo_yes {N : Net} {k : Nat} (hl : leastB N k = true) : attTo N (k + 1) = attTo N k ++ [stR N k] := by unfold attTo; rw [pickL, if_pos hl]; simp
theorem attTo_length (N : Net) (k : Nat) : (attTo N k).length ≤ k := by unfold attTo; rw [List.length_map]; exact pickL_length _ _
theorem attTo_all (N : Net) : attTo N (pw N.n) = attL N := rfl

end Go.Proofs.YtkfagolmpbbckaaDoor
namespace Go.Proofs.YtkfagolmpbbckaaDoor
open Go Go.RowKit Go.Sw
set_option maxRecDepth 100000
set_option linter.unusedVariables false

def cntTo (N : Net) (p : Trm) (q : Nat → Bool) (k : Nat) : Nat := (((pickL q (pw N.n)).take k).filter fun s => hasP N.n p s).length
theorem cntTo_le (N : Net) (p : Trm) (q : Nat → Bool) (k : Nat) : cntTo N p q k ≤ 2 ^ 5 + pw N.n := by
  unfold cntTo
  have h1 := List.length_filter_le (fun s => hasP N.n p s) ((pickL q (pw N.n)).take k)
  have h2 := pickL_length q (pw N.n)
  rw [List.length_take] at h1
  omega
theorem cntTo_suc (N : Net) (p : Trm) (q : Nat → Bool) (k : Nat) (hk : k < (pickL q (pw N.n)).length) : cntTo N p q (k + 1) = cntTo N p q k + if hasP N.n p (pickL q (pw N.n))[k] then 1 else 0 := by
  unfold cntTo
  rw [List.take_add_one, List.getElem?_eq_getElem hk, Option.toList_some, List.filter_append, List.length_append]
  congr 1
  cases h : hasP N.n p (pickL q (pw N.n))[k] <;> simp [h]
theorem cntTo_all (N : Net) (p : Trm) : cntTo N p (leastB N) (attL N).length = attIn N p := by
  unfold cntTo attIn attL
  rw [List.length_map]
  show (List.filter _ (List.take (attS N).length (attS N))).length = _
  rw [List.take_length]
end Go.Proofs.YtkfagolmpbbckaaDoor
