/- FnFlowing returns true for all arguments, wherever they lie: the row and its tied card; conditions: the listed tables of the library read as listed (the card ties them). -/
import Derived.Test.YtkfagolmpbbckaaGreatDoorTie
import Derived.Test.YtkfagolmpbbckaaGreatDoorCards
import Derived.Test.YtkfagolmpbbckaaGreatDoorFacts
import Derived.Test.YtkfagolmpbbckaaGreatDoorXFlow
import Derived.Test.YtkfagolmpbbckaaGreatDoorCo
import Derived.ProofKit
import Derived.OpenShut
import Derived.ShutString
import Derived.LaidMore
import Derived.Lay
import Derived.SevenTiedAt
import Derived.Stop.Joined
import Derived.ChangeSame
namespace Go.Proofs.YtkfagolmpbbckaaGreatDoor.fnFlowing
open Go.ChangeShapes Go.WideShapes Go.ChangeAt Go.RowKit
open Go.ChangeMaps (open_string shut_string)
set_option linter.unusedVariables false
set_option maxRecDepth 100000
theorem own : ownKnob Tryz.prog.godebug = none := by kernel_rfl
theorem laidOut : laidOutB Tryz.prog = true := by kernel_rfl
section
variable {H : Type} {enc : TypeId × Value → H} {P : Program}
theorem post_of_below {f : Func} {s : ChangeSpec} {apart fresh handsOn again : Bool} {W W' : World} {args : Array Value} {v : Value} {ds gs : List (DataW H)} {before pa pv : List MemPlace}
    (hW : DataW.Whole enc P f.params.toList s.vars apart W args.toList ds gs before)
    (hres : ∀ (b : Nat) (sp : Nat → Bool) (hd : Bool), DataW.TrodAll enc P W' b sp hd f.resultTypes.toList (v.resultList f.resultTypes.size) (s.fn H (ds ++ gs)).results [])
    (hargs : ∀ sp : Nat → Bool, (∀ p ∈ before, sp p.block = true) → DataW.TrodAll enc P W' 0 sp true f.params.toList args.toList (s.fn H (ds ++ gs)).args pa)
    (hvars : ∀ sp : Nat → Bool, (∀ p ∈ before, sp p.block = true) → DataW.TrodVars enc P W' sp s.vars (s.fn H (ds ++ gs)).vars pv)
    (hps : before = pa ++ pv) (hb : Below W.heap.size W W')
    (hok : ∀ (j : Nat) (t : TypeId) (r : Value), f.resultTypes[j]? = some t → (v.resultList f.resultTypes.size)[j]? = some r → Value.okWide P W' .any 0 t r) :
    s.post enc P f apart fresh handsOn again W args v W' := by
  have hlt : ∀ p ∈ before, p.block < W.heap.size := fun p hp => hW.lt p hp
  have hold : ∀ p ∈ before, (fun b => decide (b < W.heap.size)) p.block = true := fun p hp => by simpa using hlt p hp
  refine ⟨ds, gs, before, [], pa, pv, hW, hres _ _ _, hargs _ hold, hvars _ hold, World.keptBut_mono (fun p hp => ⟨hp, ?_⟩) (hb.frame (· ∈ before)), fun _ => ?_⟩
  · rw [hps, List.mem_append] at hp
    exact Or.inr hp
  · obtain ⟨_, _, _, _, _, hz, hn⟩ := hW
    refine ⟨hok, _, _, ([] ++ pa) ++ pv, ⟨[] ++ pa, pv, trodAll_append (hargs _ (fun _ _ => rfl)) (hres _ _ _), hvars _ (fun _ _ => rfl), rfl, ?_, ?_⟩, ?_⟩
    · intro b off hp
      have hin : MemPlace.cell b off ∈ before := by rw [hps]; simpa using hp
      rw [hb.frozen (hlt _ hin)]
      exact hz b off hin
    · intro ha
      have := hn ha
      rw [hps] at this
      simpa using this
    · intro p hp _
      rw [hps]
      simpa using hp
end
theorem lifted (os : Os) (started : os.Started) (H : Type) (enc : TypeId × Value → H) :
    ReturnsInHanded {} Tryz.checked os 5 .any (fun w args => (Rows.fnFlowingSpec.pre enc Tryz.prog Tryz.f5 Rows.fnFlowingRow.domain false w args ∧ laidMetH Tryz.prog Rows.fnFlowingRow.laid w) ∧ sizedMet enc Tryz.prog Tryz.f5 (OpenSpec.ofChange Rows.fnFlowingSpec) false w args)
      (Rows.fnFlowingSpec.post enc Tryz.prog Tryz.f5 false true false false) := by
  refine returnsInHanded_of_change_and (C := Tryz.checked) (X := fun w _ => laidMetH Tryz.prog Rows.fnFlowingRow.laid w) (fun _ _ _ hh h => h.of_heap hh) own started (by kernel_rfl) Tryz.func5
    (ChangeSpec.witness_shaped (enc := enc) (C := Tryz.checked) (os := os) (X := fun w _ => laidMetH Tryz.prog Rows.fnFlowingRow.laid w) false (World.laidAll Tryz.prog os Rows.fnFlowingRow.laid) #[.slice none 0 0] 8 (World.laidAll_os _ _ _)
      (World.shaped_of_ZipB (by kernel_rfl) (by kernel_rfl)) (by kernel_rfl) (by kernel_rfl) (by kernel_rfl)
      (by rw [MakeChecks.laidMetH_plain _ _ _ (by kernel_rfl)]; exact laidMet_laidAll _ (by kernel_rfl) (by kernel_rfl))) ?_
  intro W base args ds gs before hval0 hW hc _ hL hsz
  have hval : ∀ (j : Nat) t v, Tryz.f5.params[j]? = some t → args[j]? = some v → Value.okWide Tryz.prog W .any base t v := hval0
  have hW' := hW
  obtain ⟨p, q, hA0, hV, rfl, _, _⟩ := hW
  have hA : DataW.TrodAll enc Tryz.prog W 0 (fun _ => true) true Tryz.f5.params.toList args.toList ds p := hA0
  rw [Tryz.params5] at hA hval
  obtain ⟨v0, vs0, d0, ds0, p0, q0, hargs, rfl, rfl, h0, r0⟩ := trodAll_cons hA
  obtain ⟨rfl, rfl, rfl⟩ := trodAll_nil r0
  obtain rfl : args = #[v0] := by cases args; simp_all
  obtain ⟨rfl, rfl⟩ := trodVars_none hV
  obtain ⟨a0, len0, cap0, rfl⟩ := okWide_slice Tryz.underlying22 (hval 0 22 v0 rfl rfl)
  obtain ⟨k0, m0⟩ := opened_code Tryz.underlying22 Tryz.underlying5 (by kernel_rfl) h0
  clear hA0 hval0
  simp only [List.append_nil] at hW'
  have hlt : ∀ x ∈ p0, x.block < W.heap.size := fun x hx => by simpa using hW'.lt x hx
  refine (_root_.Go.Proofs.YtkfagolmpbbckaaGreatDoor.law_Flowing W a0 len0 cap0 k0 m0).mono fun e W' ⟨hb, he⟩ => ?_
  subst he
  exact ⟨_, rfl, post_of_below (pa := (p0 ++ [])) (pv := []) hW' (fun _ _ _ => (trodAll_cons_mk (shut_bool Tryz.underlying4 _) trodAll_mk0)) (fun sp hsp => (trodAll_cons_mk (WideElems.Trod_stays laidOut (by kernel_rfl) (of_decide_eq_true (by kernel_rfl)) h0 (fun x hx => hb.same (hlt x (by simp [hx]))) (fun x hx => hsp x (by simp [hx]))) trodAll_mk0)) (fun _ _ => rfl) (by simp) hb (ok_one (by kernel_rfl) rfl (okWide_bool_mk Tryz.underlying4 _))⟩
theorem fact_inPlace : (Rows.fnFlowingRow.inPlace == Tryz.prog.inPlace 5) = true := by kernel_rfl
theorem fact_unfollowed : (Rows.fnFlowingRow.unfollowed == Tryz.prog.unfollowed 5) = true := by kernel_rfl
theorem fact_recurses : (Rows.fnFlowingRow.recurses == Tryz.prog.recurses 5) = true := by kernel_rfl
theorem fact_named : (Rows.fnFlowingRow.named == Tryz.prog.varsNamed 5) = true := by kernel_rfl
theorem fact_goes : false = Rows.fnFlowingRow.goesBy Tryz.prog := by kernel_rfl
set_option maxHeartbeats 1000000 in
theorem closed : joinedFacts Tryz.prog 5 Tryz.f5 Rows.fnFlowingSpec Rows.fnFlowingRow = true := by
  unfold joinedFacts
  refine and2 ?_ (by as_aux_lemma => kernel_rfl)
  refine and2 ?_ (by as_aux_lemma => kernel_rfl)
  refine and2 ?_ (by as_aux_lemma => kernel_rfl)
  refine and2 ?_ (by as_aux_lemma => kernel_rfl)
  refine and2 ?_ (by as_aux_lemma => kernel_rfl)
  refine and2 ?_ fact_lifted
  refine and2 ?_ fact_mayEnter
  refine and2 ?_ fact_stopsHeard
  refine and2 ?_ (by as_aux_lemma => kernel_rfl)
  refine and2 ?_ fact_plainKeys
  refine and2 ?_ (by as_aux_lemma => kernel_rfl)
  refine and2 ?_ (by as_aux_lemma => kernel_rfl)
  refine and2 ?_ (by as_aux_lemma => kernel_rfl)
  refine and2 ?_ (by as_aux_lemma => kernel_rfl)
  refine and2 ?_ (by as_aux_lemma => kernel_rfl)
  refine and2 ?_ (by as_aux_lemma => kernel_rfl)
  refine and2 ?_ (by as_aux_lemma => kernel_rfl)
  refine and2 ?_ (by as_aux_lemma => kernel_rfl)
  refine and2 ?_ (by as_aux_lemma => kernel_rfl)
  refine and2 ?_ fact_named
  refine and2 ?_ fact_recurses
  refine and2 ?_ fact_unfollowed
  refine and2 ?_ fact_inPlace
  refine and2 ?_ (by as_aux_lemma => kernel_rfl)
  refine and2 ?_ (by as_aux_lemma => kernel_rfl)
  refine and2 ?_ (by as_aux_lemma => kernel_rfl)
  refine and2 ?_ (by as_aux_lemma => kernel_rfl)
  refine and2 ?_ (by as_aux_lemma => kernel_rfl)
  refine and2 ?_ (by as_aux_lemma => kernel_rfl)
  refine and2 ?_ fact_mapsRowed
  refine and2 ?_ fact_laidOut
  kernel_rfl
set_option maxHeartbeats 2000000 in
theorem over : Rows.FnFlowingSaid :=
  OpenClaim.holds_of_wide 5 Tryz.f5 rfl rfl rfl rfl rfl rfl rfl ⟨rfl, rfl, rfl, rfl, rfl⟩ rfl rfl rfl rfl rfl (by as_aux_lemma => kernel_rfl) Tryz.func5 closed
    (of_decide_eq_true (by kernel_rfl)) (by unfold Func.isWrapper; first | (rw [if_pos (by decide +kernel)]; kernel_rfl) | (rw [if_neg (by decide +kernel)]; exact ⟨rfl, rfl⟩))
    (fun os started H enc _ => lifted os started H enc)
set_option maxHeartbeats 2000000 in
theorem proved : Rows.FnFlowingCardSaid :=
  Claim7.holds_tied_plain_at .later [] [.data, .pinned] true (true, "ff9b14f5152aaf5dfb2600cb911a84ffdd32697056646bc6a2be74ca2dd6c774") false over (fun _ h => by cases h) (by as_aux_lemma => kernel_rfl) (fun _ h => by cases h) fnFlowing_row_tie rfl ⟨rfl, rfl⟩ (by as_aux_lemma => kernel_rfl) rfl
    (fun f fn hf hfn => by
      obtain rfl : f = 5 := Option.some.inj ((show Tryz.prog.funcNamed Rows.fnFlowingRow.func = some 5 by kernel_rfl).symm.trans hf) |>.symm
      obtain rfl : fn = Tryz.f5 := (Option.some.inj (Tryz.func5.symm.trans hfn)).symm
      exact ⟨fact_looks, fun j t ht => by
        rw [Tryz.params5] at ht
        have hm : t ∈ [22] := by simpa using Array.mem_of_getElem? ht
        have hall : ([22].all fun u => !Tryz.prog.wantsStandIn u) = true := by kernel_rfl
        exact (show Tryz.prog.wantsStandIn t = false by simpa using List.all_eq_true.1 hall t hm)⟩)
    fact_goes
#print axioms proved
end Go.Proofs.YtkfagolmpbbckaaGreatDoor.fnFlowing
