/- StartStatuses returns true for every input: ParseStatus returns the document's status, which is read back from its Line. -/
import Derived.Test.YtkbjklnkeammiaaDoorStRow
import Derived.Test.YtkbjklnkeammiaaDoorStL
import Derived.Test.YtkbjklnkeammiaaDoorTie
import Derived.Test.YtkbjklnkeammiaaDoorCards
import Derived.SevenTiedAt
import Derived.ChangeMaps5
set_option linter.unusedVariables false
namespace Go.Proofs.YtkbjklnkeammiaaDoor.StartStatuses
open Go Go.ChangeShapes Go.WideShapes Go.ChangeAt Go.ChangeMaps Go.RowKit Go.Proofs.YtkbjklnkeammiaaDoor.Oct Go.Proofs.YtkbjklnkeammiaaDoor.StRow
set_option maxRecDepth 100000
open Go.Proofs.YtkbjklnkeammiaaDoor.OctRow

set_option maxHeartbeats 1000000 in
theorem lifted (os : Os) (started : os.Started) (H : Type) (enc : TypeId × Value → H) :
    ReturnsInHanded {} Tryd.checked os 11 .any (fun w args => (Rows.startStatusesSpec.pre enc Tryd.prog Tryd.f11 [] false w args ∧ laidMetH Tryd.prog Rows.startStatusesRow.laid w) ∧ sizedMet enc Tryd.prog Tryd.f11 (OpenSpec.ofChange Rows.startStatusesSpec) false w args)
      (Rows.startStatusesSpec.post enc Tryd.prog Tryd.f11 false true false false) := by
  rw [show Rows.startStatusesRow.laid = laid8 from rfl]
  refine wrap (C := Tryd.checked) (X := fun w _ => laidMetH Tryd.prog laid8 w) (fun _ _ _ hh h => h.of_heap hh) own started (by kernel_rfl) Tryd.func11
    (ChangeSpec.witness_shaped (enc := enc) (C := Tryd.checked) (os := os) (X := fun w _ => laidMetH Tryd.prog laid8 w) false (laidStart8 os) #[.string ⟨#[]⟩] 8 rfl (World.shaped_of_RefB (by kernel_rfl) (by kernel_rfl)) (by kernel_rfl) (by kernel_rfl) (by kernel_rfl) (laidStart8_met os _)) ?_
  intro W base args ds gs before hval0 hW hsz0 hL hsh
  have hsz : (DataW.weightsEach Tryd.prog (Tryd.f11.params.toList ++ Rows.startStatusesSpec.plain.varTypes Tryd.prog) (ds ++ gs)).all (· ≤ reachBytes) = true := hsz0
  have hval : ∀ (j : Nat) t v, Tryd.f11.params[j]? = some t → args[j]? = some v → Value.okWide Tryd.prog W .any base t v := hval0
  have hW' := hW
  obtain ⟨p, q, hA0, hV, rfl, hfz, hnd⟩ := hW
  have hA : DataW.TrodAll enc Tryd.prog W 0 (fun _ => true) true Tryd.f11.params.toList args.toList ds p := hA0
  rw [Tryd.params11] at hA hval hsz
  obtain ⟨v0, vs0, d0, ds0, p0, q0, hargs, rfl, rfl, h0, r0⟩ := trodAll_cons hA
  obtain ⟨rfl, rfl, rfl⟩ := trodAll_nil r0
  obtain rfl : args = #[v0] := by cases args; simp_all
  obtain ⟨rfl, rfl⟩ := trodVars_none hV
  have k0 := h0
  have lt0 : ∀ x ∈ p0, x.block < W.heap.size := by obtain ⟨m, hm⟩ := k0; exact DataW.trod_lt m _ _ _ hm
  have hE := env8_of hL hsh
  obtain ⟨s0, rfl, rfl, rfl, w0⟩ := open_string Tryd.underlying9 (hval 0 9 v0 rfl rfl) h0
  clear hA0 hval0 hsz0 hsz
  refine (statuses_any s0 W hE).mono fun e W' ⟨he, bel⟩ => ?_
  subst he
  exact ⟨_, rfl, _, _, _, [], _, [], hW', trodAll_mk1 (shut_bool Tryd.underlying4 _), (trodAll_cons_mk (Below.trod laidOut (by kernel_rfl) (of_decide_eq_true (by kernel_rfl)) k0 bel lt0) trodAll_mk0), rfl, bel.frame _, fun h => by cases h⟩
theorem wf_ok : Rows.startStatusesRow.wf (OpenSpec.ofChange Rows.startStatusesSpec) = true := by kernel_rfl
theorem inPlace_ok : (Rows.startStatusesRow.inPlace == Tryd.prog.inPlace 11) = true := by kernel_rfl
theorem unfollowed_ok : (Rows.startStatusesRow.unfollowed == Tryd.prog.unfollowed 11) = true := by kernel_rfl
theorem recurses_ok : (Rows.startStatusesRow.recurses == Tryd.prog.recurses 11) = true := by kernel_rfl
theorem named_ok : (Rows.startStatusesRow.named == Tryd.prog.varsNamed 11) = true := by kernel_rfl
theorem tie_ok : namedTie Tryd.prog Rows.startStatusesRow.named Rows.startStatusesSpec.vars = true := by kernel_rfl
theorem veiled_ok : Rows.startStatusesRow.veiledFits Tryd.prog Tryd.f11.params.toList (Tryd.f11.params.toList ++ Rows.startStatusesSpec.plain.varTypes Tryd.prog ++ Tryd.f11.resultTypes.toList) = true := by kernel_rfl
theorem facts : joinedFacts Tryd.prog 11 Tryd.f11 Rows.startStatusesSpec Rows.startStatusesRow = true := by
  unfold joinedFacts
  simp only [Bool.and_eq_true]
  exact ⟨⟨⟨⟨⟨⟨⟨⟨⟨⟨⟨⟨⟨⟨⟨⟨⟨⟨⟨⟨⟨⟨⟨⟨⟨⟨⟨⟨⟨⟨⟨wf_ok, laidOut⟩, mapsRowed_ok⟩, (by kernel_rfl)⟩, tie_ok⟩, (by kernel_rfl)⟩, (by kernel_rfl)⟩, (by kernel_rfl)⟩, (by kernel_rfl)⟩, inPlace_ok⟩, unfollowed_ok⟩, recurses_ok⟩, named_ok⟩, (by kernel_rfl)⟩, (by kernel_rfl)⟩, (by kernel_rfl)⟩, (by kernel_rfl)⟩, (by kernel_rfl)⟩, (by kernel_rfl)⟩, (by kernel_rfl)⟩, (by kernel_rfl)⟩, (by kernel_rfl)⟩, plainKeys_ok⟩, (by kernel_rfl)⟩, stopsHeard_ok⟩, mayEnter_ok⟩, lifted_ok⟩, make_ok⟩, (by kernel_rfl)⟩, (by kernel_rfl)⟩, (by kernel_rfl)⟩, veiled_ok⟩
theorem proved : Rows.StartStatusesSaid :=
  OpenClaim.holds_of_wide 11 Tryd.f11 rfl rfl rfl rfl rfl rfl rfl ⟨rfl, rfl, rfl, rfl, rfl⟩ rfl rfl rfl rfl rfl (by kernel_rfl) Tryd.func11 facts
    (of_decide_eq_true (by kernel_rfl)) (by unfold Func.isWrapper; first | (rw [if_pos (by decide +kernel)]; kernel_rfl) | (rw [if_neg (by decide +kernel)]; exact ⟨rfl, rfl⟩))
    (fun os started H enc _ => lifted os started H enc)
theorem wfText_ok : Rows.startStatusesRow.wfByText (OpenSpec.ofChange Rows.startStatusesSpec) = true := by kernel_rfl
theorem goes_ok : false = Rows.startStatusesRow.goesBy Tryd.prog := by kernel_rfl
theorem card : Rows.StartStatusesCardSaid :=
  Claim7.holds_tied_plain_at .later [] [.data, .data, .data, .data, .sentinel, .sentinel, .data, .pinned] true Rows.octetMayCard.stood.harness true
    proved (fun _ h => by cases h) wfText_ok (fun _ h => by cases h) startStatuses_row_tie rfl ⟨rfl, rfl⟩ mainIs_ok rfl
    (fun f fn hf hfn => by
      obtain rfl : f = 11 := Option.some.inj ((show Tryd.prog.funcNamed "steward/stewardlaw07.StartStatuses" = some 11 by kernel_rfl).symm.trans hf) |>.symm
      obtain rfl : fn = Tryd.f11 := (Option.some.inj (Tryd.func11.symm.trans hfn)).symm
      exact ⟨looks_ok, fun j t ht => by
        rw [Tryd.params11] at ht
        have hm : t ∈ [9] := by have := Array.mem_of_getElem? ht; simp at this ⊢; omega
        have hall : ([9].all fun u => !Tryd.prog.wantsStandIn u) = true := by kernel_rfl
        exact (show Tryd.prog.wantsStandIn t = false by simpa using List.all_eq_true.1 hall t hm)⟩)
    goes_ok
end Go.Proofs.YtkbjklnkeammiaaDoor.StartStatuses
namespace Go.Proofs.YtkbjklnkeammiaaDoor
theorem startStatuses_card_holds : Rows.StartStatusesCardSaid := StartStatuses.card
#print axioms startStatuses_card_holds
end Go.Proofs.YtkbjklnkeammiaaDoor
