/- OctetDigits returns true for every input: Digits and HexDigits return the document's digits, which are read back. -/
import Derived.Test.YtkbjklnkeammiaaDoorOctRow
import Derived.Test.YtkbjklnkeammiaaDoorOctD2
import Derived.Test.YtkbjklnkeammiaaDoorTie
import Derived.Test.YtkbjklnkeammiaaDoorCards
import Derived.SevenTiedAt
import Derived.ChangeMaps5
set_option linter.unusedVariables false
namespace Go.Proofs.YtkbjklnkeammiaaDoor.OctDigits
open Go Go.ChangeShapes Go.WideShapes Go.ChangeAt Go.ChangeMaps Go.RowKit Go.Proofs.YtkbjklnkeammiaaDoor.Oct Go.Proofs.YtkbjklnkeammiaaDoor.OctRow
set_option maxRecDepth 100000

set_option maxHeartbeats 1000000 in
theorem lifted (os : Os) (started : os.Started) (H : Type) (enc : TypeId × Value → H) :
    ReturnsInHanded {} Tryd.checked os 8 .any (fun w args => (Rows.octetDigitsSpec.pre enc Tryd.prog Tryd.f8 [] false w args ∧ laidMetH Tryd.prog Rows.octetDigitsRow.laid w) ∧ sizedMet enc Tryd.prog Tryd.f8 (OpenSpec.ofChange Rows.octetDigitsSpec) false w args)
      (Rows.octetDigitsSpec.post enc Tryd.prog Tryd.f8 false true false false) := by
  rw [show Rows.octetDigitsRow.laid = laid7 from rfl]
  refine wrap (C := Tryd.checked) (X := fun w _ => laidMetH Tryd.prog laid7 w) (fun _ _ _ hh h => h.of_heap hh) own started (by kernel_rfl) Tryd.func8
    (ChangeSpec.witness_shaped (enc := enc) (C := Tryd.checked) (os := os) (X := fun w _ => laidMetH Tryd.prog laid7 w) false (laidStart os) #[.int .i64 0] 8 rfl (World.shaped_of_RefB (by kernel_rfl) (by kernel_rfl)) (by kernel_rfl) (by kernel_rfl) (by kernel_rfl) (laidStart_met os _)) ?_
  intro W base args ds gs before hval0 hW hsz0 hL hsh
  have hsz : (DataW.weightsEach Tryd.prog (Tryd.f8.params.toList ++ Rows.octetDigitsSpec.plain.varTypes Tryd.prog) (ds ++ gs)).all (· ≤ reachBytes) = true := hsz0
  have hval : ∀ (j : Nat) t v, Tryd.f8.params[j]? = some t → args[j]? = some v → Value.okWide Tryd.prog W .any base t v := hval0
  have hW' := hW
  obtain ⟨p, q, hA0, hV, rfl, hfz, hnd⟩ := hW
  have hA : DataW.TrodAll enc Tryd.prog W 0 (fun _ => true) true Tryd.f8.params.toList args.toList ds p := hA0
  rw [Tryd.params8] at hA hval hsz
  obtain ⟨v0, vs0, d0, ds0, p0, q0, hargs, rfl, rfl, h0, r0⟩ := trodAll_cons hA
  obtain ⟨rfl, rfl, rfl⟩ := trodAll_nil r0
  obtain rfl : args = #[v0] := by cases args; simp_all
  obtain ⟨rfl, rfl⟩ := trodVars_none hV
  have k0 := h0
  have lt0 : ∀ x ∈ p0, x.block < W.heap.size := by obtain ⟨m, hm⟩ := k0; exact DataW.trod_lt m _ _ _ hm
  have hE := env_of hL hsh
  obtain ⟨n0, rfl, rfl, rfl, w0⟩ := open_int Tryd.underlying3 (hval 0 3 v0 rfl rfl) h0
  clear hA0 hval0 hsz0 hsz
  refine (digits_law n0 (wf_le w0) W hE).mono fun e W' ⟨he, bel⟩ => ?_
  subst he
  exact ⟨_, rfl, _, _, _, [], _, [], hW', trodAll_mk1 (shut_bool Tryd.underlying4 _), (trodAll_cons_mk (Below.trod laidOut (by kernel_rfl) (of_decide_eq_true (by kernel_rfl)) k0 bel lt0) trodAll_mk0), rfl, bel.frame _, fun h => by cases h⟩
theorem wf_ok : Rows.octetDigitsRow.wf (OpenSpec.ofChange Rows.octetDigitsSpec) = true := by kernel_rfl
theorem inPlace_ok : (Rows.octetDigitsRow.inPlace == Tryd.prog.inPlace 8) = true := by kernel_rfl
theorem unfollowed_ok : (Rows.octetDigitsRow.unfollowed == Tryd.prog.unfollowed 8) = true := by kernel_rfl
theorem recurses_ok : (Rows.octetDigitsRow.recurses == Tryd.prog.recurses 8) = true := by kernel_rfl
theorem named_ok : (Rows.octetDigitsRow.named == Tryd.prog.varsNamed 8) = true := by kernel_rfl
theorem tie_ok : namedTie Tryd.prog Rows.octetDigitsRow.named Rows.octetDigitsSpec.vars = true := by kernel_rfl
theorem veiled_ok : Rows.octetDigitsRow.veiledFits Tryd.prog Tryd.f8.params.toList (Tryd.f8.params.toList ++ Rows.octetDigitsSpec.plain.varTypes Tryd.prog ++ Tryd.f8.resultTypes.toList) = true := by kernel_rfl
theorem facts : joinedFacts Tryd.prog 8 Tryd.f8 Rows.octetDigitsSpec Rows.octetDigitsRow = true := by
  unfold joinedFacts
  simp only [Bool.and_eq_true]
  exact ⟨⟨⟨⟨⟨⟨⟨⟨⟨⟨⟨⟨⟨⟨⟨⟨⟨⟨⟨⟨⟨⟨⟨⟨⟨⟨⟨⟨⟨⟨⟨wf_ok, laidOut⟩, mapsRowed_ok⟩, (by kernel_rfl)⟩, tie_ok⟩, (by kernel_rfl)⟩, (by kernel_rfl)⟩, (by kernel_rfl)⟩, (by kernel_rfl)⟩, inPlace_ok⟩, unfollowed_ok⟩, recurses_ok⟩, named_ok⟩, (by kernel_rfl)⟩, (by kernel_rfl)⟩, (by kernel_rfl)⟩, (by kernel_rfl)⟩, (by kernel_rfl)⟩, (by kernel_rfl)⟩, (by kernel_rfl)⟩, (by kernel_rfl)⟩, (by kernel_rfl)⟩, plainKeys_ok⟩, (by kernel_rfl)⟩, stopsHeard_ok⟩, mayEnter_ok⟩, lifted_ok⟩, make_ok⟩, (by kernel_rfl)⟩, (by kernel_rfl)⟩, (by kernel_rfl)⟩, veiled_ok⟩
theorem proved : Rows.OctetDigitsSaid :=
  OpenClaim.holds_of_wide 8 Tryd.f8 rfl rfl rfl rfl rfl rfl rfl ⟨rfl, rfl, rfl, rfl, rfl⟩ rfl rfl rfl rfl rfl (by kernel_rfl) Tryd.func8 facts
    (of_decide_eq_true (by kernel_rfl)) (by unfold Func.isWrapper; first | (rw [if_pos (by decide +kernel)]; kernel_rfl) | (rw [if_neg (by decide +kernel)]; exact ⟨rfl, rfl⟩))
    (fun os started H enc _ => lifted os started H enc)
theorem wfText_ok : Rows.octetDigitsRow.wfByText (OpenSpec.ofChange Rows.octetDigitsSpec) = true := by kernel_rfl
theorem goes_ok : false = Rows.octetDigitsRow.goesBy Tryd.prog := by kernel_rfl
theorem card : Rows.OctetDigitsCardSaid :=
  Claim7.holds_tied_plain_at .later [] [.data, .data, .data, .data, .sentinel, .sentinel, .pinned] true Rows.octetMayCard.stood.harness true
    proved (fun _ h => by cases h) wfText_ok (fun _ h => by cases h) octetDigits_row_tie rfl ⟨rfl, rfl⟩ mainIs_ok rfl
    (fun f fn hf hfn => by
      obtain rfl : f = 8 := Option.some.inj ((show Tryd.prog.funcNamed "steward/stewardlaw05.OctetDigits" = some 8 by kernel_rfl).symm.trans hf) |>.symm
      obtain rfl : fn = Tryd.f8 := (Option.some.inj (Tryd.func8.symm.trans hfn)).symm
      exact ⟨looks_ok, fun j t ht => by
        rw [Tryd.params8] at ht
        have hm : t ∈ [3] := by have := Array.mem_of_getElem? ht; simp at this ⊢; omega
        have hall : ([3].all fun u => !Tryd.prog.wantsStandIn u) = true := by kernel_rfl
        exact (show Tryd.prog.wantsStandIn t = false by simpa using List.all_eq_true.1 hall t hm)⟩)
    goes_ok
end Go.Proofs.YtkbjklnkeammiaaDoor.OctDigits
namespace Go.Proofs.YtkbjklnkeammiaaDoor
theorem octetDigits_card_holds : Rows.OctetDigitsCardSaid := OctDigits.card
#print axioms octetDigits_card_holds
end Go.Proofs.YtkbjklnkeammiaaDoor
