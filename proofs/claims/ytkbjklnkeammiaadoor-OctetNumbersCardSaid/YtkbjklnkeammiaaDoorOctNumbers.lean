/- OctetNumbers returns true for every input: Dec and Hex return the document's numbers, or its errors. -/
import Derived.Test.YtkbjklnkeammiaaDoorOctRow
import Derived.Test.YtkbjklnkeammiaaDoorOctY
import Derived.Test.YtkbjklnkeammiaaDoorTie
import Derived.Test.YtkbjklnkeammiaaDoorCards
import Derived.SevenTiedAt
import Derived.ChangeMaps5
set_option linter.unusedVariables false
namespace Go.Proofs.YtkbjklnkeammiaaDoor.OctNumbers
open Go Go.ChangeShapes Go.WideShapes Go.ChangeAt Go.ChangeMaps Go.RowKit Go.Proofs.YtkbjklnkeammiaaDoor.Oct Go.Proofs.YtkbjklnkeammiaaDoor.OctRow
set_option maxRecDepth 100000

set_option maxHeartbeats 1000000 in
theorem lifted (os : Os) (started : os.Started) (H : Type) (enc : TypeId × Value → H) :
    ReturnsInHanded {} Tryd.checked os 7 .any (fun w args => (Rows.octetNumbersSpec.pre enc Tryd.prog Tryd.f7 [] false w args ∧ laidMetH Tryd.prog Rows.octetNumbersRow.laid w) ∧ sizedMet enc Tryd.prog Tryd.f7 (OpenSpec.ofChange Rows.octetNumbersSpec) false w args)
      (Rows.octetNumbersSpec.post enc Tryd.prog Tryd.f7 false true false false) := by
  rw [show Rows.octetNumbersRow.laid = laid7 from rfl]
  refine wrap (C := Tryd.checked) (X := fun w _ => laidMetH Tryd.prog laid7 w) (fun _ _ _ hh h => h.of_heap hh) own started (by kernel_rfl) Tryd.func7
    (ChangeSpec.witness_shaped (enc := enc) (C := Tryd.checked) (os := os) (X := fun w _ => laidMetH Tryd.prog laid7 w) false (laidStart os) #[.string ⟨#[]⟩, .int .i64 0] 8 rfl (World.shaped_of_RefB (by kernel_rfl) (by kernel_rfl)) (by kernel_rfl) (by kernel_rfl) (by kernel_rfl) (laidStart_met os _)) ?_
  intro W base args ds gs before hval0 hW hsz0 hL hsh
  have hsz : (DataW.weightsEach Tryd.prog (Tryd.f7.params.toList ++ Rows.octetNumbersSpec.plain.varTypes Tryd.prog) (ds ++ gs)).all (· ≤ reachBytes) = true := hsz0
  have hval : ∀ (j : Nat) t v, Tryd.f7.params[j]? = some t → args[j]? = some v → Value.okWide Tryd.prog W .any base t v := hval0
  have hW' := hW
  obtain ⟨p, q, hA0, hV, rfl, hfz, hnd⟩ := hW
  have hA : DataW.TrodAll enc Tryd.prog W 0 (fun _ => true) true Tryd.f7.params.toList args.toList ds p := hA0
  rw [Tryd.params7] at hA hval hsz
  obtain ⟨v0, vs0, d0, ds0, p0, q0, hargs, rfl, rfl, h0, r0⟩ := trodAll_cons hA
  obtain ⟨v1, vs1, d1, ds1, p1, q1, rfl, rfl, rfl, h1, r1⟩ := trodAll_cons r0
  obtain ⟨rfl, rfl, rfl⟩ := trodAll_nil r1
  obtain rfl : args = #[v0, v1] := by cases args; simp_all
  obtain ⟨rfl, rfl⟩ := trodVars_none hV
  have k0 := h0
  have lt0 : ∀ x ∈ p0, x.block < W.heap.size := by obtain ⟨m, hm⟩ := k0; exact DataW.trod_lt m _ _ _ hm
  have k1 := h1
  have lt1 : ∀ x ∈ p1, x.block < W.heap.size := by obtain ⟨m, hm⟩ := k1; exact DataW.trod_lt m _ _ _ hm
  have hE := env_of hL hsh
  obtain ⟨s0, rfl, rfl, rfl, w0⟩ := open_string Tryd.underlying9 (hval 0 9 v0 rfl rfl) h0
  obtain ⟨n1, rfl, rfl, rfl, w1⟩ := open_int Tryd.underlying3 (hval 1 3 v1 rfl rfl) h1
  clear hA0 hval0 hsz0 hsz
  refine (numbers_any s0 n1 W hE).mono fun e W' ⟨he, bel⟩ => ?_
  subst he
  exact ⟨_, rfl, _, _, _, [], _, [], hW', trodAll_mk1 (shut_bool Tryd.underlying4 _), (trodAll_cons_mk (Below.trod laidOut (by kernel_rfl) (of_decide_eq_true (by kernel_rfl)) k0 bel lt0) (trodAll_cons_mk (Below.trod laidOut (by kernel_rfl) (of_decide_eq_true (by kernel_rfl)) k1 bel lt1) trodAll_mk0)), rfl, bel.frame _, fun h => by cases h⟩
theorem wf_ok : Rows.octetNumbersRow.wf (OpenSpec.ofChange Rows.octetNumbersSpec) = true := by kernel_rfl
theorem inPlace_ok : (Rows.octetNumbersRow.inPlace == Tryd.prog.inPlace 7) = true := by kernel_rfl
theorem unfollowed_ok : (Rows.octetNumbersRow.unfollowed == Tryd.prog.unfollowed 7) = true := by kernel_rfl
theorem recurses_ok : (Rows.octetNumbersRow.recurses == Tryd.prog.recurses 7) = true := by kernel_rfl
theorem named_ok : (Rows.octetNumbersRow.named == Tryd.prog.varsNamed 7) = true := by kernel_rfl
theorem tie_ok : namedTie Tryd.prog Rows.octetNumbersRow.named Rows.octetNumbersSpec.vars = true := by kernel_rfl
theorem veiled_ok : Rows.octetNumbersRow.veiledFits Tryd.prog Tryd.f7.params.toList (Tryd.f7.params.toList ++ Rows.octetNumbersSpec.plain.varTypes Tryd.prog ++ Tryd.f7.resultTypes.toList) = true := by kernel_rfl
theorem facts : joinedFacts Tryd.prog 7 Tryd.f7 Rows.octetNumbersSpec Rows.octetNumbersRow = true := by
  unfold joinedFacts
  simp only [Bool.and_eq_true]
  exact ⟨⟨⟨⟨⟨⟨⟨⟨⟨⟨⟨⟨⟨⟨⟨⟨⟨⟨⟨⟨⟨⟨⟨⟨⟨⟨⟨⟨⟨⟨⟨wf_ok, laidOut⟩, mapsRowed_ok⟩, (by kernel_rfl)⟩, tie_ok⟩, (by kernel_rfl)⟩, (by kernel_rfl)⟩, (by kernel_rfl)⟩, (by kernel_rfl)⟩, inPlace_ok⟩, unfollowed_ok⟩, recurses_ok⟩, named_ok⟩, (by kernel_rfl)⟩, (by kernel_rfl)⟩, (by kernel_rfl)⟩, (by kernel_rfl)⟩, (by kernel_rfl)⟩, (by kernel_rfl)⟩, (by kernel_rfl)⟩, (by kernel_rfl)⟩, (by kernel_rfl)⟩, plainKeys_ok⟩, (by kernel_rfl)⟩, stopsHeard_ok⟩, mayEnter_ok⟩, lifted_ok⟩, make_ok⟩, (by kernel_rfl)⟩, (by kernel_rfl)⟩, (by kernel_rfl)⟩, veiled_ok⟩
theorem proved : Rows.OctetNumbersSaid :=
  OpenClaim.holds_of_wide 7 Tryd.f7 rfl rfl rfl rfl rfl rfl rfl ⟨rfl, rfl, rfl, rfl, rfl⟩ rfl rfl rfl rfl rfl (by kernel_rfl) Tryd.func7 facts
    (of_decide_eq_true (by kernel_rfl)) (by unfold Func.isWrapper; first | (rw [if_pos (by decide +kernel)]; kernel_rfl) | (rw [if_neg (by decide +kernel)]; exact ⟨rfl, rfl⟩))
    (fun os started H enc _ => lifted os started H enc)
theorem wfText_ok : Rows.octetNumbersRow.wfByText (OpenSpec.ofChange Rows.octetNumbersSpec) = true := by kernel_rfl
theorem goes_ok : false = Rows.octetNumbersRow.goesBy Tryd.prog := by kernel_rfl
theorem card : Rows.OctetNumbersCardSaid :=
  Claim7.holds_tied_plain_at .later [] [.data, .data, .data, .data, .sentinel, .sentinel, .pinned] true Rows.octetMayCard.stood.harness true
    proved (fun _ h => by cases h) wfText_ok (fun _ h => by cases h) octetNumbers_row_tie rfl ⟨rfl, rfl⟩ mainIs_ok rfl
    (fun f fn hf hfn => by
      obtain rfl : f = 7 := Option.some.inj ((show Tryd.prog.funcNamed "steward/stewardlaw05.OctetNumbers" = some 7 by kernel_rfl).symm.trans hf) |>.symm
      obtain rfl : fn = Tryd.f7 := (Option.some.inj (Tryd.func7.symm.trans hfn)).symm
      exact ⟨looks_ok, fun j t ht => by
        rw [Tryd.params7] at ht
        have hm : t ∈ [9, 3] := by have := Array.mem_of_getElem? ht; simp at this ⊢; omega
        have hall : ([9, 3].all fun u => !Tryd.prog.wantsStandIn u) = true := by kernel_rfl
        exact (show Tryd.prog.wantsStandIn t = false by simpa using List.all_eq_true.1 hall t hm)⟩)
    goes_ok
end Go.Proofs.YtkbjklnkeammiaaDoor.OctNumbers
namespace Go.Proofs.YtkbjklnkeammiaaDoor
theorem octetNumbers_card_holds : Rows.OctetNumbersCardSaid := OctNumbers.card
#print axioms octetNumbers_card_holds
end Go.Proofs.YtkbjklnkeammiaaDoor
