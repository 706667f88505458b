/- StartLines returns true for every input: Line returns the document's line for any request and status. -/
import Derived.Test.YtkbjklnkeammiaaDoorStRow
import Derived.Test.YtkbjklnkeammiaaDoorStM
import Derived.Lib.SmallJoins
import Derived.Test.YtkbjklnkeammiaaDoorTie
import Derived.Test.YtkbjklnkeammiaaDoorCards
import Derived.SevenTiedAt
import Derived.ChangeMaps5
set_option linter.unusedVariables false
namespace Go.Proofs.YtkbjklnkeammiaaDoor.StartLines
open Go Go.ChangeShapes Go.WideShapes Go.ChangeAt Go.ChangeMaps Go.RowKit Go.Proofs.YtkbjklnkeammiaaDoor.Oct Go.Proofs.YtkbjklnkeammiaaDoor.StRow
set_option maxRecDepth 100000
open Go.Proofs.YtkbjklnkeammiaaDoor.OctRow
theorem cellsL : Tryd.prog.cellsOf 68 = 4 := by kernel_rfl
/-- The argument, opened. -/
theorem open_lines {H : Type} {enc : TypeId × Value → H} {W : World} {b0 base : Nat} {sp : Nat → Bool} {held : Bool} {v : Value} {d : DataW H} {p : List MemPlace}
    (hv : Value.okWide Tryd.prog W .any b0 68 v) (h : DataW.Trod enc Tryd.prog W base sp held 68 v d p) :
    ∃ (a b c : ByteArray) (e : Int), v = .agg #[.string a, .string b, .string c, .int .i64 e] := by
  obtain ⟨c0, c1, c2, c3, y0, y1, y2, y3, m, rfl, rfl, rfl, h0, h1, h2, h3⟩ := Go.Joins.open_agg4 Tryd.underlying68 (by kernel_rfl) cellsL hv h
  obtain ⟨a, e0, -⟩ := DataW.trod_string Tryd.underlying9 h0
  obtain ⟨b, e1, -⟩ := DataW.trod_string Tryd.underlying9 h1
  obtain ⟨c, e2, -⟩ := DataW.trod_string Tryd.underlying9 h2
  obtain ⟨e, e3, -⟩ := DataW.trod_int Tryd.underlying3 h3
  simp at e0 e1 e2 e3
  subst e0 e1 e2 e3
  exact ⟨a, b, c, e, rfl⟩
set_option maxHeartbeats 1000000 in
theorem lifted (os : Os) (started : os.Started) (H : Type) (enc : TypeId × Value → H) :
    ReturnsInHanded {} Tryd.checked os 12 .any (fun w args => (Rows.startLinesSpec.pre enc Tryd.prog Tryd.f12 [] false w args ∧ laidMetH Tryd.prog Rows.startLinesRow.laid w) ∧ sizedMet enc Tryd.prog Tryd.f12 (OpenSpec.ofChange Rows.startLinesSpec) false w args)
      (Rows.startLinesSpec.post enc Tryd.prog Tryd.f12 false true false false) := by
  rw [show Rows.startLinesRow.laid = laid8 from rfl]
  refine wrap (C := Tryd.checked) (X := fun w _ => laidMetH Tryd.prog laid8 w) (fun _ _ _ hh h => h.of_heap hh) own started (by kernel_rfl) Tryd.func12
    (ChangeSpec.witness_shaped (enc := enc) (C := Tryd.checked) (os := os) (X := fun w _ => laidMetH Tryd.prog laid8 w) false (laidStart8 os) #[.agg #[.string ⟨#[]⟩, .string ⟨#[]⟩, .string ⟨#[]⟩, .int .i64 0]] 8 rfl (World.shaped_of_RefB (by kernel_rfl) (by kernel_rfl)) (by kernel_rfl) (by kernel_rfl) (by kernel_rfl) (laidStart8_met os _)) ?_
  intro W base args ds gs before hval0 hW hsz0 hL hsh
  have hsz : (DataW.weightsEach Tryd.prog (Tryd.f12.params.toList ++ Rows.startLinesSpec.plain.varTypes Tryd.prog) (ds ++ gs)).all (· ≤ reachBytes) = true := hsz0
  have hval : ∀ (j : Nat) t v, Tryd.f12.params[j]? = some t → args[j]? = some v → Value.okWide Tryd.prog W .any base t v := hval0
  have hW' := hW
  obtain ⟨p, q, hA0, hV, rfl, hfz, hnd⟩ := hW
  have hA : DataW.TrodAll enc Tryd.prog W 0 (fun _ => true) true Tryd.f12.params.toList args.toList ds p := hA0
  rw [Tryd.params12] at hA hval hsz
  obtain ⟨v0, vs0, d0, ds0, p0, q0, hargs, rfl, rfl, h0, r0⟩ := trodAll_cons hA
  obtain ⟨rfl, rfl, rfl⟩ := trodAll_nil r0
  obtain rfl : args = #[v0] := by cases args; simp_all
  obtain ⟨rfl, rfl⟩ := trodVars_none hV
  have k0 := h0
  have lt0 : ∀ x ∈ p0, x.block < W.heap.size := by obtain ⟨m, hm⟩ := k0; exact DataW.trod_lt m _ _ _ hm
  have hE := env8_of hL hsh
  obtain ⟨la, lb, lc, le, rfl⟩ := open_lines (hval 0 68 v0 rfl rfl) h0
  clear hA0 hval0 hsz0 hsz
  refine (lines_any_law la lb lc le W hE).mono fun e W' ⟨he, bel⟩ => ?_
  subst he
  exact ⟨_, rfl, _, _, _, [], _, [], hW', trodAll_mk1 (shut_bool Tryd.underlying4 _), (trodAll_cons_mk (Below.trod laidOut (by kernel_rfl) (of_decide_eq_true (by kernel_rfl)) k0 bel lt0) trodAll_mk0), rfl, bel.frame _, fun h => by cases h⟩
theorem wf_ok : Rows.startLinesRow.wf (OpenSpec.ofChange Rows.startLinesSpec) = true := by kernel_rfl
theorem inPlace_ok : (Rows.startLinesRow.inPlace == Tryd.prog.inPlace 12) = true := by kernel_rfl
theorem unfollowed_ok : (Rows.startLinesRow.unfollowed == Tryd.prog.unfollowed 12) = true := by kernel_rfl
theorem recurses_ok : (Rows.startLinesRow.recurses == Tryd.prog.recurses 12) = true := by kernel_rfl
theorem named_ok : (Rows.startLinesRow.named == Tryd.prog.varsNamed 12) = true := by kernel_rfl
theorem tie_ok : namedTie Tryd.prog Rows.startLinesRow.named Rows.startLinesSpec.vars = true := by kernel_rfl
theorem veiled_ok : Rows.startLinesRow.veiledFits Tryd.prog Tryd.f12.params.toList (Tryd.f12.params.toList ++ Rows.startLinesSpec.plain.varTypes Tryd.prog ++ Tryd.f12.resultTypes.toList) = true := by kernel_rfl
theorem facts : joinedFacts Tryd.prog 12 Tryd.f12 Rows.startLinesSpec Rows.startLinesRow = true := by
  unfold joinedFacts
  simp only [Bool.and_eq_true]
  exact ⟨⟨⟨⟨⟨⟨⟨⟨⟨⟨⟨⟨⟨⟨⟨⟨⟨⟨⟨⟨⟨⟨⟨⟨⟨⟨⟨⟨⟨⟨⟨wf_ok, laidOut⟩, mapsRowed_ok⟩, (by kernel_rfl)⟩, tie_ok⟩, (by kernel_rfl)⟩, (by kernel_rfl)⟩, (by kernel_rfl)⟩, (by kernel_rfl)⟩, inPlace_ok⟩, unfollowed_ok⟩, recurses_ok⟩, named_ok⟩, (by kernel_rfl)⟩, (by kernel_rfl)⟩, (by kernel_rfl)⟩, (by kernel_rfl)⟩, (by kernel_rfl)⟩, (by kernel_rfl)⟩, (by kernel_rfl)⟩, (by kernel_rfl)⟩, (by kernel_rfl)⟩, plainKeys_ok⟩, (by kernel_rfl)⟩, stopsHeard_ok⟩, mayEnter_ok⟩, lifted_ok⟩, make_ok⟩, (by kernel_rfl)⟩, (by kernel_rfl)⟩, (by kernel_rfl)⟩, veiled_ok⟩
theorem proved : Rows.StartLinesSaid :=
  OpenClaim.holds_of_wide 12 Tryd.f12 rfl rfl rfl rfl rfl rfl rfl ⟨rfl, rfl, rfl, rfl, rfl⟩ rfl rfl rfl rfl rfl (by kernel_rfl) Tryd.func12 facts
    (of_decide_eq_true (by kernel_rfl)) (by unfold Func.isWrapper; first | (rw [if_pos (by decide +kernel)]; kernel_rfl) | (rw [if_neg (by decide +kernel)]; exact ⟨rfl, rfl⟩))
    (fun os started H enc _ => lifted os started H enc)
theorem wfText_ok : Rows.startLinesRow.wfByText (OpenSpec.ofChange Rows.startLinesSpec) = true := by kernel_rfl
theorem goes_ok : false = Rows.startLinesRow.goesBy Tryd.prog := by kernel_rfl
theorem card : Rows.StartLinesCardSaid :=
  Claim7.holds_tied_plain_at .later [] [.data, .data, .data, .data, .sentinel, .sentinel, .data, .pinned] true Rows.octetMayCard.stood.harness true
    proved (fun _ h => by cases h) wfText_ok (fun _ h => by cases h) startLines_row_tie rfl ⟨rfl, rfl⟩ mainIs_ok rfl
    (fun f fn hf hfn => by
      obtain rfl : f = 12 := Option.some.inj ((show Tryd.prog.funcNamed "steward/stewardlaw07.StartLines" = some 12 by kernel_rfl).symm.trans hf) |>.symm
      obtain rfl : fn = Tryd.f12 := (Option.some.inj (Tryd.func12.symm.trans hfn)).symm
      exact ⟨looks_ok, fun j t ht => by
        rw [Tryd.params12] at ht
        have hm : t ∈ [68] := by have := Array.mem_of_getElem? ht; simp at this ⊢; omega
        have hall : ([68].all fun u => !Tryd.prog.wantsStandIn u) = true := by kernel_rfl
        exact (show Tryd.prog.wantsStandIn t = false by simpa using List.all_eq_true.1 hall t hm)⟩)
    goes_ok
end Go.Proofs.YtkbjklnkeammiaaDoor.StartLines
namespace Go.Proofs.YtkbjklnkeammiaaDoor
theorem startLines_card_holds : Rows.StartLinesCardSaid := StartLines.card
#print axioms startLines_card_holds
end Go.Proofs.YtkbjklnkeammiaaDoor
