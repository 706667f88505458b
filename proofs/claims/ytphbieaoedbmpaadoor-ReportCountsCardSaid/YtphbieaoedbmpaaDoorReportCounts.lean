/- ReportCounts returns true for every input: what is counted, and each line, is just the document's. -/
import Derived.Test.YtphbieaoedbmpaaDoorRpRow
import Derived.Deep.SlicePairs
import Derived.Lib.SmallJoins
import Derived.Test.YtphbieaoedbmpaaDoorRpN
import Derived.Test.YtphbieaoedbmpaaDoorTie
import Derived.Test.YtphbieaoedbmpaaDoorCards
import Derived.SevenTiedAt
import Derived.ChangeMaps5
set_option linter.unusedVariables false
namespace Go.Proofs.YtphbieaoedbmpaaDoor.ReportCounts
open Go Go.ChangeShapes Go.WideShapes Go.ChangeAt Go.ChangeMaps Go.RowKit Go.Proofs.YtphbieaoedbmpaaDoor.Oct Go.Proofs.YtphbieaoedbmpaaDoor.RpRow
set_option maxRecDepth 100000
open Go.Deep Go.Joins Go.Proofs.YtphbieaoedbmpaaDoor.Rp

set_option maxHeartbeats 1000000 in
theorem lifted (os : Os) (started : os.Started) (H : Type) (enc : TypeId × Value → H) :
    ReturnsInHanded {} Tryd.checked os 3 .any (fun w args => (Rows.reportCountsSpec.pre enc Tryd.prog Tryd.f3 [] false w args ∧ laidMetH Tryd.prog Rows.reportCountsRow.laid w) ∧ sizedMet enc Tryd.prog Tryd.f3 (OpenSpec.ofChange Rows.reportCountsSpec) false w args)
      (Rows.reportCountsSpec.post enc Tryd.prog Tryd.f3 false true false false) := by
  rw [show Rows.reportCountsRow.laid = laid7 from rfl]
  refine wrap (C := Tryd.checked) (X := fun w _ => laidMetH Tryd.prog laid7 w) (fun _ _ _ hh h => h.of_heap hh) own started (by kernel_rfl) Tryd.func3
    (ChangeSpec.witness_shaped (enc := enc) (C := Tryd.checked) (os := os) (X := fun w _ => laidMetH Tryd.prog laid7 w) false (laidStart os) #[.slice none 0 0, .int .i64 0, .string ⟨#[]⟩] 8 rfl (World.shaped_of_RefB (by kernel_rfl) (by kernel_rfl)) (by kernel_rfl) (by kernel_rfl) (by kernel_rfl) (laidStart_met os _)) ?_
  intro W base args ds gs before hval0 hW hsz0 hL hsh
  have hsz : (DataW.weightsEach Tryd.prog (Tryd.f3.params.toList ++ Rows.reportCountsSpec.plain.varTypes Tryd.prog) (ds ++ gs)).all (· ≤ reachBytes) = true := hsz0
  have hval : ∀ (j : Nat) t v, Tryd.f3.params[j]? = some t → args[j]? = some v → Value.okWide Tryd.prog W .any base t v := hval0
  have hW' := hW
  obtain ⟨p, q, hA0, hV, rfl, hfz, hnd⟩ := hW
  have hA : DataW.TrodAll enc Tryd.prog W 0 (fun _ => true) true Tryd.f3.params.toList args.toList ds p := hA0
  rw [Tryd.params3] at hA hval hsz
  obtain ⟨v0, vs0, d0, ds0, p0, q0, hargs, rfl, rfl, h0, r0⟩ := trodAll_cons hA
  obtain ⟨v1, vs1, d1, ds1, p1, q1, rfl, rfl, rfl, h1, r1⟩ := trodAll_cons r0
  obtain ⟨v2, vs2, d2, ds2, p2, q2, rfl, rfl, rfl, h2, r2⟩ := trodAll_cons r1
  obtain ⟨rfl, rfl, rfl⟩ := trodAll_nil r2
  obtain rfl : args = #[v0, v1, v2] := by cases args; simp_all
  obtain ⟨rfl, rfl⟩ := trodVars_none hV
  have k0 := h0
  have lt0 : ∀ x ∈ p0, x.block < W.heap.size := by obtain ⟨m, hm⟩ := k0; exact DataW.trod_lt m _ _ _ hm
  have k1 := h1
  have lt1 : ∀ x ∈ p1, x.block < W.heap.size := by obtain ⟨m, hm⟩ := k1; exact DataW.trod_lt m _ _ _ hm
  have k2 := h2
  have lt2 : ∀ x ∈ p2, x.block < W.heap.size := by obtain ⟨m, hm⟩ := k2; exact DataW.trod_lt m _ _ _ hm
  have hE := env_of hL hsh
  obtain ⟨fu0, ft0⟩ := k0
  obtain ⟨y0, hy0⟩ : ∃ y, DataW.trod enc Tryd.prog W 0 (fun _ => true) true fu0 22 [v0] = some y := ⟨_, by obtain ⟨a0, l0, c0, rfl⟩ := okWide_slice Tryd.underlying22 (hval 0 22 v0 rfl rfl); exact ft0⟩
  obtain ⟨hya0, hyb0⟩ : y0.1 = d0 ∧ y0.2 = p0 := by
    obtain ⟨a0, l0, c0, rfl⟩ := okWide_slice Tryd.underlying22 (hval 0 22 v0 rfl rfl)
    have := hy0.symm.trans ft0
    cases this; exact ⟨rfl, rfl⟩
  obtain ⟨xs0, hE0, hT0, hdd0⟩ := notes_trod hy0 (fun y hy => lt0 y (hyb0 ▸ hy))
  rw [hya0] at hdd0
  have hN0 : xs0.length ≤ 140737488355328 := by
    rcases hdd0 with ⟨_, hx0⟩ | ⟨es0, rs0, hx0, hl0⟩
    · rw [hx0]; simp
    · rw [hx0] at hsz
      have := sized_slice hsz (j := 0) (t := 22) (e := 42) rfl rfl Tryd.underlying22
      rw [show Tryd.prog.bytesOf 42 = 56 by kernel_rfl] at this
      simp only [reachBytes] at this
      omega
  have k0 : DataW.Trod enc Tryd.prog W 0 (fun _ => true) true 22 v0 d0 p0 := ⟨fu0, ft0⟩
  obtain ⟨n1, rfl, rfl, rfl, w1⟩ := open_int Tryd.underlying3 (hval 1 3 v1 rfl rfl) h1
  obtain ⟨s2, rfl, rfl, rfl, w2⟩ := open_string Tryd.underlying9 (hval 2 9 v2 rfl rfl) h2
  clear hA0 hval0 hsz0 hsz
  refine ((mk_data s2 ▸ counts_law xs0 n1 s2.data.toList v0 W hE0 hE hN0 hT0 w1)).mono fun e W' ⟨he, bel⟩ => ?_
  subst he
  exact ⟨_, rfl, _, _, _, [], _, [], hW', trodAll_mk1 (shut_bool Tryd.underlying4 _), (trodAll_cons_mk (Below.trod laidOut (by kernel_rfl) (of_decide_eq_true (by kernel_rfl)) k0 bel lt0) (trodAll_cons_mk (Below.trod laidOut (by kernel_rfl) (of_decide_eq_true (by kernel_rfl)) k1 bel lt1) (trodAll_cons_mk (Below.trod laidOut (by kernel_rfl) (of_decide_eq_true (by kernel_rfl)) k2 bel lt2) trodAll_mk0))), rfl, bel.frame _, fun h => by cases h⟩
theorem wf_ok : Rows.reportCountsRow.wf (OpenSpec.ofChange Rows.reportCountsSpec) = true := by kernel_rfl
theorem inPlace_ok : (Rows.reportCountsRow.inPlace == Tryd.prog.inPlace 3) = true := by kernel_rfl
theorem unfollowed_ok : (Rows.reportCountsRow.unfollowed == Tryd.prog.unfollowed 3) = true := by kernel_rfl
theorem recurses_ok : (Rows.reportCountsRow.recurses == Tryd.prog.recurses 3) = true := by kernel_rfl
theorem named_ok : (Rows.reportCountsRow.named == Tryd.prog.varsNamed 3) = true := by kernel_rfl
theorem tie_ok : namedTie Tryd.prog Rows.reportCountsRow.named Rows.reportCountsSpec.vars = true := by kernel_rfl
theorem veiled_ok : Rows.reportCountsRow.veiledFits Tryd.prog Tryd.f3.params.toList (Tryd.f3.params.toList ++ Rows.reportCountsSpec.plain.varTypes Tryd.prog ++ Tryd.f3.resultTypes.toList) = true := by kernel_rfl
theorem facts : joinedFacts Tryd.prog 3 Tryd.f3 Rows.reportCountsSpec Rows.reportCountsRow = true := by
  unfold joinedFacts
  simp only [Bool.and_eq_true]
  exact ⟨⟨⟨⟨⟨⟨⟨⟨⟨⟨⟨⟨⟨⟨⟨⟨⟨⟨⟨⟨⟨⟨⟨⟨⟨⟨⟨⟨⟨⟨⟨wf_ok, laidOut⟩, mapsRowed_ok⟩, (by kernel_rfl)⟩, tie_ok⟩, (by kernel_rfl)⟩, (by kernel_rfl)⟩, (by kernel_rfl)⟩, (by kernel_rfl)⟩, inPlace_ok⟩, unfollowed_ok⟩, recurses_ok⟩, named_ok⟩, (by kernel_rfl)⟩, (by kernel_rfl)⟩, (by kernel_rfl)⟩, (by kernel_rfl)⟩, (by kernel_rfl)⟩, (by kernel_rfl)⟩, (by kernel_rfl)⟩, (by kernel_rfl)⟩, (by kernel_rfl)⟩, plainKeys_ok⟩, (by kernel_rfl)⟩, stopsHeard_ok⟩, mayEnter_ok⟩, lifted_ok⟩, make_ok⟩, (by kernel_rfl)⟩, (by kernel_rfl)⟩, (by kernel_rfl)⟩, veiled_ok⟩
theorem proved : Rows.ReportCountsSaid :=
  OpenClaim.holds_of_wide 3 Tryd.f3 rfl rfl rfl rfl rfl rfl rfl ⟨rfl, rfl, rfl, rfl, rfl⟩ rfl rfl rfl rfl rfl (by kernel_rfl) Tryd.func3 facts
    (of_decide_eq_true (by kernel_rfl)) (by unfold Func.isWrapper; first | (rw [if_pos (by decide +kernel)]; kernel_rfl) | (rw [if_neg (by decide +kernel)]; exact ⟨rfl, rfl⟩))
    (fun os started H enc _ => lifted os started H enc)
theorem wfText_ok : Rows.reportCountsRow.wfByText (OpenSpec.ofChange Rows.reportCountsSpec) = true := by kernel_rfl
theorem goes_ok : false = Rows.reportCountsRow.goesBy Tryd.prog := by kernel_rfl
theorem card : Rows.ReportCountsCardSaid :=
  Claim7.holds_tied_plain_at .later [] [.data, .data, .data, .data] true Rows.reportCountsCard.stood.harness false
    proved (fun _ h => by cases h) wfText_ok (fun _ h => by cases h) reportCounts_row_tie rfl ⟨rfl, rfl⟩ mainIs_ok rfl
    (fun f fn hf hfn => by
      obtain rfl : f = 3 := Option.some.inj ((show Tryd.prog.funcNamed "steward/stewardlaw30.ReportCounts" = some 3 by kernel_rfl).symm.trans hf) |>.symm
      obtain rfl : fn = Tryd.f3 := (Option.some.inj (Tryd.func3.symm.trans hfn)).symm
      exact ⟨looks_ok, fun j t ht => by
        rw [Tryd.params3] at ht
        have hm : t ∈ [22, 3, 9] := by have := Array.mem_of_getElem? ht; simp at this ⊢; omega
        have hall : ([22, 3, 9].all fun u => !Tryd.prog.wantsStandIn u) = true := by kernel_rfl
        exact (show Tryd.prog.wantsStandIn t = false by simpa using List.all_eq_true.1 hall t hm)⟩)
    goes_ok
end Go.Proofs.YtphbieaoedbmpaaDoor.ReportCounts
namespace Go.Proofs.YtphbieaoedbmpaaDoor
theorem reportCounts_card_holds : Rows.ReportCountsCardSaid := ReportCounts.card
#print axioms reportCounts_card_holds
end Go.Proofs.YtphbieaoedbmpaaDoor
