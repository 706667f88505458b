/- RewriteHops returns true for every input: of any fields just those that are not hop by hop go on. -/
import Derived.Test.YthedoophopilgaaDoorRwRow
import Derived.Deep.SlicePairs
import Derived.Lib.SmallJoins
import Derived.Test.YthedoophopilgaaDoorRwM
import Derived.Test.YthedoophopilgaaDoorTie
import Derived.Test.YthedoophopilgaaDoorCards
import Derived.SevenTiedAt
import Derived.ChangeMaps5
set_option linter.unusedVariables false
namespace Go.Proofs.YthedoophopilgaaDoor.RewriteHops
open Go Go.ChangeShapes Go.WideShapes Go.ChangeAt Go.ChangeMaps Go.RowKit Go.Proofs.YthedoophopilgaaDoor.Oct Go.Proofs.YthedoophopilgaaDoor.RwRow
set_option maxRecDepth 100000
open Go.Deep Go.Joins Go.Proofs.YthedoophopilgaaDoor.Rw
theorem add_plain (b o n : Nat) : (⟨b, o, none⟩ : Addr).add n = ⟨b, o + n, none⟩ := by simp [Addr.add]
set_option maxRecDepth 100000 in
theorem flds_trod {H : Type} {enc : TypeId × Value → H} {W : World} {v : Value} {fuel : Nat} {x : DataW H × List MemPlace} (hf : DataW.trod enc Tryd.prog W 0 (fun _ => true) true fuel 22 [v] = some x) (hlt : ∀ y ∈ x.2, y.block < W.heap.size) :
    ∃ xs : List Fld, Flds W v xs ∧ (∀ y ∈ xs, y.1.size ≤ 9223372036854775807 ∧ y.2.size ≤ 9223372036854775807) ∧ ((x.1 = .nil ∧ xs = []) ∨ ∃ es rs, x.1 = .slice es rs ∧ es.length = xs.length) := by
  rcases open_slice_pairs Tryd.underlying22 Tryd.underlying40 (by kernel_rfl) rfl rfl (by kernel_rfl) (by kernel_rfl) hf with ⟨hcs, hx⟩ | ⟨a, len, cap, m, n, V0, V1, D0, D1, P0, P1, hcs, _, hl, hm, hz, hx, hcell⟩
  · obtain rfl : v = .slice none 0 0 := by simpa using hcs
    subst hx
    exact ⟨[], ⟨none, 0, rfl, Nat.le_refl _, fun h => absurd h (by simp)⟩, by simp, .inl ⟨rfl, rfl⟩⟩
  · obtain rfl : v = .slice (some a) len cap := by simpa using hcs
    subst hx
    simp only [if_true] at hz
    have hstr : ∀ i, ∃ y : Fld, i < m → (V0 i = .string y.1 ∧ V1 i = .string y.2 ∧ y.1.size ≤ 9223372036854775807 ∧ y.2.size ≤ 9223372036854775807) := by
      intro i
      by_cases hi : i < m
      · obtain ⟨_, _, h3, h4⟩ := hcell i hi
        obtain ⟨s, hs1, _, hs3⟩ := DataW.trod_string Tryd.underlying9 h3
        obtain ⟨z, hz1, _, hz3⟩ := DataW.trod_string Tryd.underlying9 h4
        simp at hs1 hz1
        refine ⟨(s, z), fun _ => ⟨hs1, hz1, ?_, ?_⟩⟩
        · have : s.size ≤ maxLen := hs3
          unfold maxLen at this
          exact this
        · have : z.size ≤ maxLen := hz3
          unfold maxLen at this
          exact this
      · exact ⟨(⟨#[]⟩, ⟨#[]⟩), fun h => absurd h hi⟩
    obtain ⟨f, hfy⟩ := Classical.axiomOfChoice hstr
    refine ⟨(List.range len).map f, ⟨some a, cap, by simp, by simp; exact hl, fun hp => ?_⟩, ?_, .inr ⟨_, _, rfl, by simp⟩⟩
    · simp at hp
      obtain ⟨b, off, spot⟩ := a
      have hspot : spot = none := by simpa [Addr.add] using World.cell?_spot (hcell 0 (by omega)).1
      subst hspot
      refine ⟨b, off, rfl, hlt (.cell b off) (List.mem_append_left _ (MemPlace.mem_row.2 ⟨0, by omega, by simp⟩)), fun j x hj => ?_⟩
      have hj2 := (List.getElem?_eq_some_iff.1 hj).1
      rw [List.length_map, List.length_range] at hj2
      rw [List.getElem?_map, List.getElem?_range hj2] at hj
      cases hj
      obtain ⟨h1, h2, _, _⟩ := hcell j (by omega)
      obtain ⟨e1, e2, _⟩ := hfy j (by omega)
      rw [add_plain] at h1 h2
      exact ⟨by rw [h1, e1], by rw [← Nat.add_assoc] at h2; rw [h2, e2]⟩
    · intro x hx
      obtain ⟨i, hi, rfl⟩ := List.mem_map.1 hx
      exact (hfy i (by have := List.mem_range.1 hi; omega)).2.2


set_option maxHeartbeats 1000000 in
theorem lifted (os : Os) (started : os.Started) (H : Type) (enc : TypeId × Value → H) :
    ReturnsInHanded {} Tryd.checked os 3 .any (fun w args => (Rows.rewriteHopsSpec.pre enc Tryd.prog Tryd.f3 [] false w args ∧ laidMetH Tryd.prog Rows.rewriteHopsRow.laid w) ∧ sizedMet enc Tryd.prog Tryd.f3 (OpenSpec.ofChange Rows.rewriteHopsSpec) false w args)
      (Rows.rewriteHopsSpec.post enc Tryd.prog Tryd.f3 false true false false) := by
  rw [show Rows.rewriteHopsRow.laid = laid7 from rfl]
  refine wrap (C := Tryd.checked) (X := fun w _ => laidMetH Tryd.prog laid7 w) (fun _ _ _ hh h => h.of_heap hh) own started (by kernel_rfl) Tryd.func3
    (ChangeSpec.witness_shaped (enc := enc) (C := Tryd.checked) (os := os) (X := fun w _ => laidMetH Tryd.prog laid7 w) false (laidStart os) #[.slice none 0 0] 8 rfl (World.shaped_of_RefB (by kernel_rfl) (by kernel_rfl)) (by kernel_rfl) (by kernel_rfl) (by kernel_rfl) (laidStart_met os _)) ?_
  intro W base args ds gs before hval0 hW hsz0 hL hsh
  have hsz : (DataW.weightsEach Tryd.prog (Tryd.f3.params.toList ++ Rows.rewriteHopsSpec.plain.varTypes Tryd.prog) (ds ++ gs)).all (· ≤ reachBytes) = true := hsz0
  have hval : ∀ (j : Nat) t v, Tryd.f3.params[j]? = some t → args[j]? = some v → Value.okWide Tryd.prog W .any base t v := hval0
  have hW' := hW
  obtain ⟨p, q, hA0, hV, rfl, hfz, hnd⟩ := hW
  have hA : DataW.TrodAll enc Tryd.prog W 0 (fun _ => true) true Tryd.f3.params.toList args.toList ds p := hA0
  rw [Tryd.params3] at hA hval hsz
  obtain ⟨v0, vs0, d0, ds0, p0, q0, hargs, rfl, rfl, h0, r0⟩ := trodAll_cons hA
  obtain ⟨rfl, rfl, rfl⟩ := trodAll_nil r0
  obtain rfl : args = #[v0] := by cases args; simp_all
  obtain ⟨rfl, rfl⟩ := trodVars_none hV
  have k0 := h0
  have lt0 : ∀ x ∈ p0, x.block < W.heap.size := by obtain ⟨m, hm⟩ := k0; exact DataW.trod_lt m _ _ _ hm
  have hE := env_of hL hsh
  obtain ⟨fu0, ft0⟩ := k0
  obtain ⟨y0, hy0⟩ : ∃ y, DataW.trod enc Tryd.prog W 0 (fun _ => true) true fu0 22 [v0] = some y := ⟨_, by obtain ⟨a0, l0, c0, rfl⟩ := okWide_slice Tryd.underlying22 (hval 0 22 v0 rfl rfl); exact ft0⟩
  obtain ⟨hya0, hyb0⟩ : y0.1 = d0 ∧ y0.2 = p0 := by
    obtain ⟨a0, l0, c0, rfl⟩ := okWide_slice Tryd.underlying22 (hval 0 22 v0 rfl rfl)
    have := hy0.symm.trans ft0
    cases this; exact ⟨rfl, rfl⟩
  obtain ⟨xs0, hE0, hT0, hdd0⟩ := flds_trod hy0 (fun y hy => lt0 y (hyb0 ▸ hy))
  rw [hya0] at hdd0
  have hN0 : xs0.length ≤ 140737488355328 := by
    rcases hdd0 with ⟨_, hx0⟩ | ⟨es0, rs0, hx0, hl0⟩
    · rw [hx0]; simp
    · rw [hx0] at hsz
      have := sized_slice hsz (j := 0) (t := 22) (e := 40) rfl rfl Tryd.underlying22
      rw [show Tryd.prog.bytesOf 40 = 32 by kernel_rfl] at this
      simp only [reachBytes] at this
      omega
  have k0 : DataW.Trod enc Tryd.prog W 0 (fun _ => true) true 22 v0 d0 p0 := ⟨fu0, ft0⟩
  clear hA0 hval0 hsz0 hsz
  refine (hops_law xs0 v0 W hE hE0 hN0).mono fun e W' ⟨he, bel⟩ => ?_
  subst he
  exact ⟨_, rfl, _, _, _, [], _, [], hW', trodAll_mk1 (shut_bool Tryd.underlying4 _), (trodAll_cons_mk (Below.trod laidOut (by kernel_rfl) (of_decide_eq_true (by kernel_rfl)) k0 bel lt0) trodAll_mk0), rfl, bel.frame _, fun h => by cases h⟩
theorem wf_ok : Rows.rewriteHopsRow.wf (OpenSpec.ofChange Rows.rewriteHopsSpec) = true := by kernel_rfl
theorem inPlace_ok : (Rows.rewriteHopsRow.inPlace == Tryd.prog.inPlace 3) = true := by kernel_rfl
theorem unfollowed_ok : (Rows.rewriteHopsRow.unfollowed == Tryd.prog.unfollowed 3) = true := by kernel_rfl
theorem recurses_ok : (Rows.rewriteHopsRow.recurses == Tryd.prog.recurses 3) = true := by kernel_rfl
theorem named_ok : (Rows.rewriteHopsRow.named == Tryd.prog.varsNamed 3) = true := by kernel_rfl
theorem tie_ok : namedTie Tryd.prog Rows.rewriteHopsRow.named Rows.rewriteHopsSpec.vars = true := by kernel_rfl
theorem veiled_ok : Rows.rewriteHopsRow.veiledFits Tryd.prog Tryd.f3.params.toList (Tryd.f3.params.toList ++ Rows.rewriteHopsSpec.plain.varTypes Tryd.prog ++ Tryd.f3.resultTypes.toList) = true := by kernel_rfl
theorem facts : joinedFacts Tryd.prog 3 Tryd.f3 Rows.rewriteHopsSpec Rows.rewriteHopsRow = true := by
  unfold joinedFacts
  simp only [Bool.and_eq_true]
  exact ⟨⟨⟨⟨⟨⟨⟨⟨⟨⟨⟨⟨⟨⟨⟨⟨⟨⟨⟨⟨⟨⟨⟨⟨⟨⟨⟨⟨⟨⟨⟨wf_ok, laidOut⟩, mapsRowed_ok⟩, (by kernel_rfl)⟩, tie_ok⟩, (by kernel_rfl)⟩, (by kernel_rfl)⟩, (by kernel_rfl)⟩, (by kernel_rfl)⟩, inPlace_ok⟩, unfollowed_ok⟩, recurses_ok⟩, named_ok⟩, (by kernel_rfl)⟩, (by kernel_rfl)⟩, (by kernel_rfl)⟩, (by kernel_rfl)⟩, (by kernel_rfl)⟩, (by kernel_rfl)⟩, (by kernel_rfl)⟩, (by kernel_rfl)⟩, (by kernel_rfl)⟩, plainKeys_ok⟩, (by kernel_rfl)⟩, stopsHeard_ok⟩, mayEnter_ok⟩, lifted_ok⟩, make_ok⟩, (by kernel_rfl)⟩, (by kernel_rfl)⟩, (by kernel_rfl)⟩, veiled_ok⟩
theorem proved : Rows.RewriteHopsSaid :=
  OpenClaim.holds_of_wide 3 Tryd.f3 rfl rfl rfl rfl rfl rfl rfl ⟨rfl, rfl, rfl, rfl, rfl⟩ rfl rfl rfl rfl rfl (by kernel_rfl) Tryd.func3 facts
    (of_decide_eq_true (by kernel_rfl)) (by unfold Func.isWrapper; first | (rw [if_pos (by decide +kernel)]; kernel_rfl) | (rw [if_neg (by decide +kernel)]; exact ⟨rfl, rfl⟩))
    (fun os started H enc _ => lifted os started H enc)
theorem wfText_ok : Rows.rewriteHopsRow.wfByText (OpenSpec.ofChange Rows.rewriteHopsSpec) = true := by kernel_rfl
theorem goes_ok : false = Rows.rewriteHopsRow.goesBy Tryd.prog := by kernel_rfl
theorem card : Rows.RewriteHopsCardSaid :=
  Claim7.holds_tied_plain_at .later [] [.data, .data, .data, .data, .data, .widerDeep, .pinned] true Rows.rewriteHopsCard.stood.harness false
    proved (fun _ h => by cases h) wfText_ok (fun _ h => by cases h) rewriteHops_row_tie rfl ⟨rfl, rfl⟩ mainIs_ok rfl
    (fun f fn hf hfn => by
      obtain rfl : f = 3 := Option.some.inj ((show Tryd.prog.funcNamed "steward/stewardlaw12.RewriteHops" = some 3 by kernel_rfl).symm.trans hf) |>.symm
      obtain rfl : fn = Tryd.f3 := (Option.some.inj (Tryd.func3.symm.trans hfn)).symm
      exact ⟨looks_ok, fun j t ht => by
        rw [Tryd.params3] at ht
        have hm : t ∈ [22] := by have := Array.mem_of_getElem? ht; simp at this ⊢; omega
        have hall : ([22].all fun u => !Tryd.prog.wantsStandIn u) = true := by kernel_rfl
        exact (show Tryd.prog.wantsStandIn t = false by simpa using List.all_eq_true.1 hall t hm)⟩)
    goes_ok
end Go.Proofs.YthedoophopilgaaDoor.RewriteHops
namespace Go.Proofs.YthedoophopilgaaDoor
theorem rewriteHops_card_holds : Rows.RewriteHopsCardSaid := RewriteHops.card
#print axioms rewriteHops_card_holds
end Go.Proofs.YthedoophopilgaaDoor
