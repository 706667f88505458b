/- RingLittle returns true for every input: without an entry each number is answered by whom it was, or by the next one. -/
import Derived.Test.YtiamkhhnnlgemaaDoorRiRow
import Derived.Deep.SlicePairs
import Derived.Lib.SmallJoins
import Derived.Test.YtiamkhhnnlgemaaDoorRiY
import Derived.Test.YtiamkhhnnlgemaaDoorTie
import Derived.Test.YtiamkhhnnlgemaaDoorCards
import Derived.SevenTiedAt
import Derived.ChangeMaps5
set_option linter.unusedVariables false
namespace Go.Proofs.YtiamkhhnnlgemaaDoor.RingLittle
open Go Go.ChangeShapes Go.WideShapes Go.ChangeAt Go.ChangeMaps Go.RowKit Go.Proofs.YtiamkhhnnlgemaaDoor.Oct Go.Proofs.YtiamkhhnnlgemaaDoor.RiRow
set_option maxRecDepth 100000
open Go.Deep Go.Joins Go.Proofs.YtiamkhhnnlgemaaDoor.Ri Go.Proofs.YtiamkhhnnlgemaaDoor.Sip
theorem add_plain (b o n : Nat) : (⟨b, o, none⟩ : Addr).add n = ⟨b, o + n, none⟩ := by simp [Addr.add]
set_option maxRecDepth 100000 in
theorem ents_open {H : Type} {enc : TypeId × Value → H} {W : World} {base : Nat} {v : Value} {d : DataW H} {p : List MemPlace} (hv : Value.okWide Tryd.prog W .any base 22 v)
    (hd : DataW.Trod enc Tryd.prog W 0 (fun _ => true) true 22 v d p) (hlt : ∀ x ∈ p, x.block < W.heap.size) :
    ∃ xs : List Ent, Ents W v xs ∧ (∀ x ∈ xs, x.1.length ≤ 9223372036854775807) ∧ ((d = .nil ∧ xs = []) ∨ ∃ es rs, d = .slice es rs ∧ es.length = xs.length) := by
  obtain ⟨a0, len, cap, rfl⟩ := okWide_slice Tryd.underlying22 hv
  obtain ⟨fuel, hf⟩ := hd
  rcases open_slice_pairs Tryd.underlying22 Tryd.underlying46 (by kernel_rfl) rfl rfl (by kernel_rfl) (by kernel_rfl) hf with ⟨hcs, hx⟩ | ⟨a, len', cap', m, n, V0, V1, D0, D1, P0, P1, hcs, _, hl, hm, hz, hx, hcell⟩
  · simp [Value.cells] at hcs
    obtain ⟨rfl, rfl, rfl⟩ := hcs
    simp only [Prod.mk.injEq] at hx
    exact ⟨[], ⟨none, 0, rfl, Nat.le_refl _, fun h => absurd h (by simp)⟩, by simp, .inl ⟨hx.1, rfl⟩⟩
  · simp [Value.cells] at hcs
    obtain ⟨rfl, rfl, rfl⟩ := hcs
    simp only [Prod.mk.injEq] at hx
    obtain ⟨rfl, rfl⟩ := hx
    simp only [if_true] at hz
    have hstr : ∀ i, ∃ y : Ent, i < m → (V0 i = .string (mk y.1) ∧ V1 i = .int .i64 y.2 ∧ y.1.length ≤ 9223372036854775807) := by
      intro i
      by_cases hi : i < m
      · obtain ⟨_, _, h3, h4⟩ := hcell i hi
        obtain ⟨s, hs1, _, hs3⟩ := DataW.trod_string Tryd.underlying9 h3
        obtain ⟨z, hz1, _⟩ := DataW.trod_int Tryd.underlying3 h4
        simp at hs1 hz1
        refine ⟨(s.data.toList, z), fun _ => ⟨by rw [hs1]; show Value.string s = Value.string (mk s.data.toList); rw [mk_data], hz1, ?_⟩⟩
        have : s.size ≤ maxLen := hs3
        unfold maxLen at this
        exact this
      · exact ⟨([], 0), fun h => absurd h hi⟩
    obtain ⟨f, hfy⟩ := Classical.axiomOfChoice hstr
    refine ⟨(List.range len).map f, ⟨some a, cap, by simp, by simp; exact hl, fun hp => ?_⟩, ?_, .inr ⟨_, _, rfl, by simp⟩⟩
    · simp at hp
      obtain ⟨b, off, spot⟩ := a
      have hspot : spot = none := by simpa [Addr.add] using World.cell?_spot (hcell 0 (by omega)).1
      subst hspot
      refine ⟨b, off, rfl, hlt (.cell b off) (List.mem_append_left _ (MemPlace.mem_row.2 ⟨0, by omega, by simp⟩)), fun j x hj => ?_⟩
      have hj2 := (List.getElem?_eq_some_iff.1 hj).1
      rw [List.length_map, List.length_range] at hj2
      rw [List.getElem?_map, List.getElem?_range hj2] at hj
      cases hj
      obtain ⟨h1, h2, _, _⟩ := hcell j (by omega)
      obtain ⟨e1, e2, _⟩ := hfy j (by omega)
      rw [add_plain] at h1 h2
      exact ⟨by rw [h1, e1], by rw [← Nat.add_assoc] at h2; rw [h2, e2]⟩
    · intro x hx
      obtain ⟨i, hi, rfl⟩ := List.mem_map.1 hx
      exact (hfy i (by have := List.mem_range.1 hi; omega)).2.2
theorem ents_trod {H : Type} {enc : TypeId × Value → H} {W : World} {v : Value} {fuel : Nat} {x : DataW H × List MemPlace} (hf : DataW.trod enc Tryd.prog W 0 (fun _ => true) true fuel 22 [v] = some x) (hlt : ∀ y ∈ x.2, y.block < W.heap.size) :
    ∃ xs : List Ent, Ents W v xs ∧ (∀ y ∈ xs, y.1.length ≤ 9223372036854775807) ∧ ((x.1 = .nil ∧ xs = []) ∨ ∃ es rs, x.1 = .slice es rs ∧ es.length = xs.length) := by
  rcases open_slice_pairs Tryd.underlying22 Tryd.underlying46 (by kernel_rfl) rfl rfl (by kernel_rfl) (by kernel_rfl) hf with ⟨hcs, hx⟩ | ⟨a, len, cap, m, n, V0, V1, D0, D1, P0, P1, hcs, _, hl, hm, hz, hx, hcell⟩
  · obtain rfl : v = .slice none 0 0 := by simpa using hcs
    subst hx
    exact ⟨[], ⟨none, 0, rfl, Nat.le_refl _, fun h => absurd h (by simp)⟩, by simp, .inl ⟨rfl, rfl⟩⟩
  · obtain rfl : v = .slice (some a) len cap := by simpa using hcs
    subst hx
    simp only [if_true] at hz
    have hstr : ∀ i, ∃ y : Ent, i < m → (V0 i = .string (mk y.1) ∧ V1 i = .int .i64 y.2 ∧ y.1.length ≤ 9223372036854775807) := by
      intro i
      by_cases hi : i < m
      · obtain ⟨_, _, h3, h4⟩ := hcell i hi
        obtain ⟨s, hs1, _, hs3⟩ := DataW.trod_string Tryd.underlying9 h3
        obtain ⟨z, hz1, _⟩ := DataW.trod_int Tryd.underlying3 h4
        simp at hs1 hz1
        refine ⟨(s.data.toList, z), fun _ => ⟨by rw [hs1]; show Value.string s = Value.string (mk s.data.toList); rw [mk_data], hz1, ?_⟩⟩
        have : s.size ≤ maxLen := hs3
        unfold maxLen at this
        exact this
      · exact ⟨([], 0), fun h => absurd h hi⟩
    obtain ⟨f, hfy⟩ := Classical.axiomOfChoice hstr
    refine ⟨(List.range len).map f, ⟨some a, cap, by simp, by simp; exact hl, fun hp => ?_⟩, ?_, .inr ⟨_, _, rfl, by simp⟩⟩
    · simp at hp
      obtain ⟨b, off, spot⟩ := a
      have hspot : spot = none := by simpa [Addr.add] using World.cell?_spot (hcell 0 (by omega)).1
      subst hspot
      refine ⟨b, off, rfl, hlt (.cell b off) (List.mem_append_left _ (MemPlace.mem_row.2 ⟨0, by omega, by simp⟩)), fun j x hj => ?_⟩
      have hj2 := (List.getElem?_eq_some_iff.1 hj).1
      rw [List.length_map, List.length_range] at hj2
      rw [List.getElem?_map, List.getElem?_range hj2] at hj
      cases hj
      obtain ⟨h1, h2, _, _⟩ := hcell j (by omega)
      obtain ⟨e1, e2, _⟩ := hfy j (by omega)
      rw [add_plain] at h1 h2
      exact ⟨by rw [h1, e1], by rw [← Nat.add_assoc] at h2; rw [h2, e2]⟩
    · intro x hx
      obtain ⟨i, hi, rfl⟩ := List.mem_map.1 hx
      exact (hfy i (by have := List.mem_range.1 hi; omega)).2.2


set_option maxHeartbeats 1000000 in
theorem lifted (os : Os) (started : os.Started) (H : Type) (enc : TypeId × Value → H) :
    ReturnsInHanded {} Tryd.checked os 6 .any (fun w args => (Rows.ringLittleSpec.pre enc Tryd.prog Tryd.f6 [] false w args ∧ laidMetH Tryd.prog Rows.ringLittleRow.laid w) ∧ sizedMet enc Tryd.prog Tryd.f6 (OpenSpec.ofChange Rows.ringLittleSpec) false w args)
      (Rows.ringLittleSpec.post enc Tryd.prog Tryd.f6 false true false false) := by
  rw [show Rows.ringLittleRow.laid = laid7 from rfl]
  refine wrap (C := Tryd.checked) (X := fun w _ => laidMetH Tryd.prog laid7 w) (fun _ _ _ hh h => h.of_heap hh) own started (by kernel_rfl) Tryd.func6
    (ChangeSpec.witness_shaped (enc := enc) (C := Tryd.checked) (os := os) (X := fun w _ => laidMetH Tryd.prog laid7 w) false (laidStart os) #[.agg #[.string ⟨#[]⟩, .slice none 0 0, .int .i64 0, .int .u64 0]] 8 rfl (World.shaped_of_RefB (by kernel_rfl) (by kernel_rfl)) (by kernel_rfl) (by kernel_rfl) (by kernel_rfl) (laidStart_met os _)) ?_
  intro W base args ds gs before hval0 hW hsz0 hL hsh
  have hsz : (DataW.weightsEach Tryd.prog (Tryd.f6.params.toList ++ Rows.ringLittleSpec.plain.varTypes Tryd.prog) (ds ++ gs)).all (· ≤ reachBytes) = true := hsz0
  have hval : ∀ (j : Nat) t v, Tryd.f6.params[j]? = some t → args[j]? = some v → Value.okWide Tryd.prog W .any base t v := hval0
  have hW' := hW
  obtain ⟨p, q, hA0, hV, rfl, hfz, hnd⟩ := hW
  have hA : DataW.TrodAll enc Tryd.prog W 0 (fun _ => true) true Tryd.f6.params.toList args.toList ds p := hA0
  rw [Tryd.params6] at hA hval hsz
  obtain ⟨v0, vs0, d0, ds0, p0, q0, hargs, rfl, rfl, h0, r0⟩ := trodAll_cons hA
  obtain ⟨rfl, rfl, rfl⟩ := trodAll_nil r0
  obtain rfl : args = #[v0] := by cases args; simp_all
  obtain ⟨rfl, rfl⟩ := trodVars_none hV
  have k0 := h0
  have lt0 : ∀ x ∈ p0, x.block < W.heap.size := by obtain ⟨m, hm⟩ := k0; exact DataW.trod_lt m _ _ _ hm
  have hE := env_of hL hsh
  obtain ⟨va0, vb0, vc0, ve0, ya0, yb0, yc0, ye0, n0, rfl, rfl, rfl, ta0, tb0, tc0, te0⟩ := open_agg4 Tryd.underlying56 (by kernel_rfl) (by kernel_rfl) (hval 0 56 v0 rfl rfl) h0
  obtain ⟨s0, hsa0, _, hsl0⟩ := DataW.trod_string Tryd.underlying9 ta0
  obtain rfl : va0 = .string s0 := by simpa using hsa0
  obtain ⟨xs0, hE0, hT0, hdd0⟩ := ents_trod tb0 (fun y hy => lt0 y (List.mem_append_right _ (List.mem_append_left _ hy)))
  obtain ⟨wh0, hwh0, _, _⟩ := DataW.trod_int Tryd.underlying3 tc0
  obtain rfl : vc0 = .int .i64 wh0 := by simpa using hwh0
  obtain ⟨m0, hm0, _, _⟩ := DataW.trod_int Tryd.underlying39 te0
  obtain rfl : ve0 = .int .u64 m0 := by simpa using hm0
  have hszn : (DataW.weightsEach Tryd.prog [9, 22, 3, 39] [ya0.1, yb0.1, yc0.1, ye0.1]).all (· ≤ reachBytes) = true := List.all_eq_true.2 fun n hn => List.all_eq_true.1 hsz n (DataW.weights_mem_each (j := 0) rfl rfl n (by simpa [DataW.weights, Tryd.underlying56] using hn))
  have hN0 : xs0.length ≤ 140737488355328 := by
    rcases hdd0 with ⟨_, hx0⟩ | ⟨es0, rs0, hx0, hl0⟩
    · rw [hx0]; simp
    · rw [hx0] at hszn
      have := sized_slice hszn (j := 1) (t := 22) (e := 46) rfl rfl Tryd.underlying22
      rw [show Tryd.prog.bytesOf 46 = 24 by kernel_rfl] at this
      simp only [reachBytes] at this
      omega
  clear hA0 hval0 hsz0 hsz
  refine ((mk_data s0 ▸ little_law s0.data.toList xs0 vb0 wh0 m0 W hE hE0 hN0 hT0)).mono fun e W' ⟨he, bel⟩ => ?_
  subst he
  exact ⟨_, rfl, _, _, _, [], _, [], hW', trodAll_mk1 (shut_bool Tryd.underlying4 _), (trodAll_cons_mk (Below.trod laidOut (by kernel_rfl) (of_decide_eq_true (by kernel_rfl)) k0 bel lt0) trodAll_mk0), rfl, bel.frame _, fun h => by cases h⟩
theorem wf_ok : Rows.ringLittleRow.wf (OpenSpec.ofChange Rows.ringLittleSpec) = true := by kernel_rfl
theorem inPlace_ok : (Rows.ringLittleRow.inPlace == Tryd.prog.inPlace 6) = true := by kernel_rfl
theorem unfollowed_ok : (Rows.ringLittleRow.unfollowed == Tryd.prog.unfollowed 6) = true := by kernel_rfl
theorem recurses_ok : (Rows.ringLittleRow.recurses == Tryd.prog.recurses 6) = true := by kernel_rfl
theorem named_ok : (Rows.ringLittleRow.named == Tryd.prog.varsNamed 6) = true := by kernel_rfl
theorem tie_ok : namedTie Tryd.prog Rows.ringLittleRow.named Rows.ringLittleSpec.vars = true := by kernel_rfl
theorem veiled_ok : Rows.ringLittleRow.veiledFits Tryd.prog Tryd.f6.params.toList (Tryd.f6.params.toList ++ Rows.ringLittleSpec.plain.varTypes Tryd.prog ++ Tryd.f6.resultTypes.toList) = true := by kernel_rfl
theorem facts : joinedFacts Tryd.prog 6 Tryd.f6 Rows.ringLittleSpec Rows.ringLittleRow = true := by
  unfold joinedFacts
  simp only [Bool.and_eq_true]
  exact ⟨⟨⟨⟨⟨⟨⟨⟨⟨⟨⟨⟨⟨⟨⟨⟨⟨⟨⟨⟨⟨⟨⟨⟨⟨⟨⟨⟨⟨⟨⟨wf_ok, laidOut⟩, mapsRowed_ok⟩, (by kernel_rfl)⟩, tie_ok⟩, (by kernel_rfl)⟩, (by kernel_rfl)⟩, (by kernel_rfl)⟩, (by kernel_rfl)⟩, inPlace_ok⟩, unfollowed_ok⟩, recurses_ok⟩, named_ok⟩, (by kernel_rfl)⟩, (by kernel_rfl)⟩, (by kernel_rfl)⟩, (by kernel_rfl)⟩, (by kernel_rfl)⟩, (by kernel_rfl)⟩, (by kernel_rfl)⟩, (by kernel_rfl)⟩, (by kernel_rfl)⟩, plainKeys_ok⟩, (by kernel_rfl)⟩, stopsHeard_ok⟩, mayEnter_ok⟩, lifted_ok⟩, make_ok⟩, (by kernel_rfl)⟩, (by kernel_rfl)⟩, (by kernel_rfl)⟩, veiled_ok⟩
theorem proved : Rows.RingLittleSaid :=
  OpenClaim.holds_of_wide 6 Tryd.f6 rfl rfl rfl rfl rfl rfl rfl ⟨rfl, rfl, rfl, rfl, rfl⟩ rfl rfl rfl rfl rfl (by kernel_rfl) Tryd.func6 facts
    (of_decide_eq_true (by kernel_rfl)) (by unfold Func.isWrapper; first | (rw [if_pos (by decide +kernel)]; kernel_rfl) | (rw [if_neg (by decide +kernel)]; exact ⟨rfl, rfl⟩))
    (fun os started H enc _ => lifted os started H enc)
theorem wfText_ok : Rows.ringLittleRow.wfByText (OpenSpec.ofChange Rows.ringLittleSpec) = true := by kernel_rfl
theorem goes_ok : false = Rows.ringLittleRow.goesBy Tryd.prog := by kernel_rfl
theorem card : Rows.RingLittleCardSaid :=
  Claim7.holds_tied_plain_at .later [] [.data, .data, .data] true Rows.ringBuildsCard.stood.harness false
    proved (fun _ h => by cases h) wfText_ok (fun _ h => by cases h) ringLittle_row_tie rfl ⟨rfl, rfl⟩ mainIs_ok rfl
    (fun f fn hf hfn => by
      obtain rfl : f = 6 := Option.some.inj ((show Tryd.prog.funcNamed "steward/stewardlaw19.RingLittle" = some 6 by kernel_rfl).symm.trans hf) |>.symm
      obtain rfl : fn = Tryd.f6 := (Option.some.inj (Tryd.func6.symm.trans hfn)).symm
      exact ⟨looks_ok, fun j t ht => by
        rw [Tryd.params6] at ht
        have hm : t ∈ [56] := by have := Array.mem_of_getElem? ht; simp at this ⊢; omega
        have hall : ([56].all fun u => !Tryd.prog.wantsStandIn u) = true := by kernel_rfl
        exact (show Tryd.prog.wantsStandIn t = false by simpa using List.all_eq_true.1 hall t hm)⟩)
    goes_ok
end Go.Proofs.YtiamkhhnnlgemaaDoor.RingLittle
namespace Go.Proofs.YtiamkhhnnlgemaaDoor
theorem ringLittle_card_holds : Rows.RingLittleCardSaid := RingLittle.card
#print axioms ringLittle_card_holds
end Go.Proofs.YtiamkhhnnlgemaaDoor
