/- RewriteRequests returns true for every input: what goes to a backend is the document's request. -/
import Derived.Test.YthedoophopilgaaGreatDoorRwRowZ
import Derived.Deep.SlicePairs
import Derived.Lib.SmallJoins
import Derived.Test.YthedoophopilgaaGreatDoorRwY
import Derived.Test.YthedoophopilgaaGreatDoorTie
import Derived.Test.YthedoophopilgaaGreatDoorCards
import Derived.SevenTiedAt
import Derived.ChangeMaps5
set_option linter.unusedVariables false
namespace Go.Proofs.YthedoophopilgaaGreatDoor.RewriteRequests
open Go Go.ChangeShapes Go.WideShapes Go.ChangeAt Go.ChangeMaps Go.RowKit Go.Proofs.YthedoophopilgaaGreatDoor.Oct Go.Proofs.YthedoophopilgaaGreatDoor.RwRowZ
set_option maxRecDepth 100000
open Go.Deep Go.Joins Go.Proofs.YthedoophopilgaaGreatDoor.Rw
theorem add_plain (b o n : Nat) : (⟨b, o, none⟩ : Addr).add n = ⟨b, o + n, none⟩ := by simp [Addr.add]
set_option maxRecDepth 100000 in
theorem flds_trod {H : Type} {enc : TypeId × Value → H} {W : World} {v : Value} {fuel : Nat} {x : DataW H × List MemPlace} (hf : DataW.trod enc Tryz.prog W 0 (fun _ => true) true fuel 22 [v] = some x) (hlt : ∀ y ∈ x.2, y.block < W.heap.size) :
    ∃ xs : List Fld, Flds W v xs ∧ (∀ y ∈ xs, y.1.size ≤ 9223372036854775807 ∧ y.2.size ≤ 9223372036854775807) ∧ ((x.1 = .nil ∧ xs = []) ∨ ∃ es rs, x.1 = .slice es rs ∧ es.length = xs.length) := by
  rcases open_slice_pairs Tryz.underlying22 Tryz.underlying64 (by kernel_rfl) rfl rfl (by kernel_rfl) (by kernel_rfl) hf with ⟨hcs, hx⟩ | ⟨a, len, cap, m, n, V0, V1, D0, D1, P0, P1, hcs, _, hl, hm, hz, hx, hcell⟩
  · obtain rfl : v = .slice none 0 0 := by simpa using hcs
    subst hx
    exact ⟨[], ⟨none, 0, rfl, Nat.le_refl _, fun h => absurd h (by simp)⟩, by simp, .inl ⟨rfl, rfl⟩⟩
  · obtain rfl : v = .slice (some a) len cap := by simpa using hcs
    subst hx
    simp only [if_true] at hz
    have hstr : ∀ i, ∃ y : Fld, i < m → (V0 i = .string y.1 ∧ V1 i = .string y.2 ∧ y.1.size ≤ 9223372036854775807 ∧ y.2.size ≤ 9223372036854775807) := by
      intro i
      by_cases hi : i < m
      · obtain ⟨_, _, h3, h4⟩ := hcell i hi
        obtain ⟨s, hs1, _, hs3⟩ := DataW.trod_string Tryz.underlying9 h3
        obtain ⟨z, hz1, _, hz3⟩ := DataW.trod_string Tryz.underlying9 h4
        simp at hs1 hz1
        refine ⟨(s, z), fun _ => ⟨hs1, hz1, ?_, ?_⟩⟩
        · have : s.size ≤ maxLen := hs3
          unfold maxLen at this
          exact this
        · have : z.size ≤ maxLen := hz3
          unfold maxLen at this
          exact this
      · exact ⟨(⟨#[]⟩, ⟨#[]⟩), fun h => absurd h hi⟩
    obtain ⟨f, hfy⟩ := Classical.axiomOfChoice hstr
    refine ⟨(List.range len).map f, ⟨some a, cap, by simp, by simp; exact hl, fun hp => ?_⟩, ?_, .inr ⟨_, _, rfl, by simp⟩⟩
    · simp at hp
      obtain ⟨b, off, spot⟩ := a
      have hspot : spot = none := by simpa [Addr.add] using World.cell?_spot (hcell 0 (by omega)).1
      subst hspot
      refine ⟨b, off, rfl, hlt (.cell b off) (List.mem_append_left _ (MemPlace.mem_row.2 ⟨0, by omega, by simp⟩)), fun j x hj => ?_⟩
      have hj2 := (List.getElem?_eq_some_iff.1 hj).1
      rw [List.length_map, List.length_range] at hj2
      rw [List.getElem?_map, List.getElem?_range hj2] at hj
      cases hj
      obtain ⟨h1, h2, _, _⟩ := hcell j (by omega)
      obtain ⟨e1, e2, _⟩ := hfy j (by omega)
      rw [add_plain] at h1 h2
      exact ⟨by rw [h1, e1], by rw [← Nat.add_assoc] at h2; rw [h2, e2]⟩
    · intro x hx
      obtain ⟨i, hi, rfl⟩ := List.mem_map.1 hx
      exact (hfy i (by have := List.mem_range.1 hi; omega)).2.2

theorem cells_msg : Tryz.prog.cellsOf 24 = 5 := by kernel_rfl
theorem cells_str : Tryz.prog.cellsOf 9 = 1 := by kernel_rfl
theorem cells_int : Tryz.prog.cellsOf 3 = 1 := by kernel_rfl
theorem cells_sl : Tryz.prog.cellsOf 22 = 1 := by kernel_rfl
/-- A message that came in: its texts, its number, and how its fields read. -/
theorem open_msg {H : Type} {enc : TypeId × Value → H} {W : World} {b0 base : Nat} {sp : Nat → Bool} {held : Bool} {v : Value} {d : DataW H} {p : List MemPlace}
    (hv : Value.okWide Tryz.prog W .any b0 24 v) (h : DataW.Trod enc Tryz.prog W base sp held 24 v d p) :
    ∃ (m t b : ByteArray) (k : Int) (s : Value) (y : DataW H × List MemPlace) (n : Nat), v = .agg #[.string m, .string t, s, .string b, .int .i64 k] ∧
      d = .agg [.lit (.string m.data.toList), .lit (.string t.data.toList), y.1, .lit (.string b.data.toList), .lit (.int .i64 k)] ∧ p = y.2 ∧ DataW.trod enc Tryz.prog W base sp held n 22 [s] = some y := by
  obtain ⟨cs, rfl, hsz⟩ := okWide_struct Tryz.underlying24 hv
  rw [cells_msg] at hsz
  obtain ⟨l, rfl⟩ : ∃ l : List Value, cs = l.toArray := ⟨cs.toList, by simp⟩
  obtain ⟨fuel, hf⟩ := h
  obtain ⟨xs, n, _, hx, _, hlen, hg⟩ := DataW.trod_struct Tryz.underlying24 hf
  match l, hsz with
  | [c0, c1, c2, c3, c4], _ =>
    match xs, hlen with
    | [y0, y1, y2, y3, y4], _ =>
      have g0 : DataW.trod enc Tryz.prog W base sp held n 9 [c0] = some y0 := by simpa [Value.cells, cells_str] using hg 0 _ rfl
      have g1 : DataW.trod enc Tryz.prog W base sp held n 9 [c1] = some y1 := by simpa [Value.cells, cells_str] using hg 1 _ rfl
      have g2 : DataW.trod enc Tryz.prog W base sp held n 22 [c2] = some y2 := by simpa [Value.cells, cells_sl] using hg 2 _ rfl
      have g3 : DataW.trod enc Tryz.prog W base sp held n 9 [c3] = some y3 := by simpa [Value.cells, cells_str] using hg 3 _ rfl
      have g4 : DataW.trod enc Tryz.prog W base sp held n 3 [c4] = some y4 := by simpa [Value.cells, cells_int] using hg 4 _ rfl
      obtain ⟨m, e0, r0, _⟩ := DataW.trod_string Tryz.underlying9 g0
      obtain ⟨t, e1, r1, _⟩ := DataW.trod_string Tryz.underlying9 g1
      obtain ⟨b, e3, r3, _⟩ := DataW.trod_string Tryz.underlying9 g3
      obtain ⟨k, e4, r4, _⟩ := DataW.trod_int Tryz.underlying3 g4
      simp at e0 e1 e3 e4
      subst e0 e1 e3 e4
      subst r0 r1 r3 r4
      simp only [Prod.mk.injEq] at hx
      exact ⟨m, t, b, k, c2, y2, n, rfl, by simpa using hx.1, by simpa using hx.2, g2⟩

set_option maxHeartbeats 1000000 in
theorem lifted (os : Os) (started : os.Started) (H : Type) (enc : TypeId × Value → H) :
    ReturnsInHanded {} Tryz.checked os 3 .any (fun w args => (Rows.rewriteRequestsSpec.pre enc Tryz.prog Tryz.f3 [] false w args ∧ laidMetH Tryz.prog Rows.rewriteRequestsRow.laid w) ∧ sizedMet enc Tryz.prog Tryz.f3 (OpenSpec.ofChange Rows.rewriteRequestsSpec) false w args)
      (Rows.rewriteRequestsSpec.post enc Tryz.prog Tryz.f3 false true false false) := by
  rw [show Rows.rewriteRequestsRow.laid = laid7 from rfl]
  refine wrap (C := Tryz.checked) (X := fun w _ => laidMetH Tryz.prog laid7 w) (fun _ _ _ hh h => h.of_heap hh) own started (by kernel_rfl) Tryz.func3
    (ChangeSpec.witness_shaped (enc := enc) (C := Tryz.checked) (os := os) (X := fun w _ => laidMetH Tryz.prog laid7 w) false (laidStart os) #[.agg #[.string ⟨#[]⟩, .string ⟨#[]⟩, .slice none 0 0, .string ⟨#[]⟩, .int .i64 0], .string ⟨#[]⟩] 8 rfl (World.shaped_of_RefB (by kernel_rfl) (by kernel_rfl)) (by kernel_rfl) (by kernel_rfl) (by kernel_rfl) (laidStart_met os _)) ?_
  intro W base args ds gs before hval0 hW hsz0 hL hsh
  have hsz : (DataW.weightsEach Tryz.prog (Tryz.f3.params.toList ++ Rows.rewriteRequestsSpec.plain.varTypes Tryz.prog) (ds ++ gs)).all (· ≤ reachBytes) = true := hsz0
  have hval : ∀ (j : Nat) t v, Tryz.f3.params[j]? = some t → args[j]? = some v → Value.okWide Tryz.prog W .any base t v := hval0
  have hW' := hW
  obtain ⟨p, q, hA0, hV, rfl, hfz, hnd⟩ := hW
  have hA : DataW.TrodAll enc Tryz.prog W 0 (fun _ => true) true Tryz.f3.params.toList args.toList ds p := hA0
  rw [Tryz.params3] at hA hval hsz
  obtain ⟨v0, vs0, d0, ds0, p0, q0, hargs, rfl, rfl, h0, r0⟩ := trodAll_cons hA
  obtain ⟨v1, vs1, d1, ds1, p1, q1, rfl, rfl, rfl, h1, r1⟩ := trodAll_cons r0
  obtain ⟨rfl, rfl, rfl⟩ := trodAll_nil r1
  obtain rfl : args = #[v0, v1] := by cases args; simp_all
  obtain ⟨rfl, rfl⟩ := trodVars_none hV
  have k0 := h0
  have lt0 : ∀ x ∈ p0, x.block < W.heap.size := by obtain ⟨m, hm⟩ := k0; exact DataW.trod_lt m _ _ _ hm
  have k1 := h1
  have lt1 : ∀ x ∈ p1, x.block < W.heap.size := by obtain ⟨m, hm⟩ := k1; exact DataW.trod_lt m _ _ _ hm
  have hE := env_of hL hsh
  obtain ⟨m0, t0, b0, kk0, s0, y0, n0, rfl, rfl, rfl, ts0⟩ := open_msg (hval 0 24 v0 rfl rfl) h0
  obtain ⟨xs0, hE0, hT0, hdd0⟩ := flds_trod ts0 lt0
  have hszn : (DataW.weightsEach Tryz.prog [9, 9, 22, 9, 3] [.lit (.string m0.data.toList), .lit (.string t0.data.toList), y0.1, .lit (.string b0.data.toList), .lit (.int .i64 kk0)]).all (· ≤ reachBytes) = true := List.all_eq_true.2 fun n hn => List.all_eq_true.1 hsz n (DataW.weights_mem_each (j := 0) rfl rfl n (by simpa [DataW.weights, Tryz.underlying24] using hn))
  have hN0 : xs0.length ≤ 140737488355328 := by
    rcases hdd0 with ⟨_, hx0⟩ | ⟨es0, rs0, hx0, hl0⟩
    · rw [hx0]; simp
    · rw [hx0] at hszn
      have := sized_slice hszn (j := 2) (t := 22) (e := 64) rfl rfl Tryz.underlying22
      rw [show Tryz.prog.bytesOf 64 = 32 by kernel_rfl] at this
      simp only [reachBytes] at this
      omega
  obtain ⟨s1, rfl, rfl, rfl, w1⟩ := open_string Tryz.underlying9 (hval 1 9 v1 rfl rfl) h1
  clear hA0 hval0 hsz0 hsz
  refine (req_law m0 t0 b0 s1 kk0 xs0 s0 W hE hE0 hN0).mono fun e W' ⟨he, bel⟩ => ?_
  subst he
  exact ⟨_, rfl, _, _, _, [], _, [], hW', trodAll_mk1 (shut_bool Tryz.underlying4 _), (trodAll_cons_mk (Below.trod laidOut (by kernel_rfl) (of_decide_eq_true (by kernel_rfl)) k0 bel lt0) (trodAll_cons_mk (Below.trod laidOut (by kernel_rfl) (of_decide_eq_true (by kernel_rfl)) k1 bel lt1) trodAll_mk0)), rfl, bel.frame _, fun h => by cases h⟩
theorem wf_ok : Rows.rewriteRequestsRow.wf (OpenSpec.ofChange Rows.rewriteRequestsSpec) = true := by kernel_rfl
theorem inPlace_ok : (Rows.rewriteRequestsRow.inPlace == Tryz.prog.inPlace 3) = true := by kernel_rfl
theorem unfollowed_ok : (Rows.rewriteRequestsRow.unfollowed == Tryz.prog.unfollowed 3) = true := by kernel_rfl
theorem recurses_ok : (Rows.rewriteRequestsRow.recurses == Tryz.prog.recurses 3) = true := by kernel_rfl
theorem named_ok : (Rows.rewriteRequestsRow.named == Tryz.prog.varsNamed 3) = true := by kernel_rfl
theorem tie_ok : namedTie Tryz.prog Rows.rewriteRequestsRow.named Rows.rewriteRequestsSpec.vars = true := by kernel_rfl
theorem veiled_ok : Rows.rewriteRequestsRow.veiledFits Tryz.prog Tryz.f3.params.toList (Tryz.f3.params.toList ++ Rows.rewriteRequestsSpec.plain.varTypes Tryz.prog ++ Tryz.f3.resultTypes.toList) = true := by kernel_rfl
theorem facts : joinedFacts Tryz.prog 3 Tryz.f3 Rows.rewriteRequestsSpec Rows.rewriteRequestsRow = true := by
  unfold joinedFacts
  simp only [Bool.and_eq_true]
  exact ⟨⟨⟨⟨⟨⟨⟨⟨⟨⟨⟨⟨⟨⟨⟨⟨⟨⟨⟨⟨⟨⟨⟨⟨⟨⟨⟨⟨⟨⟨⟨wf_ok, laidOut⟩, mapsRowed_ok⟩, (by kernel_rfl)⟩, tie_ok⟩, (by kernel_rfl)⟩, (by kernel_rfl)⟩, (by kernel_rfl)⟩, (by kernel_rfl)⟩, inPlace_ok⟩, unfollowed_ok⟩, recurses_ok⟩, named_ok⟩, (by kernel_rfl)⟩, (by kernel_rfl)⟩, (by kernel_rfl)⟩, (by kernel_rfl)⟩, (by kernel_rfl)⟩, (by kernel_rfl)⟩, (by kernel_rfl)⟩, (by kernel_rfl)⟩, (by kernel_rfl)⟩, plainKeys_ok⟩, (by kernel_rfl)⟩, stopsHeard_ok⟩, mayEnter_ok⟩, lifted_ok⟩, make_ok⟩, (by kernel_rfl)⟩, (by kernel_rfl)⟩, (by kernel_rfl)⟩, veiled_ok⟩
theorem proved : Rows.RewriteRequestsSaid :=
  OpenClaim.holds_of_wide 3 Tryz.f3 rfl rfl rfl rfl rfl rfl rfl ⟨rfl, rfl, rfl, rfl, rfl⟩ rfl rfl rfl rfl rfl (by kernel_rfl) Tryz.func3 facts
    (of_decide_eq_true (by kernel_rfl)) (by unfold Func.isWrapper; first | (rw [if_pos (by decide +kernel)]; kernel_rfl) | (rw [if_neg (by decide +kernel)]; exact ⟨rfl, rfl⟩))
    (fun os started H enc _ => lifted os started H enc)
theorem wfText_ok : Rows.rewriteRequestsRow.wfByText (OpenSpec.ofChange Rows.rewriteRequestsSpec) = true := by kernel_rfl
theorem goes_ok : false = Rows.rewriteRequestsRow.goesBy Tryz.prog := by kernel_rfl
theorem card : Rows.RewriteRequestsCardSaid :=
  Claim7.holds_tied_plain_at .later [] [.data, .data, .data, .data, .data, .widerDeep, .pinned] true Rows.rewriteRequestsCard.stood.harness false
    proved (fun _ h => by cases h) wfText_ok (fun _ h => by cases h) rewriteRequests_row_tie rfl ⟨rfl, rfl⟩ mainIs_ok rfl
    (fun f fn hf hfn => by
      obtain rfl : f = 3 := Option.some.inj ((show Tryz.prog.funcNamed "steward/stewardlaw12.RewriteRequests" = some 3 by kernel_rfl).symm.trans hf) |>.symm
      obtain rfl : fn = Tryz.f3 := (Option.some.inj (Tryz.func3.symm.trans hfn)).symm
      exact ⟨looks_ok, fun j t ht => by
        rw [Tryz.params3] at ht
        have hm : t ∈ [24, 9] := by have := Array.mem_of_getElem? ht; simp at this ⊢; omega
        have hall : ([24, 9].all fun u => !Tryz.prog.wantsStandIn u) = true := by kernel_rfl
        exact (show Tryz.prog.wantsStandIn t = false by simpa using List.all_eq_true.1 hall t hm)⟩)
    goes_ok
end Go.Proofs.YthedoophopilgaaGreatDoor.RewriteRequests
namespace Go.Proofs.YthedoophopilgaaGreatDoor
theorem rewriteRequests_card_holds : Rows.RewriteRequestsCardSaid := RewriteRequests.card
#print axioms rewriteRequests_card_holds
end Go.Proofs.YthedoophopilgaaGreatDoor
