/- MaglevPicks returns true for every input: who answers for a number, who comes next, and all shares, are the document's.
   No condition: every value of the parameter types. -/
import Derived.Test.YtclngmjfhlindaaRows
import Derived.Test.YtclngmjfhlindaaMaZ
import Derived.ProofKit
import Derived.OpenShut
import Derived.ChangeOld
import Derived.SizedLaws
import Derived.Deep.SlicePairs
import Derived.Lib.SmallJoins
import Derived.ChangeMaps5
set_option linter.unusedVariables false
namespace Go.Proofs.Ytclngmjfhlindaa.MaglevPicksRow
open Go.ChangeShapes Go.WideShapes Go.ChangeAt Go.ChangeMaps Go.RowKit Go.Joins Go.Deep Go.Proofs.Ytclngmjfhlindaa.Ma Go.Proofs.Ytclngmjfhlindaa.Sip
theorem own : ownKnob Try.prog.godebug = none := by kernel_rfl
theorem laidOut : laidOutB Try.prog = true := by kernel_rfl
theorem add_plain (b o n : Nat) : (⟨b, o, none⟩ : Addr).add n = ⟨b, o + n, none⟩ := by simp [Addr.add]
set_option maxRecDepth 100000 in
theorem ents_open {H : Type} {enc : TypeId × Value → H} {W : World} {base : Nat} {v : Value} {d : DataW H} {p : List MemPlace} (hv : Value.okWide Try.prog W .any base 22 v)
    (hd : DataW.Trod enc Try.prog W 0 (fun _ => true) true 22 v d p) (hlt : ∀ x ∈ p, x.block < W.heap.size) :
    ∃ xs : List Ent, Ents W v xs ∧ (∀ x ∈ xs, x.1.length ≤ 9223372036854775807) ∧ ((d = .nil ∧ xs = []) ∨ ∃ es rs, d = .slice es rs ∧ es.length = xs.length) := by
  obtain ⟨a0, len, cap, rfl⟩ := okWide_slice Try.underlying22 hv
  obtain ⟨fuel, hf⟩ := hd
  rcases open_slice_pairs Try.underlying22 Try.underlying42 (by kernel_rfl) rfl rfl (by kernel_rfl) (by kernel_rfl) hf with ⟨hcs, hx⟩ | ⟨a, len', cap', m, n, V0, V1, D0, D1, P0, P1, hcs, _, hl, hm, hz, hx, hcell⟩
  · simp [Value.cells] at hcs
    obtain ⟨rfl, rfl, rfl⟩ := hcs
    simp only [Prod.mk.injEq] at hx
    exact ⟨[], ⟨none, 0, rfl, Nat.le_refl _, fun h => absurd h (by simp)⟩, by simp, .inl ⟨hx.1, rfl⟩⟩
  · simp [Value.cells] at hcs
    obtain ⟨rfl, rfl, rfl⟩ := hcs
    simp only [Prod.mk.injEq] at hx
    obtain ⟨rfl, rfl⟩ := hx
    simp only [if_true] at hz
    have hstr : ∀ i, ∃ y : Ent, i < m → (V0 i = .string (mk y.1) ∧ V1 i = .int .i64 y.2 ∧ y.1.length ≤ 9223372036854775807) := by
      intro i
      by_cases hi : i < m
      · obtain ⟨_, _, h3, h4⟩ := hcell i hi
        obtain ⟨s, hs1, _, hs3⟩ := DataW.trod_string Try.underlying9 h3
        obtain ⟨z, hz1, _⟩ := DataW.trod_int Try.underlying3 h4
        simp at hs1 hz1
        refine ⟨(s.data.toList, z), fun _ => ⟨by rw [hs1]; show Value.string s = Value.string (mk s.data.toList); rw [mk_data], hz1, ?_⟩⟩
        have : s.size ≤ maxLen := hs3
        unfold maxLen at this
        exact this
      · exact ⟨([], 0), fun h => absurd h hi⟩
    obtain ⟨f, hfy⟩ := Classical.axiomOfChoice hstr
    refine ⟨(List.range len).map f, ⟨some a, cap, by simp, by simp; exact hl, fun hp => ?_⟩, ?_, .inr ⟨_, _, rfl, by simp⟩⟩
    · simp at hp
      obtain ⟨b, off, spot⟩ := a
      have hspot : spot = none := by simpa [Addr.add] using World.cell?_spot (hcell 0 (by omega)).1
      subst hspot
      refine ⟨b, off, rfl, hlt (.cell b off) (List.mem_append_left _ (MemPlace.mem_row.2 ⟨0, by omega, by simp⟩)), fun j x hj => ?_⟩
      have hj2 := (List.getElem?_eq_some_iff.1 hj).1
      rw [List.length_map, List.length_range] at hj2
      rw [List.getElem?_map, List.getElem?_range hj2] at hj
      cases hj
      obtain ⟨h1, h2, _, _⟩ := hcell j (by omega)
      obtain ⟨e1, e2, _⟩ := hfy j (by omega)
      rw [add_plain] at h1 h2
      exact ⟨by rw [h1, e1], by rw [← Nat.add_assoc] at h2; rw [h2, e2]⟩
    · intro x hx
      obtain ⟨i, hi, rfl⟩ := List.mem_map.1 hx
      exact (hfy i (by have := List.mem_range.1 hi; omega)).2.2
end Go.Proofs.Ytclngmjfhlindaa.MaglevPicksRow
open Go.ChangeShapes Go.WideShapes Go.ChangeAt Go.ChangeMaps Go.RowKit Go.Joins Go.Proofs.Ytclngmjfhlindaa.MaglevPicksRow Go.Proofs.Ytclngmjfhlindaa.Ma Go.Proofs.Ytclngmjfhlindaa.Sip
namespace Go.Proofs.Ytclngmjfhlindaa.MaglevPicks
set_option maxRecDepth 100000 in
theorem lifted (os : Os) (started : os.Started) (H : Type) (enc : TypeId × Value → H) :
    ReturnsInHanded {} Try.checked os 6 .any (Rows.maglevPicksSpec.pre6 enc Try.prog Try.f6 Rows.maglevPicksRow.domain false) (Rows.maglevPicksSpec.post enc Try.prog Try.f6 false true false false) := by
  refine returnsInHanded_of_change_sized (C := Try.checked) own started (by kernel_rfl) Try.func6
    (ChangeSpec.witness6 (enc := enc) (C := Try.checked) false ⟨#[], #[.string ⟨#[]⟩, .slice none 0 0, .int .u64 0], []⟩ 8 (by kernel_rfl) (by kernel_rfl) (by kernel_rfl) (by kernel_rfl)) ?_
  intro W base args ds gs before hval0 hW hcnd hsz0 _
  have hsz : (DataW.weightsEach Try.prog (Try.f6.params.toList ++ Rows.maglevPicksSpec.plain.varTypes Try.prog) (ds ++ gs)).all (· ≤ reachBytes) = true := hsz0
  have hval : ∀ (j : Nat) t v, Try.f6.params[j]? = some t → args[j]? = some v → Value.okWide Try.prog W .any base t v := hval0
  have hW' := hW
  obtain ⟨p, q, hA0, hV, rfl, hfz, hnd⟩ := hW
  have hA : DataW.TrodAll enc Try.prog W 0 (fun _ => true) true Try.f6.params.toList args.toList ds p := hA0
  rw [Try.params6] at hA hval hsz
  obtain ⟨v0, vs0, d0, ds0, p0, q0, hargs, rfl, rfl, h0, r0⟩ := trodAll_cons hA
  obtain ⟨v1, vs1, d1, ds1, p1, q1, rfl, rfl, rfl, h1, r1⟩ := trodAll_cons r0
  obtain ⟨v2, vs2, d2, ds2, p2, q2, rfl, rfl, rfl, h2, r2⟩ := trodAll_cons r1
  obtain ⟨rfl, rfl, rfl⟩ := trodAll_nil r2
  obtain rfl : args = #[v0, v1, v2] := by cases args; simp_all
  obtain ⟨rfl, rfl⟩ := trodVars_none hV
  have k0 := h0
  have lt0 : ∀ x ∈ p0, x.block < W.heap.size := by obtain ⟨m, hm⟩ := k0; exact DataW.trod_lt m _ _ _ hm
  have k1 := h1
  have lt1 : ∀ x ∈ p1, x.block < W.heap.size := by obtain ⟨m, hm⟩ := k1; exact DataW.trod_lt m _ _ _ hm
  have k2 := h2
  have lt2 : ∀ x ∈ p2, x.block < W.heap.size := by obtain ⟨m, hm⟩ := k2; exact DataW.trod_lt m _ _ _ hm
  obtain ⟨s0, rfl, rfl, rfl, w0⟩ := open_string Try.underlying9 (hval 0 9 v0 rfl rfl) h0
  obtain ⟨xs1, hE1, hT1, hd1⟩ := ents_open (hval 1 22 v1 rfl rfl) k1 lt1
  have hN1 : xs1.length ≤ 140737488355328 := by
    rcases hd1 with ⟨_, hx1⟩ | ⟨es1, rs1, hx1, hl1⟩
    · rw [hx1]; simp
    · rw [hx1] at hsz
      have := sized_slice hsz (j := 1) (t := 22) (e := 42) rfl rfl Try.underlying22
      rw [show Try.prog.bytesOf 42 = 24 by kernel_rfl] at this
      simp only [reachBytes] at this
      omega
  obtain ⟨m2, rfl, rfl, rfl, w2⟩ := open_int Try.underlying45 (hval 2 45 v2 rfl rfl) h2
  have b2 := bounds_u64 w2
  obtain ⟨x2, rfl⟩ := Int.eq_ofNat_of_zero_le b2.1
  clear hA0 hval0 hsz0 hsz
  refine ((mk_data s0 ▸ picks_law s0.data.toList xs1 v1 x2 (by omega) W hE1 hN1 hT1)).mono fun e W' ⟨he, bel⟩ => ?_
  subst he
  exact ⟨_, rfl, _, _, _, [], _, [], hW', trodAll_mk1 (shut_bool Try.underlying4 _), (trodAll_cons_mk (Below.trod laidOut (by kernel_rfl) (of_decide_eq_true (by kernel_rfl)) k0 bel lt0) (trodAll_cons_mk (Below.trod laidOut (by kernel_rfl) (of_decide_eq_true (by kernel_rfl)) k1 bel lt1) (trodAll_cons_mk (Below.trod laidOut (by kernel_rfl) (of_decide_eq_true (by kernel_rfl)) k2 bel lt2) trodAll_mk0))), rfl, bel.frame _, fun h => by cases h⟩
theorem proved : Rows.MaglevPicksSaid :=
  OpenClaim.holds_of_wide 6 Try.f6 rfl rfl rfl rfl rfl rfl rfl ⟨rfl, rfl, rfl, rfl, rfl⟩ rfl rfl rfl rfl rfl (by kernel_rfl) Try.func6 (by kernel_rfl)
    (of_decide_eq_true (by kernel_rfl)) (by unfold Func.isWrapper; first | (rw [if_pos (by decide +kernel)]; kernel_rfl) | (rw [if_neg (by decide +kernel)]; exact ⟨rfl, rfl⟩))
    (fun os started H enc _ => lifted os started H enc)
end Go.Proofs.Ytclngmjfhlindaa.MaglevPicks
namespace Go.Proofs.Ytclngmjfhlindaa
theorem maglevPicks_holds : Rows.MaglevPicksSaid := MaglevPicks.proved
#print axioms maglevPicks_holds
end Go.Proofs.Ytclngmjfhlindaa
