/- Notes that came in. -/
import Derived.Test.YtphbieaoedbmpaaDoorRpN
import Derived.Deep.SlicePairs
import Derived.Lib.SmallJoins
namespace Go.Proofs.YtphbieaoedbmpaaDoor.Rp
open Go.ChangeShapes Go.WideShapes Go.ChangeAt Go.RowKit Go.Deep Go.Joins Go.Proofs.YtphbieaoedbmpaaDoor.Oct
set_option linter.unusedVariables false
theorem add_plain (b o n : Nat) : (⟨b, o, none⟩ : Addr).add n = ⟨b, o + n, none⟩ := by simp [Addr.add]
theorem wf_le {n : Int} (h : (Lit.int .i64 n).wf = true) : n ≤ 9223372036854775807 := by
  unfold Lit.wf at h
  simp only [Bool.and_eq_true, decide_eq_true_eq] at h
  exact h.2
def Wf (x : Nt) : Prop := (Lit.int .i64 x.kind).wf = true ∧ x.now ≤ 9223372036854775807 ∧ x.conn ≤ 9223372036854775807 ∧ x.kind ≤ 9223372036854775807
set_option maxRecDepth 100000 in
theorem note_trod {H : Type} {enc : TypeId × Value → H} {W : World} {base fuel : Nat} {sp : Nat → Bool} {held : Bool} {cs : List Value} {x : DataW H × List MemPlace} (h : DataW.trod enc Tryd.prog W base sp held fuel 42 cs = some x) :
    ∃ y : Nt, cs = ntR y ∧ Wf y := by
  obtain ⟨y0, y1, n, _, hl, h0, h1⟩ := trod_struct2 Tryd.underlying42 h
  have c5 : Tryd.prog.cellsOf 42 = 5 := by kernel_rfl
  have c1 : Tryd.prog.cellsOf 3 = 1 := by kernel_rfl
  have c4 : Tryd.prog.cellsOf 40 = 4 := by kernel_rfl
  have cs1 : Tryd.prog.cellsOf 9 = 1 := by kernel_rfl
  rw [c5] at hl
  match cs, hl with
  | [v0, v1, v2, v3, v4], _ =>
    simp [c1, c4] at h0 h1
    obtain ⟨z0, z1, z2, z3, m, _, _, g0, g1, g2, g3⟩ := trod_struct4 Tryd.underlying40 h1
    simp [c1, cs1] at g0 g1 g2 g3
    obtain ⟨a, ha, _, wa⟩ := DataW.trod_int Tryd.underlying3 h0
    obtain ⟨b, hb, _, wb⟩ := DataW.trod_int Tryd.underlying3 g0
    obtain ⟨c, hc, _, wc⟩ := DataW.trod_int Tryd.underlying3 g1
    obtain ⟨d, hd, _, _⟩ := DataW.trod_string Tryd.underlying9 g2
    obtain ⟨e, he, _, _⟩ := DataW.trod_string Tryd.underlying9 g3
    simp at ha hb hc hd he
    subst ha hb hc hd he
    refine ⟨⟨a, b, c, d.data.toList, e.data.toList⟩, ?_, wb, wf_le wa, wf_le wc, wf_le wb⟩
    show _ = [Value.int .i64 a, .int .i64 b, .int .i64 c, .string (mk d.data.toList), .string (mk e.data.toList)]
    rw [mk_data, mk_data]
set_option maxRecDepth 100000 in
theorem notes_trod {H : Type} {enc : TypeId × Value → H} {W : World} {v : Value} {fuel : Nat} {x : DataW H × List MemPlace} (hf : DataW.trod enc Tryd.prog W 0 (fun _ => true) true fuel 22 [v] = some x) (hlt : ∀ y ∈ x.2, y.block < W.heap.size) :
    ∃ xs : List Nt, Nts ntR W v xs ∧ (∀ y ∈ xs, Wf y) ∧ ((x.1 = .nil ∧ xs = []) ∨ ∃ es rs, x.1 = .slice es rs ∧ es.length = xs.length) := by
  have c5 : Tryd.prog.cellsOf 42 = 5 := by kernel_rfl
  rcases open_slice Tryd.underlying22 hf with ⟨hcs, hx⟩ | ⟨a, len, cap, m, n, D, Pl, hcs, _, hl, hm, hz, hx, hcell⟩
  · obtain rfl : v = .slice none 0 0 := by simpa using hcs
    subst hx
    exact ⟨[], ⟨none, 0, rfl, Nat.le_refl _, fun h => absurd h (by simp)⟩, by simp, .inl ⟨rfl, rfl⟩⟩
  · obtain rfl : v = .slice (some a) len cap := by simpa using hcs
    subst hx
    simp only [if_true] at hz
    rw [c5] at hcell hlt
    have hstr : ∀ i, ∃ y : Nt, i < m → ((∀ k u, (ntR y)[k]? = some u → W.cell? ((a.add (i * 5)).add k) = some u) ∧ Wf y) := by
      intro i
      by_cases hi : i < m
      · obtain ⟨cs', h1, h2⟩ := hcell i hi
        obtain ⟨y, rfl, hw⟩ := note_trod h2
        obtain ⟨_, hlen, hc⟩ := World.cells?_some h1
        refine ⟨y, fun _ => ⟨fun k u hu => ?_, hw⟩⟩
        have hk := (List.getElem?_eq_some_iff.1 hu).1
        have := hc k (by rw [hlen] at hk; exact hk)
        rw [this]
        simpa using hu
      · exact ⟨⟨0, 0, 0, [], []⟩, fun h => absurd h hi⟩
    obtain ⟨f, hfy⟩ := Classical.axiomOfChoice hstr
    refine ⟨(List.range len).map f, ⟨some a, cap, by simp, by simp; exact hl, fun hp => ?_⟩, ?_, .inr ⟨_, _, rfl, by simp⟩⟩
    · simp at hp
      obtain ⟨b, off, spot⟩ := a
      have hspot : spot = none := by
        have h0 := (hfy 0 (by omega)).1 0 _ rfl
        simpa [Addr.add] using World.cell?_spot h0
      subst hspot
      refine ⟨b, off, rfl, hlt (.cell b off) (List.mem_append_left _ (MemPlace.mem_row.2 ⟨0, by omega, by simp⟩)), fun j x hj k u hu => ?_⟩
      have hj2 := (List.getElem?_eq_some_iff.1 hj).1
      rw [List.length_map, List.length_range] at hj2
      rw [List.getElem?_map, List.getElem?_range hj2] at hj
      cases hj
      have h1 := (hfy j (by omega)).1 k u hu
      rw [add_plain, add_plain] at h1
      exact h1
    · intro x hx
      obtain ⟨i, hi, rfl⟩ := List.mem_map.1 hx
      exact (hfy i (by have := List.mem_range.1 hi; omega)).2
end Go.Proofs.YtphbieaoedbmpaaDoor.Rp
