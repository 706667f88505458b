/- A kind's word: the program's and the document's (printed by genF.py). -/
import Derived.Test.YtphbieaoedbmpaaDoorRpD
import Derived.OpenShut
import Derived.ChangeSame
namespace Go.Proofs.YtphbieaoedbmpaaDoor.Rp
open Go.RowKit Go.ChangeShapes Go.Proofs.YtphbieaoedbmpaaDoor.Oct
set_option linter.unusedVariables false
/-- The words of the kinds. -/
def wordL : List (List UInt8) := [[], [114, 101, 112, 108, 121], [104, 97, 110, 103, 117, 112], [100, 105, 97, 108], [115, 101, 110, 100], [100, 114, 111, 112], [97, 115, 107], [117, 112], [100, 111, 119, 110], [100, 114, 97, 105, 110, 101, 100], [99, 104, 111, 115, 101]]
def wordData : DataW Unit := .agg (wordL.map fun z => .lit (.string z))
def wordK (k : Int) : List UInt8 := if 0 ≤ k then wordL.getD k.toNat [] else []
/-- The table of words holds them. -/
structure WEnv (w : World) : Prop extends Env w where
  words : ∀ i z, wordL[i]? = some z → w.cell? ⟨0, i, none⟩ = some (.string (mk z))
theorem WEnv.below {w w' : World} (h : WEnv w) (hb : Below w.heap.size w w') : WEnv w' := by
  refine ⟨h.toEnv.below hb, fun i z hz => ?_⟩
  have h1 := h.words i z hz
  have hlt : 0 < w.heap.size := World.block_lt_of_cell? w ⟨0, i, none⟩ h1
  exact (hb.cell (p := ⟨0, i, none⟩) hlt).trans h1
theorem word_cells {W : World} {rest : List (String × DataW Unit)} (h : laidMet Tryd.prog (("steward/report.words", wordData) :: rest) W) :
    ∀ i z, wordL[i]? = some z → W.cell? ⟨0, i, none⟩ = some (.string (mk z)) := by
  obtain ⟨ps, ⟨g', t', cs, fuel, p, q, hg', ht', hvar, hd, _, _⟩, _⟩ := h
  obtain rfl : 0 = g' := Option.some.inj ((show Tryd.prog.globalNamed "steward/report.words" = some 0 by kernel_rfl).symm.trans hg')
  obtain rfl : 57 = t' := Option.some.inj ((show (Tryd.prog.globals[0]?).map (·.type) = some 57 by kernel_rfl).symm.trans ht')
  intro i z hz
  have hi : i < 11 := (List.getElem?_eq_some_iff.1 hz).1
  obtain ⟨xs, m, _, hx, hl, hlen, hat⟩ := DataW.trod_array Tryd.underlying57 hd
  have hc2 : Tryd.prog.cellsOf 9 = 1 := by kernel_rfl
  have h1 := hat i hi
  rw [hc2, List.getElem?_eq_getElem (by omega)] at h1
  obtain ⟨c1, hc1, hy, _⟩ := DataW.trod_string Tryd.underlying9 h1
  have hxi : (xs.map (·.1))[i]? = some (.lit (.string z)) := by
    have := congrArg Prod.fst hx
    simp only [wordData, DataW.agg.injEq] at this
    rw [← this, List.getElem?_map, hz]; rfl
  rw [List.getElem?_map, List.getElem?_eq_getElem (by omega), Option.map_some, hy] at hxi
  simp only [Option.some.injEq, DataW.lit.injEq, Lit.string.injEq] at hxi
  have g1 : cs[i]? = some (.string c1) := by
    have := congrArg (·[0]?) hc1
    simp [List.getElem?_drop] at this
    exact this
  have v1 := World.var?_cell (g := 0) (by kernel_rfl) hvar i
  rw [v1, ← hxi, mk_data]
  simpa using g1
set_option maxRecDepth 100000 in
theorem word_any (k : Int) (w : World) (he : WEnv w) :
    Calls Tryd.prog 12 #[.int .i64 k] w fun e w' => e = .returned (.string (mk (wordK k))) ∧ w' = w := by
  by_cases h0 : k < 0
  · have hw : wordK k = [] := by unfold wordK; rw [if_neg (by omega)]
    rw [hw]
    go_enter Tryd.func12, Tryd.ntmps12
    go_wp2
    go_ret
    exact ⟨rfl, rfl⟩
  · obtain ⟨n, rfl⟩ : ∃ n : Nat, k = n := ⟨k.toNat, by omega⟩
    by_cases h1 : n < 11
    · have hw : wordK n = wordL[n]'h1 := by unfold wordK; rw [if_pos (by omega), Int.toNat_natCast, List.getD_eq_getElem?_getD, List.getElem?_eq_getElem h1]; rfl
      have hc := he.words n _ (List.getElem?_eq_getElem h1)
      rw [hw]
      have h2 : ¬ (n : Int) < 0 := h0
      have h3 : ¬ (n : Int) ≥ 11 := by omega
      have h4 : (n : Int) < 11 := by omega
      generalize wordL[n]'h1 = z at *
      clear he hw
      go_enter Tryd.func12, Tryd.ntmps12
      go_wp2
      go_ret
      exact ⟨rfl, rfl⟩
    · have hw : wordK n = [] := by unfold wordK; rw [if_pos (by omega), Int.toNat_natCast, List.getD_eq_getElem?_getD, List.getElem?_eq_none (by show 11 ≤ n; omega)]; rfl
      rw [hw]
      have h3 : (n : Int) ≥ 11 := by omega
      go_enter Tryd.func12, Tryd.ntmps12
      go_wp2
      go_ret
      exact ⟨rfl, rfl⟩
set_option maxRecDepth 100000 in
set_option maxHeartbeats 4000000 in
theorem refWord_any (k : Int) (w : World) :
    Calls Tryd.prog 13 #[.int .i64 k] w fun e w' => e = .returned (.string (mk (wordK k))) ∧ Below w.heap.size w w' := by
  by_cases h0 : k < 1 ∨ 10 < k
  · have hw : wordK k = [] := by
      unfold wordK
      split
      · rcases h0 with h0 | h0
        · rw [show k = 0 by omega]; rfl
        · rw [List.getD_eq_getElem?_getD, List.getElem?_eq_none (by show 11 ≤ k.toNat; omega)]; rfl
      · rfl
    rw [hw]
    rcases h0 with h0 | h0
    · go_enter Tryd.func13, Tryd.ntmps13
      go_wp2
      go_ret
      exact ⟨rfl, Below.refl _ _⟩
    · have h1 : ¬ k < 1 := by omega
      go_enter Tryd.func13, Tryd.ntmps13
      go_wp2
      go_ret
      exact ⟨rfl, Below.refl _ _⟩
  · have hk : k = 1 ∨ k = 2 ∨ k = 3 ∨ k = 4 ∨ k = 5 ∨ k = 6 ∨ k = 7 ∨ k = 8 ∨ k = 9 ∨ k = 10 := by omega
    clear h0
    rcases hk with rfl | rfl | rfl | rfl | rfl | rfl | rfl | rfl | rfl | rfl
    all_goals (
      go_enter Tryd.func13, Tryd.ntmps13
      go_wp2
      go_ret
      refine ⟨rfl, ?_⟩
      (repeat' (first | exact Below.refl _ _ | refine Below.alloc ?_ (by simp) _)))
end Go.Proofs.YtphbieaoedbmpaaDoor.Rp
