/- The codes' words: the table, and start.Reason and start.Bodied beside the document's. -/
import Derived.Test.YtkbjklnkeammiaaDoorStC
import Derived.OpenShut
import Derived.ChangeSame
namespace Go.Proofs.YtkbjklnkeammiaaDoor.Oct
open Go.RowKit Go.ChangeShapes
set_option linter.unusedVariables false
/-- The codes and their words. -/
def saidL : List (Int × List UInt8) := [(200, [79, 75]), (400, [66, 97, 100, 32, 82, 101, 113, 117, 101, 115, 116]), (413, [67, 111, 110, 116, 101, 110, 116, 32, 84, 111, 111, 32, 76, 97, 114, 103, 101]), (431, [82, 101, 113, 117, 101, 115, 116, 32, 72, 101, 97, 100, 101, 114, 32, 70, 105, 101, 108, 100, 115, 32, 84, 111, 111, 32, 76, 97, 114, 103, 101]), (502, [66, 97, 100, 32, 71, 97, 116, 101, 119, 97, 121]), (503, [83, 101, 114, 118, 105, 99, 101, 32, 85, 110, 97, 118, 97, 105, 108, 97, 98, 108, 101]), (504, [71, 97, 116, 101, 119, 97, 121, 32, 84, 105, 109, 101, 111, 117, 116])]
def saidData : DataW Unit := .agg (saidL.map fun z => .agg [.lit (.int .i64 z.1), .lit (.string z.2)])
/-- The table of words holds them. -/
structure SEnv (w : World) : Prop extends Env w where
  said : ∀ i z, saidL[i]? = some z → w.cell? ⟨1, 2 * i, none⟩ = some (.int .i64 z.1) ∧ w.cell? ⟨1, 2 * i + 1, none⟩ = some (.string (mk z.2))
theorem SEnv.below {w w' : World} (h : SEnv w) (hb : Below w.heap.size w w') : SEnv w' := by
  refine ⟨h.toEnv.below hb, fun i z hz => ?_⟩
  obtain ⟨h1, h2⟩ := h.said i z hz
  have hlt : 1 < w.heap.size := World.block_lt_of_cell? w ⟨1, 2 * i, none⟩ h1
  exact ⟨(hb.cell (p := ⟨1, 2 * i, none⟩) hlt).trans h1, (hb.cell (p := ⟨1, 2 * i + 1, none⟩) hlt).trans h2⟩
theorem said_cells {W : World} {rest : List (String × DataW Unit)} (h : laidMet Tryd.prog (("steward/start.reasons", saidData) :: rest) W) :
    ∀ i z, saidL[i]? = some z → W.cell? ⟨1, 2 * i, none⟩ = some (.int .i64 z.1) ∧ W.cell? ⟨1, 2 * i + 1, none⟩ = some (.string (mk z.2)) := by
  obtain ⟨ps, ⟨g', t', cs, fuel, p, q, hg', ht', hvar, hd, _, _⟩, _⟩ := h
  obtain rfl : 1 = g' := Option.some.inj ((show Tryd.prog.globalNamed "steward/start.reasons" = some 1 by kernel_rfl).symm.trans hg')
  obtain rfl : 100 = t' := Option.some.inj ((show (Tryd.prog.globals[1]?).map (·.type) = some 100 by kernel_rfl).symm.trans ht')
  intro i z hz
  have hi : i < 7 := (List.getElem?_eq_some_iff.1 hz).1
  obtain ⟨xs, m, _, hx, hl, hlen, hat⟩ := DataW.trod_array Tryd.underlying100 hd
  have hc2 : Tryd.prog.cellsOf 99 = 2 := by kernel_rfl
  have h1 := hat i hi
  rw [hc2, List.getElem?_eq_getElem (by omega)] at h1
  obtain ⟨y0, y1, n, hy, hly, e0, e1⟩ := trod_struct2 Tryd.underlying99 h1
  obtain ⟨c0, hc0, rfl, _⟩ := DataW.trod_int Tryd.underlying3 e0
  obtain ⟨c1, hc1, rfl, _⟩ := DataW.trod_string Tryd.underlying9 e1
  have hxi : (xs.map (·.1))[i]? = some (.agg [.lit (.int .i64 z.1), .lit (.string z.2)]) := by
    have := congrArg Prod.fst hx
    simp only [saidData, DataW.agg.injEq] at this
    rw [← this, List.getElem?_map, hz]; rfl
  rw [List.getElem?_map, List.getElem?_eq_getElem (by omega), Option.map_some, hy] at hxi
  simp only [Option.some.injEq, DataW.agg.injEq, List.cons.injEq, DataW.lit.injEq, Lit.int.injEq, Lit.string.injEq, true_and, and_true] at hxi
  obtain ⟨rfl, h2⟩ := hxi
  have g0 : cs[2 * i]? = some (.int .i64 z.1) := by
    have := congrArg (·[0]?) hc0
    simp [List.getElem?_take, List.getElem?_drop] at this
    rw [show 2 * i = i * 2 by omega]; exact this.2
  have g1 : cs[2 * i + 1]? = some (.string c1) := by
    have := congrArg (·[0]?) hc1
    simp [List.getElem?_take, List.getElem?_drop] at this
    rw [show 2 * i + 1 = i * 2 + 1 by omega]; exact this.2
  have v0 := World.var?_cell (g := 1) (by kernel_rfl) hvar (2 * i)
  have v1 := World.var?_cell (g := 1) (by kernel_rfl) hvar (2 * i + 1)
  refine ⟨by rw [v0]; simpa using g0, by rw [v1, ← h2, mk_data]; simpa using g1⟩
end Go.Proofs.YtkbjklnkeammiaaDoor.Oct
