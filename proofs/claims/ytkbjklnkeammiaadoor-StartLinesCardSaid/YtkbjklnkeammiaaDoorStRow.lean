/- What the Start rows share: from the row's condition to the facts that the walks ask. -/
import Derived.Test.YtkbjklnkeammiaaDoorOctRow
import Derived.Test.YtkbjklnkeammiaaDoorStD
set_option linter.unusedVariables false
namespace Go.Proofs.YtkbjklnkeammiaaDoor.StRow
open Go.ChangeShapes Go.WideShapes Go.ChangeAt Go.RowKit Go.Proofs.YtkbjklnkeammiaaDoor.Oct Go.Proofs.YtkbjklnkeammiaaDoor.OctRow
def laid8 : List (String × DataW Unit) := Rows.startCodesRow.laid
set_option maxRecDepth 100000 in
/-- A start for the witness: the heap that the door's run leaves, and the library's pinned table laid. -/
noncomputable def laidStart8 (os : Os) : World :=
  let w := World.doorLaid Tryd.prog 200 os
  { w with heap := w.heap.modify 4 fun
      | .cells _ t frozen => .cells (Pinned.utf8FirstZ.map fun z : Nat => Value.int .u8 (z : Int)).toArray t frozen
      | o => o }
set_option maxRecDepth 100000 in
/-- It meets the condition. -/
theorem laidStart8_met (os : Os) (args : Array Value) : laidMetH Tryd.prog laid8 ((laidStart8 os).forCall (fun _ _ => 0) ⟨#[], args, []⟩).memory :=
  laidMetH_of_parts3 (fuel := 8) (laidMet_of_run' 8 (by kernel_rfl) (by kernel_rfl)) (by kernel_rfl) (by kernel_rfl)
set_option maxRecDepth 100000 in
theorem laid8_is : laid8 = ("math/bits.deBruijn32tab", Rows.laid_math_bits_deBruijn32tab) :: ("math/bits.deBruijn64tab", Lib.tabData .u8 tz64) :: ("internal/strconv.uint64pow10", Lib.tabData .u64 Lib.pow10Tab) :: laid8.drop 3 := by kernel_rfl
set_option maxRecDepth 100000 in
theorem laid8_said : laid8.drop 6 = ("steward/start.reasons", saidData) :: laid8.drop 7 := by kernel_rfl
theorem laidMet_drop {P : Program} {W : World} : ∀ (k : Nat) {l : List (String × DataW Unit)}, laidMet P l W → laidMet P (l.drop k) W
  | 0, _, h => h
  | k + 1, [], h => h
  | k + 1, _ :: _, h => laidMet_drop k (laidMet.tail h)
set_option maxRecDepth 100000 in
/-- What the condition gives the walks. -/
theorem env8_of {W : World} (h : laidMetH Tryd.prog laid8 W) (hsh : W.ShapedOpen Tryd.prog) : SEnv W := by
  rw [MakeChecks.laidMetH_plain _ _ _ (by kernel_rfl)] at h
  have hs := laidMet_drop 6 h
  rw [laid8_said] at hs
  rw [laid8_is] at h
  have h1 := laidMet.tail h
  have h2 := laidMet.tail h1
  have ht : Lib.TabIs Tryd.prog W "math/bits.deBruijn64tab" .u8 tz64 := Lib.tabIs_of_head (g := 9) (t := 181) (e := 5) (n := 64) (by kernel_rfl) (by kernel_rfl) Tryd.underlying181 Tryd.underlying5 (by kernel_rfl) (by kernel_rfl) h1
  refine ⟨⟨Lib.tabIs_of_head (g := 2) (t := 160) (e := 141) (n := 20) (by kernel_rfl) (by kernel_rfl) Tryd.underlying160 Tryd.underlying141 (by kernel_rfl) (by kernel_rfl) h2, ?_, ?_⟩, ?_⟩
  · have := World.var?_cell (g := 9) (by kernel_rfl) ht 15
    rw [this]; rfl
  · exact cell_of_shapedOpen_int (P := Tryd.prog) (g := 3) (t := 3) (zero := #[.int .i64 0]) hsh (of_decide_eq_true (by kernel_rfl)) (by kernel_rfl) rfl (by kernel_rfl) (by kernel_rfl) Tryd.underlying3
  · exact said_cells (rest := laid8.drop 7) hs
end Go.Proofs.YtkbjklnkeammiaaDoor.StRow
