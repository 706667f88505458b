/- Report.Names. -/
import Derived.Test.YtphbieaoedbmpaaDoorRpI
namespace Go.Proofs.YtphbieaoedbmpaaDoor.Rp
open Go.RowKit Go.Maps Go.Sort Go.Shelf Go.Proofs.YtphbieaoedbmpaaDoor.Oct
set_option linter.unusedVariables false
set_option maxRecDepth 100000 in
set_option maxHeartbeats 1000000 in
theorem names_any {w : World} {rb g : Nat} {ns : List Nt} {nv : Value} {kb cb : Nat} {DK DC : DataW Unit} (h : RM w rb g ns nv kb cb DK DC) (hN : ns.length ≤ 1000) :
    Calls Tryd.prog 15 #[.pointer (some ⟨rb, 0, none⟩)] w fun e w' => ∃ u, e = .returned u ∧ OwnStrs w' w.heap.size u (namesN ns) ∧ Below w.heap.size w w' := by
  have c2 : w.cell? ⟨rb, 2, none⟩ = some (.map (some cb)) := h.blk.cell rfl
  have hp := names_perm h
  have hown := h.chosen
  have hsz : Maps.size DC ≤ ns.length := h.chosen.size_le
  have hq := names_sorted ns
  clear h
  refine (callsIn_wide (n := 6)).1 ?_
  have hfK : Fence.wide.fn 23 := trivial
  have hfS : Fence.wide.fn 22 := trivial
  refine callsIn_of_wp Tryd.func15 rfl trivial ?_ rfl
  simp only [Tryd.ntmps15, List.size_toArray, List.length_cons, List.length_nil, Nat.reduceAdd, Nat.reduceSub, Array.replicate_succ, Array.replicate_zero, List.push_toArray, List.append_toArray, List.nil_append, List.cons_append]
  gi_wp2_with (first
    | (gi_at_call 23; refine (maps_Keys _ _).mono ?_; rintro e w' ⟨rfl, rfl⟩)
    | (gi_at_call 22; refine (slices_Sorted_keys cb ns.length DC chE w hown (by unfold maxLen; omega) (by omega)).mono ?_; rintro e w' ⟨v, ss, rfl, hS, hrow, hnil, hb⟩))
  go_ret
  have e1 : ss.mergeSort leB = namesN ns := by rw [mergeSort_of_perm (hS.trans hp.symm), hq]
  have e2 : ss.length = (namesN ns).length := by rw [← e1, List.length_mergeSort]
  refine ⟨v, rfl, ?_, ((Below.refl _ w).alloc (Nat.le_refl _) _).trans (hb.mono (by simp))⟩
  have := ownsRow_base_a hrow (base' := w.heap.size) (by simp)
  rw [e2] at this
  rw [show (fun x y : List UInt8 => decide (x ≤ y)) = leB from rfl, e1] at this
  exact this
end Go.Proofs.YtphbieaoedbmpaaDoor.Rp
