/- A drawn region in the wide fence: reads, then a tail in one order. -/
import Derived.Test.YtiamkhhnnlgemaaDoorRiH
import Derived.StillTailTactics
import Derived.RangeFuncNested
import Derived.RangeFuncBound
import Derived.RangeFuncCalls
import Derived.RangeFuncLeaves
import Derived.Shelf.Abstract
import Derived.Shelf.RegionOpen
import Derived.WalkKit
import Derived.OwnWalkIn
import Derived.TacticsInMore
import Derived.LoopNIn
import Derived.LoopIn
namespace Go.Proofs.YtiamkhhnnlgemaaDoor.Ri
section
variable {n0 : Nat} {P : Program} {ops : Array Oper} {md : Region.Mode} {w : World} {Q : Exit → Act → World → Prop}
theorem wpInW_of_still {o : Oper} {a : Act} {K : Act → Prop} {K' : Act → World → Prop} (h : ∀ a, K a → K' a w) (hh : o.still P a w K) : o.wpIn Fence.wide n0 P a w K' Q := by
  refine ⟨fun _ _ => trivial, ?_⟩
  unfold Oper.still at hh
  rw [show (Fence.wide).round = none from rfl, Oper.semAt_none]
  generalize (execOp a.eval o).run P w = r at *
  cases r with
  | ok nx w' =>
    cases nx <;> simp only [Oper.stillUpon] at hh
    case value v => obtain ⟨rfl, h2⟩ := hh; rw [Oper.uponIn_value]; exact h _ h2
    case skip => obtain ⟨rfl, h2⟩ := hh; rw [Oper.uponIn_skip]; exact h _ h2
    case enter f args =>
      obtain ⟨rfl, v, hc, hn⟩ := hh
      rw [Oper.uponIn_enter]
      exact ⟨fun h => (by cases h), callsIn_wide.2 (hc.mono fun e w'' ⟨he, hw⟩ => by subst he; subst hw; exact h _ hn)⟩
  | halt x w' => simp only [Oper.stillUpon] at hh
theorem wpOpInW_of_stOp {i : Nat} {a : Act} {K : Act → Prop} {K' : Act → World → Prop} (h : ∀ a, K a → K' a w) (hh : stOp P ops w i K a) (hnc : ∀ (o : Oper), ops[i]? = some o → Region.wanted o (yielded ops a.tmps) = true) : wpOpIn Fence.wide n0 P ops Q i K' a w := by
  unfold stOp at hh
  unfold wpOpIn
  split
  · rename_i ho; simp only [ho] at hh; exact h _ hh
  · rename_i o ho
    simp only [ho] at hh
    have hw := hnc o ho
    simp only [hw, if_true] at hh ⊢
    exact wpInW_of_still h hh
theorem wanted_bare {o : Oper} {y : Nat → Option Bool} (h : o.guard = none) : Region.wanted o y = true := by simp [Region.wanted, h]
theorem wpAnyInW_of_head {n g : Nat} {L : Array Bool → Act → Prop} (hbare : ∀ (i : Nat) (o : Oper), ops[i]? = some o → o.guard = none) (hL : ∀ listed a, L listed a → wpAnyIn Fence.wide n0 P md ops Q g listed a w) :
    ∀ (f : Nat) (listed : Array Bool) (a : Act), wpAnyL P md ops w n L f listed a → wpAnyIn Fence.wide n0 P md ops Q (f + g) listed a w
  | 0, listed, a, h => by rw [Nat.zero_add]; exact hL _ _ h
  | f + 1, listed, a, h => by
    rw [show f + 1 + g = (f + g) + 1 by omega]
    exact ⟨fun h0 => absurd h0 h.1, fun i hi => wpOpInW_of_stOp (fun a' h' => wpAnyInW_of_head hbare hL f _ a' h') (h.2 i hi).2 (fun o ho => wanted_bare (hbare i o ho))⟩
theorem wpAnyInW_of_seq : ∀ (l : List Oper) (k : Nat) (listed : Array Bool) (a : Act) (w : World), (∀ j, l[j]? = ops[k + j]?) →
    Region.seqB md ops l.length k listed = true → wpListIn Fence.wide n0 P ops Q l a w → wpAnyIn Fence.wide n0 P md ops Q l.length listed a w
  | [], _, _, _, _, _, hB, h => ⟨by simpa [Region.seqB] using hB, h⟩
  | o :: l, k, listed, a, w, hl, hB, h => by
    have h0 : ops[k]? = some o := by simpa using (hl 0).symm
    simp only [List.length_cons, Region.seqB, Bool.and_eq_true, decide_eq_true_eq] at hB
    refine ⟨fun h1 => (by rw [hB.1] at h1; cases h1), fun i hi => ?_⟩
    rw [hB.1] at hi
    have hik : i = k := by simpa using hi
    subst hik
    have hw : wpOpIn Fence.wide n0 P ops Q i (wpListIn Fence.wide n0 P ops Q l) a w := by unfold wpOpIn; simp only [h0]; exact h
    exact wpOpIn_mono (fun a' w' h' => wpAnyInW_of_seq l (i + 1) _ a' w' (fun j => by have := hl (j + 1); simpa [Nat.add_assoc, Nat.add_comm 1 j] using this) hB.2 h') hw
theorem wpInW_region_still_tail {id : Nat} {a : Act} {w : World} {l : List Oper} (n : Nat) (hm : P.follows .mixedOrders = true) (hB : Region.lexTailB .any l.toArray n = true) (hbare : l.all (fun o => o.guard.isNone) = true)
    (h : wpStill P l.toArray w.drew (fun a' => wpListIn Fence.wide n0 P l.toArray Q (l.drop n) a' w.drew) (l.take n) a) : (Code.region id l.toArray true).wpIn Fence.wide n0 P Q a w := by
  simp only [Region.lexTailB, Bool.and_eq_true, decide_eq_true_eq] at hB
  obtain ⟨⟨⟨⟨hsel, hn⟩, hs⟩, hc⟩, hlex⟩ := hB
  have hn' : n < l.length := by simpa using hn
  have htl : (l.take n).length = n := by simp; omega
  have hdl : (l.drop n).length = l.toArray.size - n := by simp
  have inv0 : HeadInv .any l.toArray n (Array.replicate l.toArray.size false) :=
    ⟨by simp, fun j oj _ hl => (by rw [getD_replicate_false] at hl; cases hl), fun t _ ht => getD_in (by simpa using ht) (getD_replicate_false _ _)⟩
  have H := wpAnyL_lex (md := .any) (g := l.toArray.size - n) hsel hs hc hn (l.take n) 0 _ a (fun j hj => by
    have hj' : j < n := by rw [htl] at hj; exact hj
    simp [hj']) (by simpa using htl) inv0 (by rw [htl]; exact hlex) h
  refine wpIn_region_any hm ?_
  have hb : ∀ (i : Nat) (o : Oper), l.toArray[i]? = some o → o.guard = none := fun i o ho => by
    rw [List.getElem?_toArray] at ho
    have h1 := List.all_eq_true.1 hbare o (List.mem_of_getElem? ho)
    exact Option.isNone_iff_eq_none.1 h1
  have := wpAnyInW_of_head (n0 := n0) (Q := Q) (g := l.toArray.size - n) hb (fun listed a' hL => by
    have := wpAnyInW_of_seq (n0 := n0) (md := .any) (Q := Q) (l.drop n) n listed a' w.drew (fun j => by simp [List.getElem?_drop]) (by rw [hdl]; exact hL.1) hL.2
    rwa [hdl] at this) _ _ _ H
  rw [htl, show n + (l.toArray.size - n) = l.toArray.size by omega] at this
  exact this
end
end Go.Proofs.YtiamkhhnnlgemaaDoor.Ri
