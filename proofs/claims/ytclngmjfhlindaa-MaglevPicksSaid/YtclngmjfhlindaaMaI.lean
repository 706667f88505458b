/- The walker's next place. -/
import Derived.Test.YtclngmjfhlindaaMaH
import Derived.Deep.LoopGhost
import Derived.StillTailTactics
namespace Go.Proofs.Ytclngmjfhlindaa.Ma
open Go.RowKit Go.Proofs.Ytclngmjfhlindaa.Sip
set_option linter.unusedVariables false
/-- The places as they lie in memory. -/
def PB (w : World) (pb : Nat) (P : List Int) : Prop := pb < w.heap.size ∧ ∀ j x, P[j]? = some x → w.cell? ⟨pb, j, none⟩ = some (.int .i64 x)
theorem PB.other {w w' : World} {pb : Nat} {P : List Int} (h : PB w pb P) {r : Option Nat} (hg : w.grownBy w' r) (hne : some pb ≠ r) : PB w' pb P :=
  ⟨Nat.lt_of_lt_of_le h.1 hg.size, fun j x hj => (World.cell?_of_block (a := ⟨pb, j, none⟩) (hg.block pb h.1 hne)).trans (h.2 j x hj)⟩
theorem WkB.cells {W : World} {b : Nat} {at_ st ow wt : Int} (h : WkB W b at_ st ow wt) : W.cell? ⟨b, 0, none⟩ = some (.int .i64 at_) ∧ W.cell? ⟨b, 1, none⟩ = some (.int .i64 st) ∧ W.cell? ⟨b, 2, none⟩ = some (.int .i64 ow) ∧ W.cell? ⟨b, 3, none⟩ = some (.int .i64 wt) ∧ W.frozen? ⟨b, 0, none⟩ = false ∧ W.frozen? ⟨b, 2, none⟩ = false :=
  ⟨(cell_of_row _ b 0 _ _ _ h).trans rfl, (cell_of_row _ b 1 _ _ _ h).trans rfl, (cell_of_row _ b 2 _ _ _ h).trans rfl, (cell_of_row _ b 3 _ _ _ h).trans rfl, by simp [World.frozen?, show W.heap[b]? = _ from h], by simp [World.frozen?, show W.heap[b]? = _ from h]⟩
theorem heap_set {w : World} {b i : Nat} {cs : Array Value} {T : TypeId} (h : w.heap[b]? = some (.cells cs T (0, 0))) (v : Value) : (w.setCell ⟨b, i, none⟩ v).heap[b]? = some (.cells (cs.setIfInBounds i v) T (0, 0)) := by
  simp [World.setCell, Array.getElem?_modify, h]
theorem WkB.set0 {W : World} {b : Nat} {at_ st ow wt : Int} (h : WkB W b at_ st ow wt) (x : Int) : WkB (W.setCell ⟨b, 0, none⟩ (.int .i64 x)) b x st ow wt := heap_set h _
theorem WkB.set2 {W : World} {b : Nat} {at_ st ow wt : Int} (h : WkB W b at_ st ow wt) (x : Int) : WkB (W.setCell ⟨b, 2, none⟩ (.int .i64 x)) b at_ st x wt := heap_set h _
theorem grown_set (w : World) (b i : Nat) (v : Value) : w.grownBy (w.setCell ⟨b, i, none⟩ v) (some b) := ⟨rfl, rfl, rfl, by simp [World.setCell], fun k _ hk => Below.heap_setCell w _ _ k (fun e => hk (by rw [e]))⟩
theorem grown_trans {a b c : World} {r : Option Nat} (h : a.grownBy b r) (k : b.grownBy c r) : a.grownBy c r := ⟨k.os.trans h.os, k.tape.trans h.tape, k.output.trans h.output, Nat.le_trans h.size k.size, fun j hj hne => (k.block j (Nat.lt_of_lt_of_le hj h.size) hne).trans (h.block j hj hne)⟩
theorem grown_drew {a b : World} {r : Option Nat} (h : a.grownBy b r) : a.grownBy b.drew r := ⟨h.os, h.tape, h.output, h.size, h.block⟩
set_option maxRecDepth 100000 in
set_option maxHeartbeats 1000000 in
theorem next_any (m : Nat) (P : List Int) (r : Rw) (k0 k1 : Nat) (b pb c : Nat) (ow wt : Int) (w : World) (hm2 : m ≤ 1048576) (hs : r.s < m)
    (hW : WkB w b (pos m r k0 : Nat) (r.s : Nat) ow wt) (hP : PB w pb P) (hl : P.length = m) (hne : pb ≠ b)
    (h01 : k0 ≤ k1) (hk1 : P[pos m r k1]? = some (-1)) (hbet : ∀ k', k0 ≤ k' → k' < k1 → P[pos m r k']? ≠ some (-1)) :
    Calls Try.prog 32 #[.pointer (some ⟨b, 0, none⟩), .slice (some ⟨pb, 0, none⟩) m c] w fun e w' => e = .returned (.int .i64 (pos m r k1 : Nat)) ∧ w.grownBy w' (some b) ∧ w'.heap.size = w.heap.size ∧ WkB w' b (pos m r k1 : Nat) (r.s : Nat) ow wt := by
  have hg0 : w.grownBy w (some b) := ⟨rfl, rfl, rfl, Nat.le_refl _, fun _ _ _ => rfl⟩
  have hblt := hW.lt
  go_enter Try.func32, Try.ntmps32
  go_wp2
  go_loopg [] (k1 - k0) (fun gk wr => ∃ k, k0 ≤ k ∧ k ≤ k1 ∧ gk = k1 - k ∧ Hid (WkB wr b (pos m r k : Nat) (r.s : Nat) ow wt) ∧ w.grownBy wr (some b) ∧ Hid (wr.heap.size = w.heap.size))
  case atStart => exact ⟨k0, Nat.le_refl _, h01, rfl, Lib.hid hW, hg0, Lib.hid rfl⟩
  case round =>
    obtain ⟨k, hk0, hkk, hgk, hWk, hg, hsz⟩ := hrel
    have hpm : pos m r k < m := Nat.mod_lt _ (by omega)
    have hc := hWk.out.cells
    obtain ⟨hc0, hc1, _, _, hf0, _⟩ := hc
    obtain ⟨y, hx⟩ : ∃ y, P[pos m r k]? = some y := ⟨_, List.getElem?_eq_getElem (l := P) (i := pos m r k) (by omega)⟩
    have hpc := (hP.other hg (fun e => hne (Option.some.inj e))).2 _ _ hx
    have hnx := Lib.hid (pos_succ m r k)
    have hmk1 : Hid (pos m r k = pos m r k) := Lib.hid rfl
    generalize hp : pos m r k = p at *
    have d1 : (0 : Int) ≤ (p : Int) := by omega
    have d2 : (p : Int) < (m : Int) := by omega
    by_cases c1 : y = -1
    · have hkq : k = k1 := by
        rcases Nat.lt_or_ge k k1 with h | h
        · exact absurd (by rw [hp, hx, c1]) (hbet k hk0 h)
        · omega
      have hp1 := Lib.hid (show pos m r k1 = p by rw [← hkq]; exact hp)
      clear hP hbet hk1 hx hp hnx hmk1
      subst c1
      clear hkq hgk hk0 hkk h01
      go_wp2
      go_ret
      refine ⟨by rw [hp1.out]; rfl, hg, hsz.out, by rw [hp1.out]; exact hWk.out⟩
    · have hkq : k < k1 := by
        rcases Nat.lt_or_ge k k1 with h | h
        · exact h
        · have : k = k1 := by omega
          subst this
          rw [hp, hx] at hk1
          exact absurd (Option.some.inj hk1) c1
      have hk2 : Hid (k < k1 ∧ k0 ≤ k ∧ gk = k1 - k) := Lib.hid ⟨hkq, hk0, hgk⟩
      have w1 : IntKind.i64.wrap ((p : Int) + (r.s : Int)) = (p : Int) + (r.s : Int) := IntWalk.i64_in _ (by omega)
      have w2 : ((p : Int) + (r.s : Int)).tmod (m : Int) = (((p + r.s) % m : Nat) : Int) := rfl
      clear hP hbet hk1 hx hp hmk1 hkq hgk hk0 hkk h01
      go_wp2
      have d3 : ¬ (m : Int) = 0 := by omega
      have d4 : ¬ m = 0 := by omega
      have d5 : ((m : Int) == 0) = false := by simp; omega
      have d6 : 0 < m := by omega
      go_still_tail 15, (by kernel_rfl)
      go_wp2
      go_roundg (k1 - (k + 1))
      case measure => have := hk2.out; omega
      case rel => exact ⟨k + 1, by have := hk2.out; omega, by have := hk2.out; omega, rfl, Lib.hid (by rw [hnx.out]; exact (hWk.out.set0 _)), by first | exact grown_trans (grown_drew hg) (grown_set _ _ _ _) | exact grown_drew (grown_trans hg (grown_set _ _ _ _)), Lib.hid (by simp [World.setCell]; exact hsz.out)⟩
end Go.Proofs.Ytclngmjfhlindaa.Ma
