/- The ring's round, Pick. -/
import Derived.Test.YtiamkhhnnlgemaaDoorRiT
namespace Go.Proofs.YtiamkhhnnlgemaaDoor.Ri
open Go.RowKit Go.Shelf Go.Proofs.YtiamkhhnnlgemaaDoor.Sip
set_option linter.unusedVariables false
attribute [local go_sem] Oper.semAt_some
def ptA (p : Pt) : Value := .agg #[.int .u64 p.1, .string (mk p.2)]
/-- From one on, round. -/
def roundL {α : Type} (l : List α) (a : Nat) : List α := l.drop a ++ l.take a
theorem round_len {α : Type} (l : List α) (a : Nat) (h : a ≤ l.length) : (roundL l a).length = l.length := by
  unfold roundL; rw [List.length_append, List.length_drop, List.length_take]; omega
theorem round_get {α : Type} (l : List α) (a i : Nat) (h : a < l.length) (hi : i < l.length) : (roundL l a)[i]? = l[(a + i) % l.length]? := by
  unfold roundL
  by_cases c : i < l.length - a
  · rw [List.getElem?_append_left (by rw [List.length_drop]; omega), List.getElem?_drop, Nat.mod_eq_of_lt (by omega)]
  · rw [List.getElem?_append_right (by rw [List.length_drop]; omega), List.length_drop, List.getElem?_take, if_pos (by omega)]
    congr 1
    rw [show a + i = (i - (l.length - a)) + l.length by omega, Nat.add_mod_right, Nat.mod_eq_of_lt (by omega)]
theorem mixed_ok : Tryd.prog.follows .mixedOrders = true := by kernel_rfl
theorem round_in (n : Nat) (rb : Nat) (a : Nat) (w : World) :
    CallsIn Fence.wide n Tryd.prog 29 #[.pointer (some ⟨rb, 0, none⟩), .int .i64 a] w fun e w' => e = .returned (.func (.func 43) #[] #[.pointer (some ⟨w.heap.size, 0, none⟩), .pointer (some ⟨w.heap.size + 1, 0, none⟩)]) ∧ w' = (w.alloc (.cells #[.pointer (some ⟨rb, 0, none⟩)] 28)).alloc (.cells #[.int .i64 a] 3) := by
  refine callsIn_of_wp Tryd.func29 rfl trivial ?_ rfl
  simp only [Tryd.ntmps29, List.size_toArray, List.length_cons, List.length_nil, Nat.reduceAdd, Nat.reduceSub, Array.replicate_succ, Array.replicate_zero, List.push_toArray, List.append_toArray, List.nil_append, List.cons_append]
  gi_wp2
  go_ret
  exact ⟨rfl, rfl⟩
/-- What a round that goes on keeps: what lay below n0, and the iterator's two boxes. -/
def KpR (n0 B1 B2 : Nat) (W W' : World) : Prop := Below n0 W W' ∧ W'.heap[B1]? = W.heap[B1]? ∧ W'.heap[B2]? = W.heap[B2]?
theorem KpR.trans {n0 B1 B2 : Nat} {A B C : World} (h : KpR n0 B1 B2 A B) (k : KpR n0 B1 B2 B C) : KpR n0 B1 B2 A C := ⟨h.1.trans k.1, k.2.1.trans h.2.1, k.2.2.trans h.2.2⟩
theorem KpR.refl (n0 B1 B2 : Nat) (W : World) : KpR n0 B1 B2 W W := ⟨Below.refl _ _, rfl, rfl⟩
theorem KpR.put {n0 B1 B2 : Nat} {w : World} (hn : n0 ≤ w.heap.size) (h1 : B1 < w.heap.size) (h2 : B2 < w.heap.size) (W : World) (l : Nat) (o o' : Obj) (hl : w.heap.size ≤ l) (h : W.heap[l]? = some o) (ha : o.isCells = false) (hb : o.isWalk = false) : KpR n0 B1 B2 W (W.putObj l o') := by
  have hB : Below w.heap.size W (W.putObj l o') := belowK_b (w := w) (Nat.le_refl _) W l o o' hl h ha hb
  have hll := (Array.getElem?_eq_some_iff.1 h).1
  exact ⟨hB.mono hn, hB.block B1 h1, hB.block B2 h2⟩
set_option maxRecDepth 100000 in
set_option maxHeartbeats 2000000 in
theorem round1_in (n : Nat) (hn : 1 ≤ n) (l B1 B2 rb a : Nat) (ps : List Pt) (hN : ps.length ≤ 1000000) (ha : ps = [] ∨ a < ps.length) (J Jx : List Pt → World → Prop) (W0 W : World)
    (hY : ∀ pre x W, J pre W → pre.length < ps.length → YieldAt Fence.wide (n - 1) Tryd.prog l #[ptA x] W fun e W' =>
      (e = .returned (.bool true) ∧ J (pre ++ [x]) W' ∧ KpR W0.heap.size B1 B2 W W') ∨ (e = .returned (.bool false) ∧ Jx (pre ++ [x]) W'))
    (hR0 : Rng W0 rb ps) (hbW : Below W0.heap.size W0 W) (hB1 : Blk W B1 #[.pointer (some ⟨rb, 0, none⟩)] 28) (hB2 : Blk W B2 #[.int .i64 a] 3) (hJ : AbidesFrom W.heap.size J) (h0 : J [] W) :
    CallsIn Fence.wide n Tryd.prog 43 #[.func (.yield l) #[] #[], .pointer (some ⟨B1, 0, none⟩), .pointer (some ⟨B2, 0, none⟩)] W fun e W' => (∃ v, e = .returned v) ∧
      ((∃ ys, ys = roundL ps a ∧ J ys W') ∨ (∃ pre, pre <+: roundL ps a ∧ Jx pre W')) := by
  have hR1 : Rng W rb ps := hR0.below hbW
  have h3 := hR0
  obtain ⟨v0, hbk0, A0, c0, rfl, hc0, hr0⟩ := h3
  have hrb := hbk0.lt
  have hrc0 := hbk0.cell (i := 0) rfl
  have k1 := hB1.cell (i := 0) rfl
  have k2 := hB2.cell (i := 0) rfl
  have hrc := (hbW.cell (p := ⟨rb, 0, none⟩) hrb).trans hrc0
  have hrl : (roundL ps a).length = ps.length := by
    rcases ha with h | h
    · subst h; simp [roundL]
    · exact round_len _ _ (by omega)
  refine callsIn_of_wp Tryd.func43 rfl trivial ?_ rfl
  simp only [Tryd.ntmps43, List.size_toArray, List.length_cons, List.length_nil, Nat.reduceAdd, Nat.reduceSub, Array.replicate_succ, Array.replicate_zero, List.push_toArray, List.append_toArray, List.nil_append, List.cons_append]
  gi_wp2
  gi_loopw [10] (fun i wr => ∃ k : Nat, k ≤ ps.length ∧ i = .int .i64 k ∧ J ((roundL ps a).take k) wr ∧ KpR W0.heap.size B1 B2 W wr)
    (fun i _ => ps.length - (intOf i).toNat)
  case atStart => exact ⟨0, Nat.zero_le _, rfl, h0, KpR.refl _ _ _ _⟩
  case round =>
    obtain ⟨k, hk, rfl, hJs, hnx⟩ := hrel
    by_cases hlt : k < ps.length
    · obtain ⟨b, o, rfl, hlb, hx⟩ := hr0 (by omega)
      have hB0 := hbW.trans hnx.1
      have k3 : Blk wr B1 #[.pointer (some ⟨rb, 0, none⟩)] 28 := hnx.2.1.trans hB1
      have k4 : Blk wr B2 #[.int .i64 a] 3 := hnx.2.2.trans hB2
      have hal : a < ps.length := by rcases ha with h | h; (subst h; simp at hlt); exact h
      have hml : (a + k) % ps.length < ps.length := Nat.mod_lt _ (by omega)
      obtain ⟨p, hp⟩ : ∃ p, ps[(a + k) % ps.length]? = some p := ⟨_, List.getElem?_eq_getElem hml⟩
      obtain ⟨e0, e1⟩ := hx _ p hp
      have hrg := round_get ps a k hal hlt
      rw [hp] at hrg
      have htk := Lib.hid (show (roundL ps a).take (k + 1) = (roundL ps a).take k ++ [p] by rw [List.take_add_one, hrg]; rfl)
      have q0 := (hB0.cell (p := ⟨b, o + (a + k) % ps.length * 2, none⟩) hlb).trans e0
      have q1 := (hB0.cell (p := ⟨b, o + (a + k) % ps.length * 2 + 1, none⟩) hlb).trans e1
      have q2 := (hB0.cell (p := ⟨rb, 0, none⟩) hrb).trans hrc0
      have q3 := k3.cell (i := 0) rfl
      have q4 := k4.cell (i := 0) rfl
      have x1 : IntKind.i64.wrap ((a : Int) + (k : Int)) = (a : Int) + (k : Int) := IntWalk.i64_in _ (by omega)
      have x2 : ((a : Int) + (k : Int)).tmod (ps.length : Int) = (((a + k) % ps.length : Nat) : Int) := rfl
      have x3 : ¬ (ps.length : Int) = 0 := by omega
      have x4 : ¬ ps.length = 0 := by omega
      generalize (a + k) % ps.length = ix at *
      have z1 : (0 : Int) ≤ (ix : Int) := by omega
      have z2 : (ix : Int) < (ps.length : Int) := by omega
      have hJ2 : J ((roundL ps a).take k) wr.drew := hJ _ wr wr.drew none hJs ⟨rfl, rfl, rfl, Nat.le_refl _, fun _ _ _ => rfl⟩ (fun r e => by cases e)
      have hnx2 : KpR W0.heap.size B1 B2 W wr.drew := ⟨hnx.1.drew, hnx.2.1, hnx.2.2⟩
      obtain ⟨fn, tmps, assign, body, hy, hR⟩ := hY _ p _ hJ2 (by rw [List.length_take]; omega)
      unfold ptA at hy
      clear e0 e1 hx hrg hp
      gi_wp2
      refine wpInW_region_still_tail 16 mixed_ok (by kernel_rfl) (by kernel_rfl) ?_
      simp only [List.take_succ_cons, List.take_zero, List.drop_succ_cons, List.drop_zero]
      repeat (first | still_step)
      (try refine wpStill_nil ?_)
      gi_wp2
      refine hR.mono ?_
      rintro e W3 (⟨rfl, hJ3, hk3⟩ | ⟨rfl, hJx3⟩)
      · gi_wp2
        go_roundw
        case rel => exact ⟨k + 1, by omega, by simp, by rw [htk.out]; exact hJ3, hnx2.trans hk3⟩
        case measure => simp [intOf]; omega
      · gi_wp2
        refine bodyPost_ret (results_none rfl _ _ _) rfl ?_
        exact ⟨⟨_, rfl⟩, .inr ⟨_, by rw [← htk.out]; exact List.take_prefix _ _, hJx3⟩⟩
    · obtain rfl : k = ps.length := by omega
      gi_wp2
      go_end0
      exact ⟨⟨_, rfl⟩, .inl ⟨_, List.take_of_length_le (by omega), hJs⟩⟩
theorem round_stops (n : Nat) (hn : 1 ≤ n) (B1 B2 rb a : Nat) (ps : List Pt) (hN : ps.length ≤ 1000000) (ha : ps = [] ∨ a < ps.length) (W0 w : World) (hR0 : Rng W0 rb ps) (hb0 : Below W0.heap.size W0 w)
    (hB1 : Blk w B1 #[.pointer (some ⟨rb, 0, none⟩)] 28) (hB2 : Blk w B2 #[.int .i64 a] 3) :
    SeqStopsK Fence.wide n Tryd.prog 43 #[.pointer (some ⟨B1, 0, none⟩), .pointer (some ⟨B2, 0, none⟩)] (fun x : Pt => #[ptA x]) (KpR W0.heap.size B1 B2) (fun ys => ys = roundL ps a) (fun pre => pre <+: roundL ps a) ps.length w := fun l J Jx W hW hJ _ hY h0 =>
  round1_in n hn l B1 B2 rb a ps hN ha J Jx W0 W hY hR0 (hb0.trans (hW.mono hb0.size)) (hB1.below hW) (hB2.below hW) hJ h0
end Go.Proofs.YtiamkhhnnlgemaaDoor.Ri
