/- The program's words and rounds. -/
import Derived.Test.YtiamkhhnnlgemaaDoorSipD
namespace Go.Proofs.YtiamkhhnnlgemaaDoor.Sip
open Go.RowKit
set_option linter.unusedVariables false
/-- The program's state in its block. -/
def St (w : World) (g : Nat) (a b c d : Int) (left : Value) (n : Int) : Prop :=
  w.heap[g]? = some (.cells #[.int .u64 a, .int .u64 b, .int .u64 c, .int .u64 d, left, .int .i64 n] 82)
theorem St.lt {w : World} {g : Nat} {a b c d : Int} {left : Value} {n : Int} (h : St w g a b c d left n) : g < w.heap.size := (Array.getElem?_eq_some_iff.1 h).1
theorem St.drew {w : World} {g : Nat} {a b c d : Int} {left : Value} {n : Int} (h : St w g a b c d left n) : St w.drew g a b c d left n := h
theorem St.cells {w : World} {g : Nat} {a b c d : Int} {left : Value} {n : Int} (h : St w g a b c d left n) :
    w.cell? ⟨g, 0, none⟩ = some (.int .u64 a) ∧ w.cell? ⟨g, 1, none⟩ = some (.int .u64 b) ∧ w.cell? ⟨g, 2, none⟩ = some (.int .u64 c) ∧ w.cell? ⟨g, 3, none⟩ = some (.int .u64 d) ∧ w.cell? ⟨g, 4, none⟩ = some left ∧ w.cell? ⟨g, 5, none⟩ = some (.int .i64 n) ∧
    w.frozen? ⟨g, 0, none⟩ = false ∧ w.frozen? ⟨g, 1, none⟩ = false ∧ w.frozen? ⟨g, 2, none⟩ = false ∧ w.frozen? ⟨g, 3, none⟩ = false ∧ w.frozen? ⟨g, 4, none⟩ = false ∧ w.frozen? ⟨g, 5, none⟩ = false := by
  have h : w.heap[g]? = _ := h
  refine ⟨?_, ?_, ?_, ?_, ?_, ?_, ?_, ?_, ?_, ?_, ?_, ?_⟩
  all_goals first
    | (simp only [World.cell?, h, Option.isSome_none, Bool.false_eq_true, if_false]; rfl)
    | (simp only [World.frozen?, h]; simp)
theorem St.set0 {w : World} {g : Nat} {a b c d : Int} {left : Value} {n : Int} (h : St w g a b c d left n) (x : Int) : St (w.setCell ⟨g, 0, none⟩ (.int .u64 x)) g x b c d left n := by
  have h : w.heap[g]? = _ := h
  unfold St
  simp only [World.setCell, Array.getElem?_modify, if_true, h, Option.map_some, Option.isSome_none, Bool.false_eq_true, if_false]
  simp
theorem St.set1 {w : World} {g : Nat} {a b c d : Int} {left : Value} {n : Int} (h : St w g a b c d left n) (x : Int) : St (w.setCell ⟨g, 1, none⟩ (.int .u64 x)) g a x c d left n := by
  have h : w.heap[g]? = _ := h
  unfold St
  simp only [World.setCell, Array.getElem?_modify, if_true, h, Option.map_some, Option.isSome_none, Bool.false_eq_true, if_false]
  simp
theorem St.set2 {w : World} {g : Nat} {a b c d : Int} {left : Value} {n : Int} (h : St w g a b c d left n) (x : Int) : St (w.setCell ⟨g, 2, none⟩ (.int .u64 x)) g a b x d left n := by
  have h : w.heap[g]? = _ := h
  unfold St
  simp only [World.setCell, Array.getElem?_modify, if_true, h, Option.map_some, Option.isSome_none, Bool.false_eq_true, if_false]
  simp
theorem St.set3 {w : World} {g : Nat} {a b c d : Int} {left : Value} {n : Int} (h : St w g a b c d left n) (x : Int) : St (w.setCell ⟨g, 3, none⟩ (.int .u64 x)) g a b c x left n := by
  have h : w.heap[g]? = _ := h
  unfold St
  simp only [World.setCell, Array.getElem?_modify, if_true, h, Option.map_some, Option.isSome_none, Bool.false_eq_true, if_false]
  simp
theorem St.set4 {w : World} {g : Nat} {a b c d : Int} {left : Value} {n : Int} (h : St w g a b c d left n) (x : Value) : St (w.setCell ⟨g, 4, none⟩ x) g a b c d x n := by
  have h : w.heap[g]? = _ := h
  unfold St
  simp only [World.setCell, Array.getElem?_modify, if_true, h, Option.map_some, Option.isSome_none, Bool.false_eq_true, if_false]
  simp
theorem St.set5 {w : World} {g : Nat} {a b c d : Int} {left : Value} {n : Int} (h : St w g a b c d left n) (x : Int) : St (w.setCell ⟨g, 5, none⟩ (.int .i64 x)) g a b c d left x := by
  have h : w.heap[g]? = _ := h
  unfold St
  simp only [World.setCell, Array.getElem?_modify, if_true, h, Option.map_some, Option.isSome_none, Bool.false_eq_true, if_false]
  simp
theorem tailDrew {P : Program} {id : Nat} {Q : Exit → Act → World → Prop} {a : Act} {w : World} {l : List Oper} (n : Nat) (hm : P.follows .mixedOrders = true) (hB : Region.lexTailB .any l.toArray n = true)
    (h : wpStill P l.toArray w.drew (fun a' => wpList P l.toArray Q (l.drop n) a' w.drew) (l.take n) a) : (Code.region id l.toArray true).wp P Q a w := wp_region_still_tail n hm hB h
theorem rotS13 (x : Int) (w : World) : Calls Tryd.prog 62 #[.int .u64 x, .int .i64 13] w fun e w' => e = .returned (.int .u64 (rotl x 8192 2251799813685248)) ∧ w' = w := (rot13 x w).mono fun e w' h => ⟨h.1, h.2.symm⟩
theorem rotS16 (x : Int) (w : World) : Calls Tryd.prog 62 #[.int .u64 x, .int .i64 16] w fun e w' => e = .returned (.int .u64 (rotl x 65536 281474976710656)) ∧ w' = w := (rot16 x w).mono fun e w' h => ⟨h.1, h.2.symm⟩
theorem rotS17 (x : Int) (w : World) : Calls Tryd.prog 62 #[.int .u64 x, .int .i64 17] w fun e w' => e = .returned (.int .u64 (rotl x 131072 140737488355328)) ∧ w' = w := (rot17 x w).mono fun e w' h => ⟨h.1, h.2.symm⟩
theorem rotS21 (x : Int) (w : World) : Calls Tryd.prog 62 #[.int .u64 x, .int .i64 21] w fun e w' => e = .returned (.int .u64 (rotl x 2097152 8796093022208)) ∧ w' = w := (rot21 x w).mono fun e w' h => ⟨h.1, h.2.symm⟩
theorem mixed_ok : Tryd.prog.follows .mixedOrders = true := by kernel_rfl
theorem keepDrew {w w1 : World} {g : Nat} (h : w.grownBy w1 (some g)) : w.grownBy w1.drew (some g) := ⟨h.os, h.tape, h.output, h.size, h.block⟩
theorem keepSet' {w w1 : World} {g : Nat} (h : w.grownBy w1 (some g)) (o : Nat) (v : Value) : w.grownBy (w1.setCell ⟨g, o, none⟩ v) (some g) := by
  refine ⟨h.os, h.tape, h.output, by simp [World.setCell]; exact h.size, fun k hk hne => ?_⟩
  rw [Below.heap_setCell _ _ _ _ (by intro e; exact hne (by rw [e]))]
  exact h.block k hk hne
set_option maxRecDepth 100000 in
set_option maxHeartbeats 4000000 in
theorem round_any (v : S4) (left : Value) (n : Int) (g : Nat) (w : World) (h : St w g v.a v.b v.c v.d left n) :
    Calls Tryd.prog 47 #[.pointer (some ⟨g, 0, none⟩)] w fun e w' => e = .returned (.tuple #[]) ∧ St w' g (roundI v).a (roundI v).b (roundI v).c (roundI v).d left n ∧ w.grownBy w' (some g) := by
  obtain ⟨a0, b0, c0, d0⟩ := v
  have hG0 : w.grownBy w (some g) := ⟨rfl, rfl, rfl, Nat.le_refl _, fun k _ _ => rfl⟩
  have hS0 : St w g a0 b0 c0 d0 left n := h
  clear h
  obtain ⟨a1, ha1⟩ : ∃ x, IntKind.u64.wrap (a0 + b0) = x := ⟨_, rfl⟩
  obtain ⟨b1, hb1⟩ : ∃ x, bits .xor .u64 (rotl b0 8192 2251799813685248) a1 = x := ⟨_, rfl⟩
  obtain ⟨a2, ha2⟩ : ∃ x, rotl a1 4294967296 4294967296 = x := ⟨_, rfl⟩
  obtain ⟨c1, hc1⟩ : ∃ x, IntKind.u64.wrap (c0 + d0) = x := ⟨_, rfl⟩
  obtain ⟨d1, hd1⟩ : ∃ x, bits .xor .u64 (rotl d0 65536 281474976710656) c1 = x := ⟨_, rfl⟩
  obtain ⟨a3, ha3⟩ : ∃ x, IntKind.u64.wrap (a2 + d1) = x := ⟨_, rfl⟩
  obtain ⟨d2, hd2⟩ : ∃ x, bits .xor .u64 (rotl d1 2097152 8796093022208) a3 = x := ⟨_, rfl⟩
  obtain ⟨c2, hc2⟩ : ∃ x, IntKind.u64.wrap (c1 + b1) = x := ⟨_, rfl⟩
  obtain ⟨b2, hb2⟩ : ∃ x, bits .xor .u64 (rotl b1 131072 140737488355328) c2 = x := ⟨_, rfl⟩
  obtain ⟨c3, hc3⟩ : ∃ x, rotl c2 4294967296 4294967296 = x := ⟨_, rfl⟩
  have hR := Lib.hid (show roundI ⟨a0, b0, c0, d0⟩ = ⟨a3, b2, c3, d2⟩ by simp only [roundI, addI, xorI, ha1, hb1, ha2, hc1, hd1, ha3, hd2, hc2, hb2, hc3])
  replace ha1 := Lib.hid ha1
  replace hb1 := Lib.hid hb1
  replace ha2 := Lib.hid ha2
  replace hc1 := Lib.hid hc1
  replace hd1 := Lib.hid hd1
  replace ha3 := Lib.hid ha3
  replace hd2 := Lib.hid hd2
  replace hc2 := Lib.hid hc2
  replace hb2 := Lib.hid hb2
  replace hc3 := Lib.hid hc3
  go_enter Tryd.func47, Tryd.ntmps47
  go_wp2
  (try go_wp2)
  obtain ⟨p0, p1, p2, p3, p4, p5, q0, q1, q2, q3, q4, q5⟩ := hS0.cells
  have lt0 := hS0.lt
  have ea1 := ha1.out
  refine tailDrew 11 mixed_ok (by kernel_rfl) ?_
  simp only [List.take_succ_cons, List.take_zero, List.drop_succ_cons, List.drop_zero]
  repeat (first | still_step)
  (try refine wpStill_nil ?_)
  go_wp2
  have hS1 := (hS0.set0 a1).drew
  have hG1 := keepDrew (keepSet' hG0 0 (.int .u64 a1))
  clear p0 p1 p2 p3 p4 p5 q0 q1 q2 q3 q4 q5 ea1 lt0
  generalize (w.setCell ⟨g, 0, none⟩ (.int .u64 a1)).drew = w1 at *
  clear hS0 hG0
  obtain ⟨p0, p1, p2, p3, p4, p5, q0, q1, q2, q3, q4, q5⟩ := hS1.cells
  have lt1 := hS1.lt
  have eb1 := hb1.out
  refine tailDrew 13 mixed_ok (by kernel_rfl) ?_
  simp only [List.take_succ_cons, List.take_zero, List.drop_succ_cons, List.drop_zero]
  repeat (first | still_step | still_call (rotS13 _ _))
  (try refine wpStill_nil ?_)
  have ea2 := ha2.out
  go_wp2_with (first | (go_at_call 62; refine (rot32 _ _).mono ?_; rintro e w' ⟨rfl, rfl⟩))
  have hS2 := ((hS1.set1 b1).set0 a2).drew
  have hG2 := keepDrew (keepSet' (keepSet' hG1 1 (.int .u64 b1)) 0 (.int .u64 a2))
  clear p0 p1 p2 p3 p4 p5 q0 q1 q2 q3 q4 q5 eb1 ea2 lt1
  generalize ((w1.setCell ⟨g, 1, none⟩ (.int .u64 b1)).setCell ⟨g, 0, none⟩ (.int .u64 a2)).drew = w2 at *
  clear hS1 hG1
  obtain ⟨p0, p1, p2, p3, p4, p5, q0, q1, q2, q3, q4, q5⟩ := hS2.cells
  have lt2 := hS2.lt
  have ec1 := hc1.out
  refine tailDrew 11 mixed_ok (by kernel_rfl) ?_
  simp only [List.take_succ_cons, List.take_zero, List.drop_succ_cons, List.drop_zero]
  repeat (first | still_step)
  (try refine wpStill_nil ?_)
  go_wp2
  have hS3 := (hS2.set2 c1).drew
  have hG3 := keepDrew (keepSet' hG2 2 (.int .u64 c1))
  clear p0 p1 p2 p3 p4 p5 q0 q1 q2 q3 q4 q5 ec1 lt2
  generalize (w2.setCell ⟨g, 2, none⟩ (.int .u64 c1)).drew = w3 at *
  clear hS2 hG2
  obtain ⟨p0, p1, p2, p3, p4, p5, q0, q1, q2, q3, q4, q5⟩ := hS3.cells
  have lt3 := hS3.lt
  have ed1 := hd1.out
  refine tailDrew 13 mixed_ok (by kernel_rfl) ?_
  simp only [List.take_succ_cons, List.take_zero, List.drop_succ_cons, List.drop_zero]
  repeat (first | still_step | still_call (rotS16 _ _))
  (try refine wpStill_nil ?_)
  go_wp2
  have hS4 := (hS3.set3 d1).drew
  have hG4 := keepDrew (keepSet' hG3 3 (.int .u64 d1))
  clear p0 p1 p2 p3 p4 p5 q0 q1 q2 q3 q4 q5 ed1 lt3
  generalize (w3.setCell ⟨g, 3, none⟩ (.int .u64 d1)).drew = w4 at *
  clear hS3 hG3
  obtain ⟨p0, p1, p2, p3, p4, p5, q0, q1, q2, q3, q4, q5⟩ := hS4.cells
  have lt4 := hS4.lt
  have ea3 := ha3.out
  refine tailDrew 11 mixed_ok (by kernel_rfl) ?_
  simp only [List.take_succ_cons, List.take_zero, List.drop_succ_cons, List.drop_zero]
  repeat (first | still_step)
  (try refine wpStill_nil ?_)
  go_wp2
  have hS5 := (hS4.set0 a3).drew
  have hG5 := keepDrew (keepSet' hG4 0 (.int .u64 a3))
  clear p0 p1 p2 p3 p4 p5 q0 q1 q2 q3 q4 q5 ea3 lt4
  generalize (w4.setCell ⟨g, 0, none⟩ (.int .u64 a3)).drew = w5 at *
  clear hS4 hG4
  obtain ⟨p0, p1, p2, p3, p4, p5, q0, q1, q2, q3, q4, q5⟩ := hS5.cells
  have lt5 := hS5.lt
  have ed2 := hd2.out
  refine tailDrew 13 mixed_ok (by kernel_rfl) ?_
  simp only [List.take_succ_cons, List.take_zero, List.drop_succ_cons, List.drop_zero]
  repeat (first | still_step | still_call (rotS21 _ _))
  (try refine wpStill_nil ?_)
  go_wp2
  have hS6 := (hS5.set3 d2).drew
  have hG6 := keepDrew (keepSet' hG5 3 (.int .u64 d2))
  clear p0 p1 p2 p3 p4 p5 q0 q1 q2 q3 q4 q5 ed2 lt5
  generalize (w5.setCell ⟨g, 3, none⟩ (.int .u64 d2)).drew = w6 at *
  clear hS5 hG5
  obtain ⟨p0, p1, p2, p3, p4, p5, q0, q1, q2, q3, q4, q5⟩ := hS6.cells
  have lt6 := hS6.lt
  have ec2 := hc2.out
  refine tailDrew 11 mixed_ok (by kernel_rfl) ?_
  simp only [List.take_succ_cons, List.take_zero, List.drop_succ_cons, List.drop_zero]
  repeat (first | still_step)
  (try refine wpStill_nil ?_)
  go_wp2
  have hS7 := (hS6.set2 c2).drew
  have hG7 := keepDrew (keepSet' hG6 2 (.int .u64 c2))
  clear p0 p1 p2 p3 p4 p5 q0 q1 q2 q3 q4 q5 ec2 lt6
  generalize (w6.setCell ⟨g, 2, none⟩ (.int .u64 c2)).drew = w7 at *
  clear hS6 hG6
  obtain ⟨p0, p1, p2, p3, p4, p5, q0, q1, q2, q3, q4, q5⟩ := hS7.cells
  have lt7 := hS7.lt
  have eb2 := hb2.out
  refine tailDrew 13 mixed_ok (by kernel_rfl) ?_
  simp only [List.take_succ_cons, List.take_zero, List.drop_succ_cons, List.drop_zero]
  repeat (first | still_step | still_call (rotS17 _ _))
  (try refine wpStill_nil ?_)
  have ec3 := hc3.out
  go_wp2_with (first | (go_at_call 62; refine (rot32 _ _).mono ?_; rintro e w' ⟨rfl, rfl⟩))
  have hS8 := ((hS7.set1 b2).set2 c3).drew
  have hG8 := keepDrew (keepSet' (keepSet' hG7 1 (.int .u64 b2)) 2 (.int .u64 c3))
  clear p0 p1 p2 p3 p4 p5 q0 q1 q2 q3 q4 q5 eb2 ec3 lt7
  generalize ((w7.setCell ⟨g, 1, none⟩ (.int .u64 b2)).setCell ⟨g, 2, none⟩ (.int .u64 c3)).drew = w8 at *
  clear hS7 hG7
  go_end0
  refine ⟨rfl, ?_, hG8⟩
  rw [hR.out]
  exact hS8
set_option maxRecDepth 100000 in
set_option maxHeartbeats 2000000 in
theorem take_any (v : S4) (m : Int) (left : Value) (n : Int) (g : Nat) (w : World) (h : St w g v.a v.b v.c v.d left n) :
    Calls Tryd.prog 46 #[.pointer (some ⟨g, 0, none⟩), .int .u64 m] w fun e w' => e = .returned (.tuple #[]) ∧ St w' g (takeI v m).a (takeI v m).b (takeI v m).c (takeI v m).d left n ∧ w.grownBy w' (some g) := by
  have hT := Lib.hid (show takeI v m = { iterR 2 { v with d := xorI v.d m } with a := xorI (iterR 2 { v with d := xorI v.d m }).a m } from rfl)
  have hS1 : St (w.setCell ⟨g, 3, none⟩ (.int .u64 (bits .xor .u64 v.d m))) g v.a v.b v.c (xorI v.d m) left n := h.set3 _
  have hG1 : w.grownBy (w.setCell ⟨g, 3, none⟩ (.int .u64 (bits .xor .u64 v.d m))) (some g) := keepSet' ⟨rfl, rfl, rfl, Nat.le_refl _, fun k _ _ => rfl⟩ _ _
  obtain ⟨p0, p1, p2, p3, p4, p5, q0, q1, q2, q3, q4, q5⟩ := h.cells
  have lt0 := h.lt
  go_enter Tryd.func46, Tryd.ntmps46
  go_wp2
  generalize w.setCell ⟨g, 3, none⟩ (.int .u64 (bits .xor .u64 v.d m)) = w1 at *
  clear p0 p1 p2 p3 p4 p5 q0 q1 q2 q3 q4 q5
  go_loopw [12] (fun i wr => ∃ (k : Nat) (u : S4), k ≤ 2 ∧ i = .int .i64 k ∧ Hid (u = iterR k { v with d := xorI v.d m }) ∧ St wr g u.a u.b u.c u.d left n ∧ w.grownBy wr (some g)) (fun i _ => 2 - (intOf i).toNat)
  case atStart => exact ⟨0, { v with d := xorI v.d m }, by omega, rfl, Lib.hid rfl, hS1, hG1⟩
  case round =>
    obtain ⟨k, u, hk, rfl, hu, hS, hG⟩ := hrel
    by_cases h2 : k < 2
    · have d1 := round_any u left n g wr hS
      have hu2 := Lib.hid (show roundI u = iterR (k + 1) { v with d := xorI v.d m } by rw [iterR_succ, ← hu.out])
      generalize roundI u = u2 at *
      go_wp2_with (go_at_call 47; refine d1.mono ?_; rintro e w2 ⟨rfl, hS2, hG2⟩)
      go_roundw
      case rel => exact ⟨k + 1, u2, by omega, by go_num, hu2, hS2, hG.trans hG2⟩
      case measure => first | (simp [intOf]; done) | (simp [intOf]; omega)
    · have hk2 : k = 2 := by omega
      subst hk2
      obtain ⟨p0, p1, p2, p3, p4, p5, q0, q1, q2, q3, q4, q5⟩ := hS.cells
      have lt1 := hS.lt
      go_wp2
      go_end0
      refine ⟨rfl, ?_, keepSet' hG _ _⟩
      rw [hT.out, ← hu.out]
      exact hS.set0 _
end Go.Proofs.YtiamkhhnnlgemaaDoor.Sip
