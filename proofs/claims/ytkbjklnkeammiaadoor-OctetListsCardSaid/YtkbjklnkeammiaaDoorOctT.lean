import Derived.Test.YtkbjklnkeammiaaDoorOctQ
namespace Go.Proofs.YtkbjklnkeammiaaDoor.Oct
open Go.RowKit
set_option linter.unusedVariables false
theorem join_len (m : Nat) : ∀ l : List (List UInt8), (∀ x ∈ l, x.length ≤ m) → (Lib.join l [44]).length ≤ l.length * (m + 1)
  | [], _ => by simp [Lib.join]
  | [x], h => by have := h x (by simp); simp [Lib.join]; omega
  | x :: y :: r, h => by
    have ih := join_len m (y :: r) (fun z hz => h z (by simp at hz ⊢; exact .inr hz))
    have hx := h x (by simp)
    rw [join_two, List.length_append, List.length_cons]
    simp only [List.length_cons] at ih ⊢
    rw [Nat.add_mul (r.length + 1) 1 (m + 1)]
    omega
theorem few_len (xs : List ByteArray) : (fewS 6 30 xs).length ≤ 6 := by simp [fewS]; omega
theorem few_size (xs : List ByteArray) : ∀ x ∈ fewS 6 30 xs, x.size ≤ 30 := by
  intro x hx
  simp only [fewS, List.mem_map] at hx
  obtain ⟨y, _, rfl⟩ := hx
  exact cutS_size 30 y
theorem few_join (xs : List ByteArray) : (Lib.join ((fewS 6 30 xs).map (·.data.toList)) [44]).length ≤ 186 := by
  have h := join_len 30 ((fewS 6 30 xs).map (·.data.toList)) (fun x hx => by
    simp only [List.mem_map] at hx
    obtain ⟨y, hy, rfl⟩ := hx
    have := few_size xs y hy
    rw [len_sz]; exact this)
  have h2 := few_len xs
  simp only [List.length_map] at h
  omega
theorem few_list (xs : List ByteArray) : (listS (fewS 6 30 xs)).length ≤ 187 := by
  have h1 := few_join xs
  have h2 := keepL_len (parts (Lib.join ((fewS 6 30 xs).map (·.data.toList)) [44]))
  have h3 := (parts_len (Lib.join ((fewS 6 30 xs).map (·.data.toList)) [44])).1
  simp only [listS, List.length_map, listL]
  omega
set_option maxRecDepth 100000 in
set_option maxHeartbeats 2000000 in
theorem lists_any (xs : List ByteArray) (v : Value) (w : World) (hv : Strs w v xs) (hN : xs.length ≤ 140737488355328) (he : Env w) :
    Calls Tryd.prog 4 #[v] w fun e w' => e = .returned (.bool true) ∧ Below w.heap.size w w' := by
  have HE := Lib.hid he
  clear he
  have q1 := few_len xs
  have q2 := few_size xs
  have q3 := few_join xs
  have q4 := few_list xs
  go_enter Tryd.func4, Tryd.ntmps4
  go_wp2_with (first
    | (go_at_call 19; with_reducible refine (awake_any _ HE.out).mono ?_; rintro e w1 ⟨rfl, hb1⟩)
    | (go_at_call 20; refine (few_any xs _ _ (hv.below hb1) hN).mono ?_; rintro e w2 ⟨u2, rfl, ho2, hb2⟩; generalize fewS 6 30 xs = ys at *)
    | (go_at_call 22; refine (list_any ys _ _ ho2.strs (by omega) (by omega)).mono ?_; rintro e w3 ⟨u3, rfl, ho3, hb3⟩)
    | (go_at_call 23; refine (refList_any ys _ _ (ho2.strs.below hb3) (by omega) (fun x hx => by have := q2 x hx; omega)).mono ?_; rintro e w4 ⟨u4, rfl, ho4, hb4⟩)
    | (go_at_call 21; refine (same_any _ _ _ _ _ (ho3.strs.below hb4) ho4.strs (by omega)).mono ?_; rintro e w5 ⟨rfl, hb5⟩; rw [decide_eq_true rfl]))
  go_ret
  have b2 := hb1.trans (hb2.mono hb1.size)
  have b3 := b2.trans (hb3.mono b2.size)
  have b4 := b3.trans (hb4.mono b3.size)
  exact ⟨rfl, b4.trans (hb5.mono b4.size)⟩
end Go.Proofs.YtkbjklnkeammiaaDoor.Oct
