/- The program's sum. -/
import Derived.Test.YtiamkhhnnlgemaaDoorSipI
namespace Go.Proofs.YtiamkhhnnlgemaaDoor.Sip
open Go.RowKit Go.Lib
set_option linter.unusedVariables false
/-- A slice value reads as these texts. -/
def Strs (w : World) (v : Value) (xs : List (List UInt8)) : Prop :=
  ∃ A c, v = .slice A xs.length c ∧ xs.length ≤ c ∧ (0 < xs.length → ∃ b o, A = some ⟨b, o, none⟩ ∧ b < w.heap.size ∧ ∀ j x, xs[j]? = some x → w.cell? ⟨b, o + j, none⟩ = some (.string (mk x)))
theorem flat_len (xs : List (List UInt8)) (hT : ∀ x ∈ xs, x.length ≤ 100000) (k : Nat) : (xs.take k).flatten.length ≤ xs.length * 100000 := by
  induction xs generalizing k with
  | nil => simp
  | cons x r ih =>
    cases k with
    | zero => simp
    | succ k =>
      have h1 := hT x (by simp)
      have h2 := ih (fun y hy => hT y (by simp [hy])) k
      rw [List.take_succ_cons, List.flatten_cons, List.length_append, List.length_cons, Nat.add_mul]
      omega
set_option maxRecDepth 100000 in
set_option maxHeartbeats 4000000 in
theorem sum_any (k0 k1 k2 k3 k4 k5 k6 k7 k8 k9 k10 k11 k12 k13 k14 k15 : UInt8) (xs : List (List UInt8)) (v : Value) (w : World) (hv : Strs w v xs) (hN : xs.length ≤ 1000) (hT : ∀ x ∈ xs, x.length ≤ 100000) :
    Calls Tryd.prog 23 #[.agg #[.int .u8 (k0.toNat : Int), .int .u8 (k1.toNat : Int), .int .u8 (k2.toNat : Int), .int .u8 (k3.toNat : Int), .int .u8 (k4.toNat : Int), .int .u8 (k5.toNat : Int), .int .u8 (k6.toNat : Int), .int .u8 (k7.toNat : Int), .int .u8 (k8.toNat : Int), .int .u8 (k9.toNat : Int), .int .u8 (k10.toNat : Int), .int .u8 (k11.toNat : Int), .int .u8 (k12.toNat : Int), .int .u8 (k13.toNat : Int), .int .u8 (k14.toNat : Int), .int .u8 (k15.toNat : Int)], v] w fun e w' => e = .returned (.int .u64 (sumI [k0, k1, k2, k3, k4, k5, k6, k7, k8, k9, k10, k11, k12, k13, k14, k15] xs.flatten)) ∧ Below w.heap.size w w' := by
  obtain ⟨A, c, rfl, hc, hr⟩ := hv
  have hB0 : BytesAt (w.alloc (.cells #[.int .u8 (k0.toNat : Int), .int .u8 (k1.toNat : Int), .int .u8 (k2.toNat : Int), .int .u8 (k3.toNat : Int), .int .u8 (k4.toNat : Int), .int .u8 (k5.toNat : Int), .int .u8 (k6.toNat : Int), .int .u8 (k7.toNat : Int), .int .u8 (k8.toNat : Int), .int .u8 (k9.toNat : Int), .int .u8 (k10.toNat : Int), .int .u8 (k11.toNat : Int), .int .u8 (k12.toNat : Int), .int .u8 (k13.toNat : Int), .int .u8 (k14.toNat : Int), .int .u8 (k15.toNat : Int)] 26)) w.heap.size [k0, k1, k2, k3, k4, k5, k6, k7, k8, k9, k10, k11, k12, k13, k14, k15] 26 := blkNew _ _
  have hb1 : Below w.heap.size w (w.alloc (.cells #[.int .u8 (k0.toNat : Int), .int .u8 (k1.toNat : Int), .int .u8 (k2.toNat : Int), .int .u8 (k3.toNat : Int), .int .u8 (k4.toNat : Int), .int .u8 (k5.toNat : Int), .int .u8 (k6.toNat : Int), .int .u8 (k7.toNat : Int), .int .u8 (k8.toNat : Int), .int .u8 (k9.toNat : Int), .int .u8 (k10.toNat : Int), .int .u8 (k11.toNat : Int), .int .u8 (k12.toNat : Int), .int .u8 (k13.toNat : Int), .int .u8 (k14.toNat : Int), .int .u8 (k15.toNat : Int)] 26)) := (Below.refl _ _).alloc (Nat.le_refl _) _
  have hs1 : w.heap.size < (w.alloc (.cells #[.int .u8 (k0.toNat : Int), .int .u8 (k1.toNat : Int), .int .u8 (k2.toNat : Int), .int .u8 (k3.toNat : Int), .int .u8 (k4.toNat : Int), .int .u8 (k5.toNat : Int), .int .u8 (k6.toNat : Int), .int .u8 (k7.toNat : Int), .int .u8 (k8.toNat : Int), .int .u8 (k9.toNat : Int), .int .u8 (k10.toNat : Int), .int .u8 (k11.toNat : Int), .int .u8 (k12.toNat : Int), .int .u8 (k13.toNat : Int), .int .u8 (k14.toNat : Int), .int .u8 (k15.toNat : Int)] 26)).heap.size := by simp
  have hx := Lib.hid (show startI [k0, k1, k2, k3, k4, k5, k6, k7, k8, k9, k10, k11, k12, k13, k14, k15] = ⟨xorI (le [k0, k1, k2, k3, k4, k5, k6, k7]) 0x736f6d6570736575, xorI (le [k8, k9, k10, k11, k12, k13, k14, k15]) 0x646f72616e646f6d, xorI (le [k0, k1, k2, k3, k4, k5, k6, k7]) 0x6c7967656e657261, xorI (le [k8, k9, k10, k11, k12, k13, k14, k15]) 0x7465646279746573⟩ from rfl)
  have hE := Lib.hid (show sumI [k0, k1, k2, k3, k4, k5, k6, k7, k8, k9, k10, k11, k12, k13, k14, k15] xs.flatten = endI (blocks (startI [k0, k1, k2, k3, k4, k5, k6, k7, k8, k9, k10, k11, k12, k13, k14, k15]) xs.flatten).1 (blocks (startI [k0, k1, k2, k3, k4, k5, k6, k7, k8, k9, k10, k11, k12, k13, k14, k15]) xs.flatten).2 xs.flatten.length from rfl)
  go_enter Tryd.func23, Tryd.ntmps23
  go_wp2
  generalize w.alloc (.cells #[.int .u8 (k0.toNat : Int), .int .u8 (k1.toNat : Int), .int .u8 (k2.toNat : Int), .int .u8 (k3.toNat : Int), .int .u8 (k4.toNat : Int), .int .u8 (k5.toNat : Int), .int .u8 (k6.toNat : Int), .int .u8 (k7.toNat : Int), .int .u8 (k8.toNat : Int), .int .u8 (k9.toNat : Int), .int .u8 (k10.toNat : Int), .int .u8 (k11.toNat : Int), .int .u8 (k12.toNat : Int), .int .u8 (k13.toNat : Int), .int .u8 (k14.toNat : Int), .int .u8 (k15.toNat : Int)] 26) = w1 at *
  generalize hg0 : w.heap.size = B at *
  have d1 := fun nq => word_any B 0 [k0, k1, k2, k3, k4, k5, k6, k7] 8 16 (Nat.le_refl 8) rfl (w1.drewN nq) (fun j hj => by
    have h := hB0.cell j (by have : j < 8 := hj; show j < 16; omega)
    have : j < 8 := hj
    rw [Nat.zero_add]
    have hc : j = 0 ∨ j = 1 ∨ j = 2 ∨ j = 3 ∨ j = 4 ∨ j = 5 ∨ j = 6 ∨ j = 7 := by omega
    rcases hc with rfl | rfl | rfl | rfl | rfl | rfl | rfl | rfl <;> exact h)
  have d2 := fun nq => word_any B 8 [k8, k9, k10, k11, k12, k13, k14, k15] 8 8 (Nat.le_refl 8) rfl (w1.drewN nq) (fun j hj => by
    have h := hB0.cell (8 + j) (by have : j < 8 := hj; show 8 + j < 16; omega)
    have : j < 8 := hj
    have hc : j = 0 ∨ j = 1 ∨ j = 2 ∨ j = 3 ∨ j = 4 ∨ j = 5 ∨ j = 6 ∨ j = 7 := by omega
    rcases hc with rfl | rfl | rfl | rfl | rfl | rfl | rfl | rfl <;> exact h)
  rw [List.take_of_length_le (Nat.le_refl 8)] at d1 d2
  generalize startI [k0, k1, k2, k3, k4, k5, k6, k7, k8, k9, k10, k11, k12, k13, k14, k15] = v0 at *
  generalize le [k0, k1, k2, k3, k4, k5, k6, k7] = x at *
  generalize le [k8, k9, k10, k11, k12, k13, k14, k15] = y at *
  go_quiet ((go_at_call 31; first | with_reducible exact Calls.quiet_of_same (d1 _) | with_reducible exact Calls.quiet_of_same (d2 _)))
  replace hb1 := drewBelow (n := nq) hb1
  replace hs1 : B < (w1.drewN nq).heap.size := hs1
  clear d1 d2 hB0
  generalize w1.drewN nq = w2 at *
  have hx0 := hx.out
  simp only [xorI] at hx0
  have hS0 : St (w2.alloc (.cells #[.int .u64 (bits .xor .u64 x 0x736f6d6570736575), .int .u64 (bits .xor .u64 y 0x646f72616e646f6d), .int .u64 (bits .xor .u64 x 0x6c7967656e657261), .int .u64 (bits .xor .u64 y 0x7465646279746573), .slice none 0 0, .int .i64 0] 82)) w2.heap.size v0.a v0.b v0.c v0.d (.slice none 0 0) ((0 : Nat) : Int) := by rw [hx0]; exact blkNew _ _
  have hb3 : Below B w (w2.alloc (.cells #[.int .u64 (bits .xor .u64 x 0x736f6d6570736575), .int .u64 (bits .xor .u64 y 0x646f72616e646f6d), .int .u64 (bits .xor .u64 x 0x6c7967656e657261), .int .u64 (bits .xor .u64 y 0x7465646279746573), .slice none 0 0, .int .i64 0] 82)) := hb1.alloc (Nat.le_of_lt hs1) _
  have hgg : B ≤ w2.heap.size := Nat.le_of_lt hs1
  clear hx0
  go_wp2
  generalize w2.alloc (.cells #[.int .u64 (bits .xor .u64 x 0x736f6d6570736575), .int .u64 (bits .xor .u64 y 0x646f72616e646f6d), .int .u64 (bits .xor .u64 x 0x6c7967656e657261), .int .u64 (bits .xor .u64 y 0x7465646279746573), .slice none 0 0, .int .i64 0] 82) = w3 at *
  generalize w2.heap.size = g at *
  clear hb1 hs1
  go_loopw [26] (fun i wr => ∃ (k : Nat) (lv : Value), k ≤ xs.length ∧ i = .int .i64 k ∧ St wr g (blocks v0 (xs.take k).flatten).1.a (blocks v0 (xs.take k).flatten).1.b (blocks v0 (xs.take k).flatten).1.c (blocks v0 (xs.take k).flatten).1.d lv (((xs.take k).flatten.length : Nat) : Int) ∧ OffRow wr (g + 1) lv (blocks v0 (xs.take k).flatten).2 ∧ Below B w wr) (fun i _ => xs.length - (intOf i).toNat)
  case atStart =>
    refine ⟨0, .slice none 0 0, Nat.zero_le _, rfl, ?_, ?_, hb3⟩
    · rw [List.take_zero, List.flatten_nil, blocks_end v0 [] (by simp)]; exact hS0
    · rw [List.take_zero, List.flatten_nil, blocks_end v0 [] (by simp)]; exact .inl ⟨rfl, rfl⟩
  case round =>
    obtain ⟨k, lv, hk, rfl, hSk, hlk, hbk⟩ := hrel
    clear hS0 hb3
    have hfl := flat_len xs hT k
    by_cases hlt : k < xs.length
    · obtain ⟨b, o, rfl, hbl, hcell⟩ := hr (by omega)
      have hc0 := (hbk.cell (p := ⟨b, o + k, none⟩) (by omega)).trans (hcell k xs[k] (by simp [hlt]))
      have hxk : xs[k].length ≤ 100000 := hT _ (by simp)
      have hbf := blocks_lt v0 (xs.take k).flatten
      have d3 := write_any (blocks v0 (xs.take k).flatten).1 lv (blocks v0 (xs.take k).flatten).2 xs[k] (xs.take k).flatten.length g wr hSk hlk hbf (by omega) (by omega)
      rw [← blocks_app] at d3
      have hnx : (xs.take k).flatten ++ xs[k] = (xs.take (k + 1)).flatten := by rw [List.take_succ_eq_append_getElem hlt, List.flatten_append]; simp
      rw [hnx, ← List.length_append, hnx] at d3
      have hltk := hSk.lt
      clear hnx hfl hbf
      generalize (xs.take k).flatten = f0 at *
      generalize hf1 : (xs.take (k + 1)).flatten = f1 at *
      replace hf1 := Lib.hid hf1
      generalize xs[k] = tk at *
      replace d3 := Lib.hid d3
      go_wp2_with (go_at_call 32; refine d3.out.mono ?_; rintro e w5 ⟨rfl, lv5, hS5, hl5, hb5⟩)
      go_roundw
      case rel => exact ⟨k + 1, lv5, by omega, by go_num, by rw [hf1.out]; exact hS5, by rw [hf1.out]; exact hl5, hbk.trans (hb5.mono hgg)⟩
      case measure => first | (simp [intOf]; done) | (simp [intOf]; omega)
    · have hke : k = xs.length := by omega
      subst hke
      rw [List.take_length] at hSk hlk hfl
      have d4 := end_any (blocks v0 xs.flatten).1 lv (blocks v0 xs.flatten).2 xs.flatten.length g wr hSk hlk (blocks_lt _ _) (by omega)
      have hltk := hSk.lt
      generalize endI (blocks v0 xs.flatten).1 (blocks v0 xs.flatten).2 xs.flatten.length = Rv at *
      go_wp2_with (go_at_call 33; refine d4.mono ?_; rintro e w5 ⟨rfl, hb5⟩)
      go_ret
      exact ⟨by rw [hE.out]; rfl, by rw [hg0]; exact hbk.trans (hb5.mono hgg)⟩
end Go.Proofs.YtiamkhhnnlgemaaDoor.Sip
