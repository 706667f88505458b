/- A code's words and whether it has a body: the program's beside the document's. -/
import Derived.Test.YtkbjklnkeammiaaDoorStD
namespace Go.Proofs.YtkbjklnkeammiaaDoor.Oct
open Go.RowKit
set_option linter.unusedVariables false
/-- A code's words. -/
def reasonS (code : Int) : ByteArray := if code = 200 then mk [79, 75] else if code = 400 then mk [66, 97, 100, 32, 82, 101, 113, 117, 101, 115, 116] else if code = 413 then mk [67, 111, 110, 116, 101, 110, 116, 32, 84, 111, 111, 32, 76, 97, 114, 103, 101] else if code = 431 then mk [82, 101, 113, 117, 101, 115, 116, 32, 72, 101, 97, 100, 101, 114, 32, 70, 105, 101, 108, 100, 115, 32, 84, 111, 111, 32, 76, 97, 114, 103, 101] else if code = 502 then mk [66, 97, 100, 32, 71, 97, 116, 101, 119, 97, 121] else if code = 503 then mk [83, 101, 114, 118, 105, 99, 101, 32, 85, 110, 97, 118, 97, 105, 108, 97, 98, 108, 101] else if code = 504 then mk [71, 97, 116, 101, 119, 97, 121, 32, 84, 105, 109, 101, 111, 117, 116] else ⟨#[]⟩
def NotYet (k : Nat) (code : Int) : Prop := ∀ j, j < k → ∀ z, saidL[j]? = some z → code ≠ z.1
theorem NotYet.next {k : Nat} {code c : Int} {l : List UInt8} (h : NotYet k code) (hz : saidL[k]? = some (c, l)) (hc : code ≠ c) : NotYet (k + 1) code := by
  intro j hj z hjz
  by_cases e : j = k
  · subst e
    rw [hz] at hjz
    cases hjz
    exact hc
  · exact h j (by omega) z hjz
theorem NotYet.all {code : Int} (h : NotYet 7 code) : reasonS code = ⟨#[]⟩ := by
  unfold reasonS
  rw [if_neg (h 0 (by decide) _ rfl)]
  rw [if_neg (h 1 (by decide) _ rfl)]
  rw [if_neg (h 2 (by decide) _ rfl)]
  rw [if_neg (h 3 (by decide) _ rfl)]
  rw [if_neg (h 4 (by decide) _ rfl)]
  rw [if_neg (h 5 (by decide) _ rfl)]
  rw [if_neg (h 6 (by decide) _ rfl)]
theorem index0 (W : World) : (Instr.index 100 (.agg #[.int .i64 200, .string (mk [79, 75]), .int .i64 400, .string (mk [66, 97, 100, 32, 82, 101, 113, 117, 101, 115, 116]), .int .i64 413, .string (mk [67, 111, 110, 116, 101, 110, 116, 32, 84, 111, 111, 32, 76, 97, 114, 103, 101]), .int .i64 431, .string (mk [82, 101, 113, 117, 101, 115, 116, 32, 72, 101, 97, 100, 101, 114, 32, 70, 105, 101, 108, 100, 115, 32, 84, 111, 111, 32, 76, 97, 114, 103, 101]), .int .i64 502, .string (mk [66, 97, 100, 32, 71, 97, 116, 101, 119, 97, 121]), .int .i64 503, .string (mk [83, 101, 114, 118, 105, 99, 101, 32, 85, 110, 97, 118, 97, 105, 108, 97, 98, 108, 101]), .int .i64 504, .string (mk [71, 97, 116, 101, 119, 97, 121, 32, 84, 105, 109, 101, 111, 117, 116])]) (.int .i64 0)).run Tryd.prog W = .ok (.agg #[.int .i64 200, .string (mk [79, 75])]) W := by kernel_rfl
theorem index1 (W : World) : (Instr.index 100 (.agg #[.int .i64 200, .string (mk [79, 75]), .int .i64 400, .string (mk [66, 97, 100, 32, 82, 101, 113, 117, 101, 115, 116]), .int .i64 413, .string (mk [67, 111, 110, 116, 101, 110, 116, 32, 84, 111, 111, 32, 76, 97, 114, 103, 101]), .int .i64 431, .string (mk [82, 101, 113, 117, 101, 115, 116, 32, 72, 101, 97, 100, 101, 114, 32, 70, 105, 101, 108, 100, 115, 32, 84, 111, 111, 32, 76, 97, 114, 103, 101]), .int .i64 502, .string (mk [66, 97, 100, 32, 71, 97, 116, 101, 119, 97, 121]), .int .i64 503, .string (mk [83, 101, 114, 118, 105, 99, 101, 32, 85, 110, 97, 118, 97, 105, 108, 97, 98, 108, 101]), .int .i64 504, .string (mk [71, 97, 116, 101, 119, 97, 121, 32, 84, 105, 109, 101, 111, 117, 116])]) (.int .i64 1)).run Tryd.prog W = .ok (.agg #[.int .i64 400, .string (mk [66, 97, 100, 32, 82, 101, 113, 117, 101, 115, 116])]) W := by kernel_rfl
theorem index2 (W : World) : (Instr.index 100 (.agg #[.int .i64 200, .string (mk [79, 75]), .int .i64 400, .string (mk [66, 97, 100, 32, 82, 101, 113, 117, 101, 115, 116]), .int .i64 413, .string (mk [67, 111, 110, 116, 101, 110, 116, 32, 84, 111, 111, 32, 76, 97, 114, 103, 101]), .int .i64 431, .string (mk [82, 101, 113, 117, 101, 115, 116, 32, 72, 101, 97, 100, 101, 114, 32, 70, 105, 101, 108, 100, 115, 32, 84, 111, 111, 32, 76, 97, 114, 103, 101]), .int .i64 502, .string (mk [66, 97, 100, 32, 71, 97, 116, 101, 119, 97, 121]), .int .i64 503, .string (mk [83, 101, 114, 118, 105, 99, 101, 32, 85, 110, 97, 118, 97, 105, 108, 97, 98, 108, 101]), .int .i64 504, .string (mk [71, 97, 116, 101, 119, 97, 121, 32, 84, 105, 109, 101, 111, 117, 116])]) (.int .i64 2)).run Tryd.prog W = .ok (.agg #[.int .i64 413, .string (mk [67, 111, 110, 116, 101, 110, 116, 32, 84, 111, 111, 32, 76, 97, 114, 103, 101])]) W := by kernel_rfl
theorem index3 (W : World) : (Instr.index 100 (.agg #[.int .i64 200, .string (mk [79, 75]), .int .i64 400, .string (mk [66, 97, 100, 32, 82, 101, 113, 117, 101, 115, 116]), .int .i64 413, .string (mk [67, 111, 110, 116, 101, 110, 116, 32, 84, 111, 111, 32, 76, 97, 114, 103, 101]), .int .i64 431, .string (mk [82, 101, 113, 117, 101, 115, 116, 32, 72, 101, 97, 100, 101, 114, 32, 70, 105, 101, 108, 100, 115, 32, 84, 111, 111, 32, 76, 97, 114, 103, 101]), .int .i64 502, .string (mk [66, 97, 100, 32, 71, 97, 116, 101, 119, 97, 121]), .int .i64 503, .string (mk [83, 101, 114, 118, 105, 99, 101, 32, 85, 110, 97, 118, 97, 105, 108, 97, 98, 108, 101]), .int .i64 504, .string (mk [71, 97, 116, 101, 119, 97, 121, 32, 84, 105, 109, 101, 111, 117, 116])]) (.int .i64 3)).run Tryd.prog W = .ok (.agg #[.int .i64 431, .string (mk [82, 101, 113, 117, 101, 115, 116, 32, 72, 101, 97, 100, 101, 114, 32, 70, 105, 101, 108, 100, 115, 32, 84, 111, 111, 32, 76, 97, 114, 103, 101])]) W := by kernel_rfl
theorem index4 (W : World) : (Instr.index 100 (.agg #[.int .i64 200, .string (mk [79, 75]), .int .i64 400, .string (mk [66, 97, 100, 32, 82, 101, 113, 117, 101, 115, 116]), .int .i64 413, .string (mk [67, 111, 110, 116, 101, 110, 116, 32, 84, 111, 111, 32, 76, 97, 114, 103, 101]), .int .i64 431, .string (mk [82, 101, 113, 117, 101, 115, 116, 32, 72, 101, 97, 100, 101, 114, 32, 70, 105, 101, 108, 100, 115, 32, 84, 111, 111, 32, 76, 97, 114, 103, 101]), .int .i64 502, .string (mk [66, 97, 100, 32, 71, 97, 116, 101, 119, 97, 121]), .int .i64 503, .string (mk [83, 101, 114, 118, 105, 99, 101, 32, 85, 110, 97, 118, 97, 105, 108, 97, 98, 108, 101]), .int .i64 504, .string (mk [71, 97, 116, 101, 119, 97, 121, 32, 84, 105, 109, 101, 111, 117, 116])]) (.int .i64 4)).run Tryd.prog W = .ok (.agg #[.int .i64 502, .string (mk [66, 97, 100, 32, 71, 97, 116, 101, 119, 97, 121])]) W := by kernel_rfl
theorem index5 (W : World) : (Instr.index 100 (.agg #[.int .i64 200, .string (mk [79, 75]), .int .i64 400, .string (mk [66, 97, 100, 32, 82, 101, 113, 117, 101, 115, 116]), .int .i64 413, .string (mk [67, 111, 110, 116, 101, 110, 116, 32, 84, 111, 111, 32, 76, 97, 114, 103, 101]), .int .i64 431, .string (mk [82, 101, 113, 117, 101, 115, 116, 32, 72, 101, 97, 100, 101, 114, 32, 70, 105, 101, 108, 100, 115, 32, 84, 111, 111, 32, 76, 97, 114, 103, 101]), .int .i64 502, .string (mk [66, 97, 100, 32, 71, 97, 116, 101, 119, 97, 121]), .int .i64 503, .string (mk [83, 101, 114, 118, 105, 99, 101, 32, 85, 110, 97, 118, 97, 105, 108, 97, 98, 108, 101]), .int .i64 504, .string (mk [71, 97, 116, 101, 119, 97, 121, 32, 84, 105, 109, 101, 111, 117, 116])]) (.int .i64 5)).run Tryd.prog W = .ok (.agg #[.int .i64 503, .string (mk [83, 101, 114, 118, 105, 99, 101, 32, 85, 110, 97, 118, 97, 105, 108, 97, 98, 108, 101])]) W := by kernel_rfl
theorem index6 (W : World) : (Instr.index 100 (.agg #[.int .i64 200, .string (mk [79, 75]), .int .i64 400, .string (mk [66, 97, 100, 32, 82, 101, 113, 117, 101, 115, 116]), .int .i64 413, .string (mk [67, 111, 110, 116, 101, 110, 116, 32, 84, 111, 111, 32, 76, 97, 114, 103, 101]), .int .i64 431, .string (mk [82, 101, 113, 117, 101, 115, 116, 32, 72, 101, 97, 100, 101, 114, 32, 70, 105, 101, 108, 100, 115, 32, 84, 111, 111, 32, 76, 97, 114, 103, 101]), .int .i64 502, .string (mk [66, 97, 100, 32, 71, 97, 116, 101, 119, 97, 121]), .int .i64 503, .string (mk [83, 101, 114, 118, 105, 99, 101, 32, 85, 110, 97, 118, 97, 105, 108, 97, 98, 108, 101]), .int .i64 504, .string (mk [71, 97, 116, 101, 119, 97, 121, 32, 84, 105, 109, 101, 111, 117, 116])]) (.int .i64 6)).run Tryd.prog W = .ok (.agg #[.int .i64 504, .string (mk [71, 97, 116, 101, 119, 97, 121, 32, 84, 105, 109, 101, 111, 117, 116])]) W := by kernel_rfl
set_option maxRecDepth 100000 in
set_option maxHeartbeats 2000000 in
theorem reason_any (code : Int) (w : World) (he : SEnv w) :
    Calls Tryd.prog 47 #[.int .i64 code] w fun e w' => e = .returned (.string (reasonS code)) ∧ Below w.heap.size w w' := by
  obtain ⟨a0, b0⟩ := he.said 0 _ rfl
  obtain ⟨a1, b1⟩ := he.said 1 _ rfl
  obtain ⟨a2, b2⟩ := he.said 2 _ rfl
  obtain ⟨a3, b3⟩ := he.said 3 _ rfl
  obtain ⟨a4, b4⟩ := he.said 4 _ rfl
  obtain ⟨a5, b5⟩ := he.said 5 _ rfl
  obtain ⟨a6, b6⟩ := he.said 6 _ rfl
  simp only [Nat.mul_zero, Nat.zero_add, Nat.reduceMul, Nat.reduceAdd] at a0 a1 a2 a3 a4 a5 a6 b0 b1 b2 b3 b4 b5 b6
  clear he
  have hb0 : Below w.heap.size w w := Below.refl _ _
  go_enter Tryd.func47, Tryd.ntmps47
  go_wp2_with fail
  clear a0 a1 a2 a3 a4 a5 a6 b0 b1 b2 b3 b4 b5 b6
  go_loopw [6] (fun i wr => ∃ k : Nat, k ≤ 7 ∧ i = .int .i64 k ∧ Hid (NotYet k code) ∧ Below w.heap.size w wr) (fun i _ => 7 - (intOf i).toNat)
  case atStart => exact ⟨0, by omega, rfl, Lib.hid (fun j hj => by omega), hb0⟩
  case round =>
    obtain ⟨k, hk, rfl, hn, hb⟩ := hrel
    have hgw := hb.size
    have hcase : k = 0 ∨ k = 1 ∨ k = 2 ∨ k = 3 ∨ k = 4 ∨ k = 5 ∨ k = 6 ∨ k = 7 := by omega
    rcases hcase with rfl | rfl | rfl | rfl | rfl | rfl | rfl | rfl
    · have hix := index0
      by_cases hc : code = 200
      · subst hc
        have HX := Lib.hid (show reasonS 200 = mk [79, 75] by decide)
        go_wp2_with fail
        go_ret
        exact ⟨ret_str HX.out.symm, by (repeat' (first | exact hb | refine Below.alloc ?_ (by first | (simp; done) | (simp; omega) | omega) _ | refine Below.setCell ?_ (by first | (simp; done) | (simp; omega) | omega) _ | refine below_drewN ?_))⟩
      · have HN := Lib.hid (hn.out.next (k := 0) rfl hc)
        go_wp2_with fail
        go_roundw
        case rel => exact ⟨1, by omega, by go_num, HN, by (repeat' (first | exact hb | refine Below.alloc ?_ (by first | (simp; done) | (simp; omega) | omega) _ | refine Below.setCell ?_ (by first | (simp; done) | (simp; omega) | omega) _ | refine below_drewN ?_))⟩
        case measure => simp [intOf]
    · have hix := index1
      by_cases hc : code = 400
      · subst hc
        have HX := Lib.hid (show reasonS 400 = mk [66, 97, 100, 32, 82, 101, 113, 117, 101, 115, 116] by decide)
        go_wp2_with fail
        go_ret
        exact ⟨ret_str HX.out.symm, by (repeat' (first | exact hb | refine Below.alloc ?_ (by first | (simp; done) | (simp; omega) | omega) _ | refine Below.setCell ?_ (by first | (simp; done) | (simp; omega) | omega) _ | refine below_drewN ?_))⟩
      · have HN := Lib.hid (hn.out.next (k := 1) rfl hc)
        go_wp2_with fail
        go_roundw
        case rel => exact ⟨2, by omega, by go_num, HN, by (repeat' (first | exact hb | refine Below.alloc ?_ (by first | (simp; done) | (simp; omega) | omega) _ | refine Below.setCell ?_ (by first | (simp; done) | (simp; omega) | omega) _ | refine below_drewN ?_))⟩
        case measure => simp [intOf]
    · have hix := index2
      by_cases hc : code = 413
      · subst hc
        have HX := Lib.hid (show reasonS 413 = mk [67, 111, 110, 116, 101, 110, 116, 32, 84, 111, 111, 32, 76, 97, 114, 103, 101] by decide)
        go_wp2_with fail
        go_ret
        exact ⟨ret_str HX.out.symm, by (repeat' (first | exact hb | refine Below.alloc ?_ (by first | (simp; done) | (simp; omega) | omega) _ | refine Below.setCell ?_ (by first | (simp; done) | (simp; omega) | omega) _ | refine below_drewN ?_))⟩
      · have HN := Lib.hid (hn.out.next (k := 2) rfl hc)
        go_wp2_with fail
        go_roundw
        case rel => exact ⟨3, by omega, by go_num, HN, by (repeat' (first | exact hb | refine Below.alloc ?_ (by first | (simp; done) | (simp; omega) | omega) _ | refine Below.setCell ?_ (by first | (simp; done) | (simp; omega) | omega) _ | refine below_drewN ?_))⟩
        case measure => simp [intOf]
    · have hix := index3
      by_cases hc : code = 431
      · subst hc
        have HX := Lib.hid (show reasonS 431 = mk [82, 101, 113, 117, 101, 115, 116, 32, 72, 101, 97, 100, 101, 114, 32, 70, 105, 101, 108, 100, 115, 32, 84, 111, 111, 32, 76, 97, 114, 103, 101] by decide)
        go_wp2_with fail
        go_ret
        exact ⟨ret_str HX.out.symm, by (repeat' (first | exact hb | refine Below.alloc ?_ (by first | (simp; done) | (simp; omega) | omega) _ | refine Below.setCell ?_ (by first | (simp; done) | (simp; omega) | omega) _ | refine below_drewN ?_))⟩
      · have HN := Lib.hid (hn.out.next (k := 3) rfl hc)
        go_wp2_with fail
        go_roundw
        case rel => exact ⟨4, by omega, by go_num, HN, by (repeat' (first | exact hb | refine Below.alloc ?_ (by first | (simp; done) | (simp; omega) | omega) _ | refine Below.setCell ?_ (by first | (simp; done) | (simp; omega) | omega) _ | refine below_drewN ?_))⟩
        case measure => simp [intOf]
    · have hix := index4
      by_cases hc : code = 502
      · subst hc
        have HX := Lib.hid (show reasonS 502 = mk [66, 97, 100, 32, 71, 97, 116, 101, 119, 97, 121] by decide)
        go_wp2_with fail
        go_ret
        exact ⟨ret_str HX.out.symm, by (repeat' (first | exact hb | refine Below.alloc ?_ (by first | (simp; done) | (simp; omega) | omega) _ | refine Below.setCell ?_ (by first | (simp; done) | (simp; omega) | omega) _ | refine below_drewN ?_))⟩
      · have HN := Lib.hid (hn.out.next (k := 4) rfl hc)
        go_wp2_with fail
        go_roundw
        case rel => exact ⟨5, by omega, by go_num, HN, by (repeat' (first | exact hb | refine Below.alloc ?_ (by first | (simp; done) | (simp; omega) | omega) _ | refine Below.setCell ?_ (by first | (simp; done) | (simp; omega) | omega) _ | refine below_drewN ?_))⟩
        case measure => simp [intOf]
    · have hix := index5
      by_cases hc : code = 503
      · subst hc
        have HX := Lib.hid (show reasonS 503 = mk [83, 101, 114, 118, 105, 99, 101, 32, 85, 110, 97, 118, 97, 105, 108, 97, 98, 108, 101] by decide)
        go_wp2_with fail
        go_ret
        exact ⟨ret_str HX.out.symm, by (repeat' (first | exact hb | refine Below.alloc ?_ (by first | (simp; done) | (simp; omega) | omega) _ | refine Below.setCell ?_ (by first | (simp; done) | (simp; omega) | omega) _ | refine below_drewN ?_))⟩
      · have HN := Lib.hid (hn.out.next (k := 5) rfl hc)
        go_wp2_with fail
        go_roundw
        case rel => exact ⟨6, by omega, by go_num, HN, by (repeat' (first | exact hb | refine Below.alloc ?_ (by first | (simp; done) | (simp; omega) | omega) _ | refine Below.setCell ?_ (by first | (simp; done) | (simp; omega) | omega) _ | refine below_drewN ?_))⟩
        case measure => simp [intOf]
    · have hix := index6
      by_cases hc : code = 504
      · subst hc
        have HX := Lib.hid (show reasonS 504 = mk [71, 97, 116, 101, 119, 97, 121, 32, 84, 105, 109, 101, 111, 117, 116] by decide)
        go_wp2_with fail
        go_ret
        exact ⟨ret_str HX.out.symm, by (repeat' (first | exact hb | refine Below.alloc ?_ (by first | (simp; done) | (simp; omega) | omega) _ | refine Below.setCell ?_ (by first | (simp; done) | (simp; omega) | omega) _ | refine below_drewN ?_))⟩
      · have HN := Lib.hid (hn.out.next (k := 6) rfl hc)
        go_wp2_with fail
        go_roundw
        case rel => exact ⟨7, by omega, by go_num, HN, by (repeat' (first | exact hb | refine Below.alloc ?_ (by first | (simp; done) | (simp; omega) | omega) _ | refine Below.setCell ?_ (by first | (simp; done) | (simp; omega) | omega) _ | refine below_drewN ?_))⟩
        case measure => simp [intOf]
    · have HX := Lib.hid hn.out.all
      go_wp2_with fail
      go_ret
      exact ⟨ret_str HX.out.symm, hb⟩
set_option maxRecDepth 100000 in
theorem refReason_any (code : Int) (w : World) :
    Calls Tryd.prog 48 #[.int .i64 code] w fun e w' => e = .returned (.string (reasonS code)) ∧ w = w' := by
  by_cases h0 : code = 200
  · subst h0
    go_enter Tryd.func48, Tryd.ntmps48
    go_wp2_with fail
    go_ret
    exact ⟨ret_str (by decide), rfl⟩
  by_cases h1 : code = 400
  · subst h1
    go_enter Tryd.func48, Tryd.ntmps48
    go_wp2_with fail
    go_ret
    exact ⟨ret_str (by decide), rfl⟩
  by_cases h2 : code = 413
  · subst h2
    go_enter Tryd.func48, Tryd.ntmps48
    go_wp2_with fail
    go_ret
    exact ⟨ret_str (by decide), rfl⟩
  by_cases h3 : code = 431
  · subst h3
    go_enter Tryd.func48, Tryd.ntmps48
    go_wp2_with fail
    go_ret
    exact ⟨ret_str (by decide), rfl⟩
  by_cases h4 : code = 502
  · subst h4
    go_enter Tryd.func48, Tryd.ntmps48
    go_wp2_with fail
    go_ret
    exact ⟨ret_str (by decide), rfl⟩
  by_cases h5 : code = 503
  · subst h5
    go_enter Tryd.func48, Tryd.ntmps48
    go_wp2_with fail
    go_ret
    exact ⟨ret_str (by decide), rfl⟩
  by_cases h6 : code = 504
  · subst h6
    go_enter Tryd.func48, Tryd.ntmps48
    go_wp2_with fail
    go_ret
    exact ⟨ret_str (by decide), rfl⟩
  have HX := Lib.hid (show reasonS code = ⟨#[]⟩ by unfold reasonS; rw [if_neg h0, if_neg h1, if_neg h2, if_neg h3, if_neg h4, if_neg h5, if_neg h6])
  go_enter Tryd.func48, Tryd.ntmps48
  go_wp2_with fail
  go_ret
  exact ⟨ret_str HX.out.symm, rfl⟩
def bodiedB (m : ByteArray) (code : Int) : Bool := !(decide (m = ⟨#[72, 69, 65, 68]⟩) || decide (code = 204) || decide (code = 304))
theorem head_eq (m : ByteArray) : (m.toList == [72, 69, 65, 68]) = decide (m = ⟨#[72, 69, 65, 68]⟩) := by
  rw [← str_eq]; rw [show (⟨#[72, 69, 65, 68]⟩ : ByteArray).toList = [72, 69, 65, 68] from Lib.toList_data _]
theorem bodied_any (m : ByteArray) (code : Int) (w : World) :
    Calls Tryd.prog 49 #[.string m, .int .i64 code] w fun e w' => e = .returned (.bool (bodiedB m code)) ∧ w = w' := by
  have hm := head_eq m
  have HB := Lib.hid (show bodiedB m code = !(decide (m = ⟨#[72, 69, 65, 68]⟩) || decide (code = 204) || decide (code = 304)) from rfl)
  generalize decide (m = ⟨#[72, 69, 65, 68]⟩) = d at *
  cases d
  · by_cases h1 : code = 204
    · subst h1
      go_enter Tryd.func49, Tryd.ntmps49
      go_wp2_with fail
      go_ret
      exact ⟨ret_bool HB.out.symm, rfl⟩
    · by_cases h2 : code = 304
      · subst h2
        go_enter Tryd.func49, Tryd.ntmps49
        go_wp2_with fail
        go_ret
        exact ⟨ret_bool HB.out.symm, rfl⟩
      · rw [decide_eq_false h1, decide_eq_false h2] at HB
        go_enter Tryd.func49, Tryd.ntmps49
        go_wp2_with fail
        go_ret
        exact ⟨ret_bool (by rw [HB.out]; simp [h1, h2]), rfl⟩
  · go_enter Tryd.func49, Tryd.ntmps49
    go_wp2_with fail
    go_ret
    exact ⟨ret_bool HB.out.symm, rfl⟩
theorem refBodied_any (m : ByteArray) (code : Int) (w : World) :
    Calls Tryd.prog 50 #[.string m, .int .i64 code] w fun e w' => e = .returned (.bool (bodiedB m code)) ∧ w = w' := by
  have hm := head_eq m
  have HB := Lib.hid (show bodiedB m code = !(decide (m = ⟨#[72, 69, 65, 68]⟩) || decide (code = 204) || decide (code = 304)) from rfl)
  generalize decide (m = ⟨#[72, 69, 65, 68]⟩) = d at *
  cases d
  · by_cases h1 : code = 204
    · subst h1
      go_enter Tryd.func50, Tryd.ntmps50
      go_wp2_with fail
      go_ret
      exact ⟨ret_bool HB.out.symm, rfl⟩
    · by_cases h2 : code = 304
      · subst h2
        go_enter Tryd.func50, Tryd.ntmps50
        go_wp2_with fail
        go_ret
        exact ⟨ret_bool HB.out.symm, rfl⟩
      · rw [decide_eq_false h1, decide_eq_false h2] at HB
        go_enter Tryd.func50, Tryd.ntmps50
        go_wp2_with fail
        go_ret
        exact ⟨ret_bool (by rw [HB.out]; simp [h1, h2]), rfl⟩
  · go_enter Tryd.func50, Tryd.ntmps50
    go_wp2_with fail
    go_ret
    exact ⟨ret_bool HB.out.symm, rfl⟩
end Go.Proofs.YtkbjklnkeammiaaDoor.Oct
