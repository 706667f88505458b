import Derived.Test.YtkbjklnkeammiaaDoorOctS
import Derived.Maps.AppendAt
import Derived.OwnWalk
namespace Go.Proofs.YtkbjklnkeammiaaDoor.Oct
open Go.RowKit
set_option linter.unusedVariables false

theorem tl_len (p : UInt8 → Bool) (l : List UInt8) : (tl p l).length ≤ l.length := by
  have := (List.dropWhile_sublist (l := l) p).length_le; exact this
theorem tr_len (p : UInt8 → Bool) (l : List UInt8) : (tr p l).length ≤ l.length := by
  have := (List.dropWhile_sublist (l := l.reverse) p).length_le
  simpa [tr] using this
theorem trim_fix (s : ByteArray) (h : 0 < s.size) : decide (trimS s = s) = (!blankB (s[0].toNat : Int) && !blankB (s[s.size - 1].toNat : Int)) := by
  have hL : trimS s = s ↔ tr isBl (tl isBl s.data.toList) = s.data.toList := by
    constructor
    · intro e
      have := congrArg (·.data.toList) e
      rw [← trimL_eq]; exact this
    · intro e
      apply Go.WideShapes.bytes_inj
      show trimL s.data.toList = _
      rw [trimL_eq]; exact e
  rw [Bool.eq_iff_iff, decide_eq_true_iff, hL, ← isBl_eq, ← isBl_eq]
  have hc := data_cons s h
  have hs := data_snoc s h
  cases h1 : isBl s[0]
  · have e1 : tl isBl s.data.toList = s.data.toList := by rw [hc]; simp [tl, List.dropWhile, h1]
    rw [e1]
    cases h2 : isBl s[s.size - 1]
    · simp only [Bool.not_false, Bool.and_self, iff_true]
      rw [hs]; exact tr_stop _ _ _ h2
    · simp only [Bool.not_false, Bool.not_true, Bool.and_false, Bool.false_eq_true, iff_false]
      intro e
      have a := congrArg List.length e
      rw [hs, tr_snoc _ _ _ h2] at a
      have b := tr_len isBl (s.extract 0 (s.size - 1)).data.toList
      simp only [List.length_append, List.length_singleton] at a
      omega
  · simp only [Bool.not_true, Bool.false_and, Bool.false_eq_true, iff_false]
    intro e
    have a := congrArg List.length e
    rw [hc] at a
    have e1 : tl isBl (s[0] :: (s.extract 1 s.size).data.toList) = tl isBl (s.extract 1 s.size).data.toList := by simp [tl, List.dropWhile, h1]
    rw [e1] at a
    have b := tr_len isBl (tl isBl (s.extract 1 s.size).data.toList)
    have c := tl_len isBl (s.extract 1 s.size).data.toList
    simp only [List.length_cons] at a
    omega
theorem trim_nil (s : ByteArray) (h : s.size = 0) : trimS s = s := by
  have hn : s.data.toList = [] := List.eq_nil_of_length_eq_zero (by rw [len_sz]; omega)
  apply Go.WideShapes.bytes_inj
  show trimL s.data.toList = _
  rw [hn]; rfl

set_option maxHeartbeats 1000000 in
theorem refValue_any (s : ByteArray) (hs : s.size ≤ maxLen) (w : World) :
    Calls Tryd.prog 30 #[.string s] w fun e w' => e = .returned (.bool (valueS s)) ∧ w = w' := by
  unfold maxLen at hs
  go_enter Tryd.func30, Tryd.ntmps30
  go_wp2_with fail
  go_loop [3] (fun i => ∃ k : Nat, k ≤ s.size ∧ i = .int .i64 k ∧ Hid ((s.data.toList.take k).all (inC 4) = true)) (fun i => s.size - (intOf i).toNat)
  case atStart => exact ⟨0, Nat.zero_le _, rfl, Lib.hid rfl⟩
  case round =>
    obtain ⟨k, hk, rfl, hall⟩ := hrel
    by_cases hlt : k < s.size
    · have HB := Lib.hid (byte_val s[k])
      cases c0 : ((s[k].toNat : Int) == 9)
      · have c0n : (s[k].toNat : Int) ≠ 9 := by simpa using c0
        have C0 := Lib.hid c0n
        have c0b : ((s[k].toNat : Int) != 9) = true := by simpa using c0n
        clear c0n
        by_cases c1 : (s[k].toNat : Int) < 32
        · have HX := Lib.hid (show inC 4 s[k] = false by have := C0.out; rw [HB.out, decide_eq_false (by omega)])
          go_wp2
          go_ret
          exact ⟨ret_bool (by have h := all_not hlt HX.out; show _ = valueS s; rw [valueS, allC, h]; simp), rfl⟩
        · have c1' : 32 ≤ (s[k].toNat : Int) := by omega
          clear c1
          by_cases c2 : 126 < (s[k].toNat : Int)
          · have HX := Lib.hid (show inC 4 s[k] = false by have := C0.out; rw [HB.out, decide_eq_false (by omega)])
            go_wp2
            go_ret
            exact ⟨ret_bool (by have h := all_not hlt HX.out; show _ = valueS s; rw [valueS, allC, h]; simp), rfl⟩
          · have c2' : (s[k].toNat : Int) ≤ 126 := by omega
            have HX := Lib.hid (show inC 4 s[k] = true by rw [HB.out, decide_eq_true (by omega)])
            clear c2
            go_wp2
            go_round
            case rel => exact ⟨k + 1, by omega, by go_num, all_snoc hlt hall HX.out⟩
            case measure => simp [intOf]; omega
      · have c0n : (s[k].toNat : Int) = 9 := by simpa using c0
        have HX := Lib.hid (show inC 4 s[k] = true by rw [HB.out, decide_eq_true (by omega)])
        have c0b : ((s[k].toNat : Int) != 9) = false := by simpa using c0n
        clear c0n
        go_wp2
        go_round
        case rel => exact ⟨k + 1, by omega, by go_num, all_snoc hlt hall HX.out⟩
        case measure => simp [intOf]; omega
    · have HA := Lib.hid (all_end (by omega) hall)
      by_cases c1 : s.size = 0
      · have he : s.toList.isEmpty = true := by rw [isEmpty_sz, decide_eq_true c1]
        have HT := Lib.hid (show valueS s = true by rw [valueS, allC, HA.out, trim_nil s c1]; simp)
        clear c1
        go_wp2
        go_ret
        exact ⟨ret_bool HT.out.symm, rfl⟩
      · have he : s.toList.isEmpty = false := by rw [isEmpty_sz, decide_eq_false c1]
        have c4 : 0 < s.size := by omega
        have HF := Lib.hid (show valueS s = (!blankB (s[0].toNat : Int) && !blankB (s[s.size - 1].toNat : Int)) by rw [valueS, allC, HA.out, trim_fix s c4]; rfl)
        clear c1
        cases b1 : blankB (s[0].toNat : Int)
        · have HT := Lib.hid (show valueS s = !blankB (s[s.size - 1].toNat : Int) by rw [HF.out, b1]; rfl)
          go_wp2_with (go_at_call 74; refine (blank_any _ _).mono ?_; rintro e w1 ⟨rfl, rfl⟩)
          go_ret
          exact ⟨ret_bool HT.out.symm, rfl⟩
        · have HT := Lib.hid (show valueS s = false by rw [HF.out, b1]; rfl)
          go_wp2_with (go_at_call 74; refine (blank_any _ _).mono ?_; rintro e w1 ⟨rfl, rfl⟩)
          go_ret
          exact ⟨ret_bool HT.out.symm, rfl⟩

end Go.Proofs.YtkbjklnkeammiaaDoor.Oct
