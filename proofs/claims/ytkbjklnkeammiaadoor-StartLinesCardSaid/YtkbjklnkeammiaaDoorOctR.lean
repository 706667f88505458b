import Derived.Test.YtkbjklnkeammiaaDoorOctB
namespace Go.Proofs.YtkbjklnkeammiaaDoor.Oct
open Go.RowKit
set_option linter.unusedVariables false

/-! ### stewardref05, byte by byte -/
def letterB (b : Int) : Bool := decide ((65 ≤ b ∧ b ≤ 90) ∨ (97 ≤ b ∧ b ≤ 122))
def digitB (b : Int) : Bool := decide (48 ≤ b ∧ b ≤ 57)
def blankB (b : Int) : Bool := decide (b = 32 ∨ b = 9)

set_option maxHeartbeats 400000 in
theorem letter_any (b : Int) (w : World) :
    Calls Tryd.prog 70 #[.int .u8 b] w fun e w' => e = .returned (.bool (letterB b)) ∧ w = w' := by
  go_enter Tryd.func70, Tryd.ntmps70
  go_wp2
  all_goals go_ret
  all_goals refine ⟨ret_bool ?_, rfl⟩
  all_goals (show _ = letterB b; unfold letterB; first | (rw [Bool.eq_iff_iff]; simp; omega) | (rw [eq_comm]; simp; omega))
set_option maxHeartbeats 400000 in
theorem digit_any (b : Int) (w : World) :
    Calls Tryd.prog 71 #[.int .u8 b] w fun e w' => e = .returned (.bool (digitB b)) ∧ w = w' := by
  go_enter Tryd.func71, Tryd.ntmps71
  go_wp2
  all_goals go_ret
  all_goals refine ⟨ret_bool ?_, rfl⟩
  all_goals (show _ = digitB b; unfold digitB; first | (rw [Bool.eq_iff_iff]; simp; omega) | (rw [eq_comm]; simp; omega))
set_option maxHeartbeats 400000 in
theorem blank_any (b : Int) (w : World) :
    Calls Tryd.prog 74 #[.int .u8 b] w fun e w' => e = .returned (.bool (blankB b)) ∧ w = w' := by
  go_enter Tryd.func74, Tryd.ntmps74
  go_wp2
  all_goals go_ret
  all_goals refine ⟨ret_bool ?_, rfl⟩
  all_goals (show _ = blankB b; unfold blankB; rw [Bool.eq_iff_iff]; simp; try omega)

/-- Does a byte stand there? -/
def anyB (l : List UInt8) (b : Int) : Bool := l.any (fun x => decide ((x.toNat : Int) = b))
theorem any_snoc {s : ByteArray} {b : Int} {k : Nat} (hk : k < s.size) (h : Hid (anyB (s.data.toList.take k) b = false)) (hp : (s[k].toNat : Int) ≠ b) : Hid (anyB (s.data.toList.take (k + 1)) b = false) := by
  have h' := h.out
  have : anyB (s.data.toList.take (k + 1)) b = false := by
    unfold anyB at h' ⊢
    rw [take_snoc s k hk, List.any_append, h']; simp [hp]
  exact this
theorem any_hit {s : ByteArray} {b : Int} {k : Nat} (hk : k < s.size) (hp : (s[k].toNat : Int) = b) : anyB s.data.toList b = true := by
  unfold anyB
  rw [List.any_eq_true]
  exact ⟨s[k], by rw [show s[k] = s.data.toList[k]'(by simpa using hk) from rfl]; exact List.getElem_mem _, by simp [hp]⟩
theorem any_end {s : ByteArray} {b : Int} {k : Nat} (hk : s.size ≤ k) (h : Hid (anyB (s.data.toList.take k) b = false)) : anyB s.data.toList b = false := by
  have h' := h.out
  rwa [List.take_of_length_le (by simpa using hk)] at h'

set_option maxHeartbeats 400000 in
theorem in_any (s : ByteArray) (b : Int) (hs : s.size ≤ maxLen) (w : World) :
    Calls Tryd.prog 72 #[.string s, .int .u8 b] w fun e w' => e = .returned (.bool (anyB s.data.toList b)) ∧ w = w' := by
  unfold maxLen at hs
  go_enter Tryd.func72, Tryd.ntmps72
  go_wp2_with fail
  go_loop [5] (fun i => ∃ k : Nat, k ≤ s.size ∧ i = .int .i64 k ∧ Hid (anyB (s.data.toList.take k) b = false)) (fun i => s.size - (intOf i).toNat)
  case atStart => exact ⟨0, Nat.zero_le _, rfl, Lib.hid rfl⟩
  case round =>
    obtain ⟨k, hk, rfl, hall⟩ := hrel
    by_cases hlt : k < s.size
    · have hb : (s[k].toNat : Int) < 256 := by have := s[k].toNat_lt; omega
      by_cases hg : (s[k].toNat : Int) = b
      · have hg2 : ((s[k].toNat : Int) == b) = true := by simpa using hg
        have HG := Lib.hid hg
        clear hg
        go_wp2
        go_ret
        exact ⟨ret_bool (any_hit hlt HG.out).symm, rfl⟩
      · have hg2 : ((s[k].toNat : Int) == b) = false := by simpa using hg
        have HG := Lib.hid hg
        clear hg
        go_wp2
        go_round
        case rel => exact ⟨k + 1, by omega, by go_num, any_snoc hlt hall HG.out⟩
        case measure => simp [intOf]; omega
    · go_wp2
      go_ret
      exact ⟨ret_bool (any_end (by omega) hall).symm, rfl⟩

theorem byte_fin : ∀ x : Fin 256, inC 1 (UInt8.ofNat x.val) = (letterB x.val || digitB x.val || anyB [33, 35, 36, 37, 38, 39, 42, 43, 45, 46, 94, 95, 96, 124, 126] x.val) ∧ inC 2 (UInt8.ofNat x.val) = decide (33 ≤ x.val ∧ x.val ≤ 126) ∧ inC 4 (UInt8.ofNat x.val) = decide (x.val = 9 ∨ (32 ≤ x.val ∧ x.val ≤ 126)) := by decide +kernel
theorem byte_tok (x : UInt8) : inC 1 x = (letterB (x.toNat : Int) || digitB (x.toNat : Int) || anyB [33, 35, 36, 37, 38, 39, 42, 43, 45, 46, 94, 95, 96, 124, 126] (x.toNat : Int)) := by
  have := (byte_fin ⟨x.toNat, x.toNat_lt⟩).1; simpa only [UInt8.ofNat_toNat] using this
theorem byte_tar (x : UInt8) : inC 2 x = decide (33 ≤ x.toNat ∧ x.toNat ≤ 126) := by
  have := (byte_fin ⟨x.toNat, x.toNat_lt⟩).2.1; simpa only [UInt8.ofNat_toNat] using this
theorem byte_val (x : UInt8) : inC 4 x = decide (x.toNat = 9 ∨ (32 ≤ x.toNat ∧ x.toNat ≤ 126)) := by
  have := (byte_fin ⟨x.toNat, x.toNat_lt⟩).2.2; simpa only [UInt8.ofNat_toNat] using this

theorem head_at (s : ByteArray) (h : 0 < s.size) : decide (s.data.toList.head? = some 47) = ((s[0].toNat : Int) == 47) := by
  have h1 : s.data.toList.head? = some s[0] := by
    rw [List.head?_eq_getElem?, List.getElem?_eq_getElem (by simpa using h)]; rfl
  rw [h1, Bool.eq_iff_iff, decide_eq_true_iff, beq_iff_eq, Option.some.injEq]
  constructor
  · intro h2; rw [h2]; rfl
  · intro h2; apply UInt8.toNat_inj.1; simp; omega
theorem head_no (s : ByteArray) (h : s.size = 0) : decide (s.data.toList.head? = some 47) = false := by
  have : s.data.toList = [] := List.eq_nil_of_length_eq_zero (by simpa using h)
  rw [this]; rfl

set_option maxHeartbeats 1000000 in
theorem refToken_any (s : ByteArray) (hs : s.size ≤ maxLen) (w : World) :
    Calls Tryd.prog 26 #[.string s] w fun e w' => e = .returned (.bool (tokenS s)) ∧ w = w' := by
  unfold maxLen at hs
  go_enter Tryd.func26, Tryd.ntmps26
  go_wp2_with fail
  go_loop [3] (fun i => ∃ k : Nat, k ≤ s.size ∧ i = .int .i64 k ∧ Hid ((s.data.toList.take k).all (inC 1) = true)) (fun i => s.size - (intOf i).toNat)
  case atStart => exact ⟨0, Nat.zero_le _, rfl, Lib.hid rfl⟩
  case round =>
    obtain ⟨k, hk, rfl, hall⟩ := hrel
    by_cases hlt : k < s.size
    · have hb : (s[k].toNat : Int) < 256 := by have := s[k].toNat_lt; omega
      have HB := Lib.hid (byte_tok s[k])
      cases hL : letterB (s[k].toNat : Int)
      · cases hD : digitB (s[k].toNat : Int)
        · cases hS : anyB [33, 35, 36, 37, 38, 39, 42, 43, 45, 46, 94, 95, 96, 124, 126] (s[k].toNat : Int)
          · have HX := Lib.hid (show inC 1 s[k] = false by rw [HB.out, hL, hD, hS]; rfl)
            go_wp2_with (first | (go_at_call 70; refine (letter_any _ _).mono ?_; rintro e w1 ⟨rfl, rfl⟩) | (go_at_call 71; refine (digit_any _ _).mono ?_; rintro e w1 ⟨rfl, rfl⟩) | (go_at_call 72; refine (in_any _ _ (by decide) _).mono ?_; rintro e w1 ⟨rfl, rfl⟩) | (go_at_call 74; refine (blank_any _ _).mono ?_; rintro e w1 ⟨rfl, rfl⟩))
            go_ret
            exact ⟨ret_bool (by have h := all_not hlt HX.out; show _ = tokenS s; rw [tokenS, allC, h]; simp), rfl⟩
          · have HX := Lib.hid (show inC 1 s[k] = true by rw [HB.out, hL, hD, hS]; rfl)
            go_wp2_with (first | (go_at_call 70; refine (letter_any _ _).mono ?_; rintro e w1 ⟨rfl, rfl⟩) | (go_at_call 71; refine (digit_any _ _).mono ?_; rintro e w1 ⟨rfl, rfl⟩) | (go_at_call 72; refine (in_any _ _ (by decide) _).mono ?_; rintro e w1 ⟨rfl, rfl⟩) | (go_at_call 74; refine (blank_any _ _).mono ?_; rintro e w1 ⟨rfl, rfl⟩))
            go_round
            case rel => exact ⟨k + 1, by omega, by go_num, all_snoc hlt hall HX.out⟩
            case measure => simp [intOf]; omega
        · have HX := Lib.hid (show inC 1 s[k] = true by rw [HB.out, hL, hD]; rfl)
          go_wp2_with (first | (go_at_call 70; refine (letter_any _ _).mono ?_; rintro e w1 ⟨rfl, rfl⟩) | (go_at_call 71; refine (digit_any _ _).mono ?_; rintro e w1 ⟨rfl, rfl⟩) | (go_at_call 72; refine (in_any _ _ (by decide) _).mono ?_; rintro e w1 ⟨rfl, rfl⟩) | (go_at_call 74; refine (blank_any _ _).mono ?_; rintro e w1 ⟨rfl, rfl⟩))
          go_round
          case rel => exact ⟨k + 1, by omega, by go_num, all_snoc hlt hall HX.out⟩
          case measure => simp [intOf]; omega
      · have HX := Lib.hid (show inC 1 s[k] = true by rw [HB.out, hL]; rfl)
        go_wp2_with (first | (go_at_call 70; refine (letter_any _ _).mono ?_; rintro e w1 ⟨rfl, rfl⟩) | (go_at_call 71; refine (digit_any _ _).mono ?_; rintro e w1 ⟨rfl, rfl⟩) | (go_at_call 72; refine (in_any _ _ (by decide) _).mono ?_; rintro e w1 ⟨rfl, rfl⟩) | (go_at_call 74; refine (blank_any _ _).mono ?_; rintro e w1 ⟨rfl, rfl⟩))
        go_round
        case rel => exact ⟨k + 1, by omega, by go_num, all_snoc hlt hall HX.out⟩
        case measure => simp [intOf]; omega
    · have HA := Lib.hid (all_end (by omega) hall)
      by_cases c1 : 1 ≤ s.size
      · by_cases c2 : s.size ≤ 64
        · have HT := Lib.hid (show tokenS s = true by rw [tokenS, allC, HA.out, decide_eq_true c1, decide_eq_true c2]; rfl)
          go_wp2
          go_ret
          exact ⟨ret_bool (by rw [HT.out]; first | rfl | exact decide_eq_true (by omega) | exact decide_eq_false (by omega)), rfl⟩
        · have HT := Lib.hid (show tokenS s = false by rw [tokenS, decide_eq_false c2]; simp)
          have c3 : 64 < s.size := by omega
          clear c2
          go_wp2
          go_ret
          exact ⟨ret_bool (by rw [HT.out]; first | rfl | exact decide_eq_true (by omega) | exact decide_eq_false (by omega)), rfl⟩
      · have HT := Lib.hid (show tokenS s = false by rw [tokenS, decide_eq_false c1]; simp)
        have c3 : s.size < 1 := by omega
        clear c1
        go_wp2
        go_ret
        exact ⟨ret_bool HT.out.symm, rfl⟩

set_option maxHeartbeats 1000000 in
theorem refTarget_any (s : ByteArray) (hs : s.size ≤ maxLen) (w : World) :
    Calls Tryd.prog 28 #[.string s] w fun e w' => e = .returned (.bool (targetS s)) ∧ w = w' := by
  unfold maxLen at hs
  go_enter Tryd.func28, Tryd.ntmps28
  go_wp2_with fail
  go_loop [3] (fun i => ∃ k : Nat, k ≤ s.size ∧ i = .int .i64 k ∧ Hid ((s.data.toList.take k).all (inC 2) = true)) (fun i => s.size - (intOf i).toNat)
  case atStart => exact ⟨0, Nat.zero_le _, rfl, Lib.hid rfl⟩
  case round =>
    obtain ⟨k, hk, rfl, hall⟩ := hrel
    by_cases hlt : k < s.size
    · have HB := Lib.hid (byte_tar s[k])
      by_cases c1 : (s[k].toNat : Int) < 33
      · have HX := Lib.hid (show inC 2 s[k] = false by rw [HB.out, decide_eq_false (by omega)])
        go_wp2
        go_ret
        exact ⟨ret_bool (by have h := all_not hlt HX.out; show _ = targetS s; rw [targetS, allC, h]; simp), rfl⟩
      · have c1' : 33 ≤ (s[k].toNat : Int) := by omega
        clear c1
        by_cases c2 : 126 < (s[k].toNat : Int)
        · have HX := Lib.hid (show inC 2 s[k] = false by rw [HB.out, decide_eq_false (by omega)])
          go_wp2
          go_ret
          exact ⟨ret_bool (by have h := all_not hlt HX.out; show _ = targetS s; rw [targetS, allC, h]; simp), rfl⟩
        · have c2' : (s[k].toNat : Int) ≤ 126 := by omega
          have HX := Lib.hid (show inC 2 s[k] = true by rw [HB.out, decide_eq_true (by omega)])
          clear c2
          go_wp2
          go_round
          case rel => exact ⟨k + 1, by omega, by go_num, all_snoc hlt hall HX.out⟩
          case measure => simp [intOf]; omega
    · have HA := Lib.hid (all_end (by omega) hall)
      by_cases c1 : 1 ≤ s.size
      · have c4 : 0 < s.size := by omega
        have hh := Lib.hid (head_at s c4)
        cases c2 : ((s[0].toNat : Int) == 47)
        · have HT := Lib.hid (show targetS s = false by rw [targetS, hh.out, c2]; simp)
          go_wp2
          go_ret
          exact ⟨ret_bool HT.out.symm, rfl⟩
        · have HT := Lib.hid (show targetS s = true by rw [targetS, hh.out, c2, allC, HA.out]; rfl)
          go_wp2
          go_ret
          exact ⟨ret_bool HT.out.symm, rfl⟩
      · have HT := Lib.hid (show targetS s = false by rw [targetS, head_no s (by omega)]; rfl)
        have c3 : s.size < 1 := by omega
        clear c1
        go_wp2
        go_ret
        exact ⟨ret_bool HT.out.symm, rfl⟩
end Go.Proofs.YtkbjklnkeammiaaDoor.Oct
