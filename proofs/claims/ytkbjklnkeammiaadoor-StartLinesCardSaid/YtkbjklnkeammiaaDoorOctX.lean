import Derived.Test.YtkbjklnkeammiaaDoorOctL
import Derived.Test.YtkbjklnkeammiaaDoorOctR
import Derived.BigQuiet
import Derived.Deep.QuietTactic
namespace Go.Proofs.YtkbjklnkeammiaaDoor.Oct
open Go.RowKit
set_option linter.unusedVariables false
theorem dig_digit (x : UInt8) (h : digitB (x.toNat : Int) = true) : (digN x : Int) = (x.toNat : Int) - 48 := by
  unfold digitB at h; have h := of_decide_eq_true h
  unfold digN; rw [if_pos (by omega)]; omega
theorem dig_low (x : UInt8) (h : digitB (x.toNat : Int) = false) (h1 : 97 ≤ (x.toNat : Int)) : (digN x : Int) = (x.toNat : Int) - 87 := by
  unfold digN; rw [if_neg (by omega), if_pos (by omega)]; omega
theorem dig_up (x : UInt8) (h1 : 65 ≤ (x.toNat : Int)) (h2 : (x.toNat : Int) ≤ 70) : (digN x : Int) = (x.toNat : Int) - 55 := by
  unfold digN; rw [if_neg (by omega), if_neg (by omega)]; omega
theorem cls10 (x : UInt8) : inC (clsOf 10) x = digitB (x.toNat : Int) := by
  have hx := (cls_fin ⟨x.toNat, x.toNat_lt⟩).1
  simp only [UInt8.ofNat_toNat] at hx
  show inC 8 x = _
  rw [hx]; unfold digitB
  rw [decide_eq_decide]; omega
theorem cls16 (x : UInt8) : inC (clsOf 16) x = (digitB (x.toNat : Int) || decide (97 ≤ (x.toNat : Int) ∧ (x.toNat : Int) ≤ 102) || decide (65 ≤ (x.toNat : Int) ∧ (x.toNat : Int) ≤ 70)) := by
  have hx := (cls_fin ⟨x.toNat, x.toNat_lt⟩).2
  simp only [UInt8.ofNat_toNat] at hx
  show inC 16 x = _
  rw [hx]; unfold digitB
  rw [Bool.eq_iff_iff]
  simp only [Bool.or_eq_true, decide_eq_true_eq]
  omega
theorem all_dig {b : Nat} (hb : b = 10 ∨ b = 16) {l : List UInt8} (h : l.all (inC (clsOf b)) = true) : ∀ x ∈ l, digOK b x := fun x hx => cls_dig hb x (List.all_eq_true.1 h x hx)
theorem pow_le {b k m : Nat} (hb : 0 < b) (h : k ≤ m) : b ^ k ≤ b ^ m := Nat.pow_le_pow_right hb h
theorem hex_at : ∀ r : Fin 16, (⟨#[48, 49, 50, 51, 52, 53, 54, 55, 56, 57, 97, 98, 99, 100, 101, 102]⟩ : ByteArray).extract r.val (r.val + 1) = ⟨#[hexDig r.val]⟩ := by decide +kernel
set_option maxRecDepth 100000 in
set_option maxHeartbeats 2000000 in
theorem refNumber10 (s : ByteArray) (hs : s.size ≤ maxLen) (most : Int) (w : World) :
    Calls Tryd.prog 38 #[.string s, .int .i64 10, .int .i64 most] w fun e w' => e = .returned (.tuple #[.int .i64 (numS 10 10 s most).1, .int .i64 (numS 10 10 s most).2]) ∧ w = w' := by
  unfold maxLen at hs
  by_cases c0 : s.size = 0
  · have HX := Lib.hid (show numS 10 10 s most = (0, 2) by rw [numS, if_pos (.inl c0)])
    have hz1 : (s.size : Int) < 1 := by omega
    have hz2 : (s.size : Int) < 1 ∨ (10 : Int) < s.size := by omega
    go_enter Tryd.func38, Tryd.ntmps38
    go_wp2_with fail
    go_ret2
    exact ⟨ret_two HX.out.symm, rfl⟩
  · by_cases c1 : 10 < s.size
    · have HX := Lib.hid (show numS 10 10 s most = (0, 2) by rw [numS, if_pos (.inr (.inl c1))])
      have hz1 : ¬ (s.size : Int) < 1 := by omega
      have hz2 : (s.size : Int) < 1 ∨ (10 : Int) < s.size := by omega
      have hz3 : (10 : Int) < s.size := by omega
      go_enter Tryd.func38, Tryd.ntmps38
      go_wp2_with fail
      go_ret2
      exact ⟨ret_two HX.out.symm, rfl⟩
    · go_enter Tryd.func38, Tryd.ntmps38
      go_wp2_with fail
      go_loop [9, 10] (fun n i => ∃ (k m : Nat), k ≤ s.size ∧ i = .int .i64 k ∧ n = .int .i64 m ∧ Hid ((s.data.toList.take k).all (inC (clsOf 10)) = true) ∧ Hid (m = val 10 (s.data.toList.take k))) (fun _ i => s.size - (intOf i).toNat)
      case atStart => exact ⟨0, 0, Nat.zero_le _, rfl, rfl, Lib.hid rfl, Lib.hid rfl⟩
      case round =>
        obtain ⟨k, m, hk, rfl, rfl, hall, hval⟩ := hrel
        by_cases hlt : k < s.size
        · have hb : (s[k].toNat : Int) < 256 := by have := s[k].toNat_lt; omega
          have hsz : s.size ≤ 10 := by omega
          have hm : m < 10 ^ k := by rw [hval.out]; refine Nat.lt_of_lt_of_le (val_lt (by decide) _ (all_dig (by decide) hall.out)) (pow_le (by decide) (by rw [List.length_take]; omega))
          have hm2 : m < 1000000000 := Nat.lt_of_lt_of_le hm (pow_le (m := 9) (by decide) (by omega))
          clear hm
          have HC := Lib.hid (cls10 s[k])
          cases hD : digitB (s[k].toNat : Int)
          · have HB := Lib.hid (show inC (clsOf 10) s[k] = false by rw [HC.out, hD])
            have HX := Lib.hid (show numS 10 10 s most = (0, 2) by rw [numS, if_pos (.inr (.inr (all_not hlt HB.out)))])
            go_wp2_with (first | (go_at_call 71; refine (digit_any _ _).mono ?_; rintro e w1 ⟨rfl, rfl⟩))
            go_ret2
            exact ⟨ret_two HX.out.symm, rfl⟩
          · have HB := Lib.hid (show inC (clsOf 10) s[k] = true by rw [HC.out, hD])
            have hd : (digN s[k] : Int) = (s[k].toNat : Int) - 48 := dig_digit _ hD
            have hd2 : digN s[k] < 10 := digN_lt (by decide) (cls_dig (by decide) _ HB.out)
            have HV2 := Lib.hid (show 10 * m + digN s[k] = val 10 (s.data.toList.take (k + 1)) by rw [take_snoc s k hlt, val_snoc, ← hval.out, Nat.mul_comm])
            have HA2 := Lib.hid (all_snoc hlt hall.out HB.out)
            go_wp2_with (first | (go_at_call 71; refine (digit_any _ _).mono ?_; rintro e w1 ⟨rfl, rfl⟩))
            go_round
            case rel => exact ⟨k + 1, 10 * m + digN s[k], by omega, by go_num, by go_num, HA2, HV2⟩
            case measure => simp [intOf]; omega
        · have hke : k = s.size := by omega
          have HA := Lib.hid (show allC (clsOf 10) s = true from all_end (by omega) hall.out)
          have HV := Lib.hid (show m = val 10 s.data.toList by rw [hval.out, List.take_of_length_le (by simp; omega)])
          have hN : ∀ r, (if most < (m : Int) then ((0 : Int), (3 : Int)) else ((m : Int), 0)) = r → numS 10 10 s most = r := by
            intro r hr
            rw [numS, if_neg (by rintro (h | h | h); exact c0 h; exact c1 h; rw [HA.out] at h; cases h), ← HV.out, hr]
          have HN := Lib.hid hN
          clear hN
          by_cases c2 : most < (m : Int)
          · have HM := Lib.hid (HN.out (0, 3) (if_pos c2))
            go_wp2_with fail
            go_ret2
            exact ⟨ret_two HM.out.symm, rfl⟩
          · have HM := Lib.hid (HN.out ((m : Int), 0) (if_neg c2))
            go_wp2_with fail
            go_ret2
            exact ⟨ret_two HM.out.symm, rfl⟩
set_option maxRecDepth 100000 in
set_option maxHeartbeats 2000000 in
theorem refNumber16 (s : ByteArray) (hs : s.size ≤ maxLen) (most : Int) (w : World) :
    Calls Tryd.prog 38 #[.string s, .int .i64 16, .int .i64 most] w fun e w' => e = .returned (.tuple #[.int .i64 (numS 16 8 s most).1, .int .i64 (numS 16 8 s most).2]) ∧ w = w' := by
  unfold maxLen at hs
  by_cases c0 : s.size = 0
  · have HX := Lib.hid (show numS 16 8 s most = (0, 2) by rw [numS, if_pos (.inl c0)])
    have hz1 : (s.size : Int) < 1 := by omega
    have hz2 : (s.size : Int) < 1 ∨ (8 : Int) < s.size := by omega
    go_enter Tryd.func38, Tryd.ntmps38
    go_wp2_with fail
    go_ret2
    exact ⟨ret_two HX.out.symm, rfl⟩
  · by_cases c1 : 8 < s.size
    · have HX := Lib.hid (show numS 16 8 s most = (0, 2) by rw [numS, if_pos (.inr (.inl c1))])
      have hz1 : ¬ (s.size : Int) < 1 := by omega
      have hz2 : (s.size : Int) < 1 ∨ (8 : Int) < s.size := by omega
      have hz3 : (8 : Int) < s.size := by omega
      go_enter Tryd.func38, Tryd.ntmps38
      go_wp2_with fail
      go_ret2
      exact ⟨ret_two HX.out.symm, rfl⟩
    · go_enter Tryd.func38, Tryd.ntmps38
      go_wp2_with fail
      go_loop [9, 10] (fun n i => ∃ (k m : Nat), k ≤ s.size ∧ i = .int .i64 k ∧ n = .int .i64 m ∧ Hid ((s.data.toList.take k).all (inC (clsOf 16)) = true) ∧ Hid (m = val 16 (s.data.toList.take k))) (fun _ i => s.size - (intOf i).toNat)
      case atStart => exact ⟨0, 0, Nat.zero_le _, rfl, rfl, Lib.hid rfl, Lib.hid rfl⟩
      case round =>
        obtain ⟨k, m, hk, rfl, rfl, hall, hval⟩ := hrel
        by_cases hlt : k < s.size
        · have hb : (s[k].toNat : Int) < 256 := by have := s[k].toNat_lt; omega
          have hsz : s.size ≤ 8 := by omega
          have hm : m < 16 ^ k := by rw [hval.out]; refine Nat.lt_of_lt_of_le (val_lt (by decide) _ (all_dig (by decide) hall.out)) (pow_le (by decide) (by rw [List.length_take]; omega))
          have hm2 : m < 268435456 := Nat.lt_of_lt_of_le hm (pow_le (m := 7) (by decide) (by omega))
          clear hm
          have HC := Lib.hid (cls16 s[k])
          cases hD : digitB (s[k].toNat : Int)
          · by_cases c97 : (97 : Int) ≤ (s[k].toNat : Int)
            · have c65 : (65 : Int) ≤ (s[k].toNat : Int) := by omega
              have c70 : ¬ (s[k].toNat : Int) ≤ 70 := by omega
              by_cases c102 : (s[k].toNat : Int) ≤ 102
              · have HB := Lib.hid (show inC (clsOf 16) s[k] = true by rw [HC.out, hD]; simp; omega)
                have hd : (digN s[k] : Int) = (s[k].toNat : Int) - 87 := dig_low _ hD c97
                have hd2 : digN s[k] < 16 := digN_lt (by decide) (cls_dig (by decide) _ HB.out)
                have HV2 := Lib.hid (show 16 * m + digN s[k] = val 16 (s.data.toList.take (k + 1)) by rw [take_snoc s k hlt, val_snoc, ← hval.out, Nat.mul_comm])
                have HA2 := Lib.hid (all_snoc hlt hall.out HB.out)
                go_wp2_with (first | (go_at_call 71; refine (digit_any _ _).mono ?_; rintro e w1 ⟨rfl, rfl⟩))
                go_round
                case rel => exact ⟨k + 1, 16 * m + digN s[k], by omega, by go_num, by go_num, HA2, HV2⟩
                case measure => simp [intOf]; omega
              · have HB := Lib.hid (show inC (clsOf 16) s[k] = false by rw [HC.out, hD]; simp; omega)
                have HX := Lib.hid (show numS 16 8 s most = (0, 2) by rw [numS, if_pos (.inr (.inr (all_not hlt HB.out)))])
                go_wp2_with (first | (go_at_call 71; refine (digit_any _ _).mono ?_; rintro e w1 ⟨rfl, rfl⟩))
                go_ret2
                exact ⟨ret_two HX.out.symm, rfl⟩
            · by_cases c65 : (65 : Int) ≤ (s[k].toNat : Int)
              · by_cases c70 : (s[k].toNat : Int) ≤ 70
                · have HB := Lib.hid (show inC (clsOf 16) s[k] = true by rw [HC.out, hD]; simp; omega)
                  have hd : (digN s[k] : Int) = (s[k].toNat : Int) - 55 := dig_up _ c65 c70
                  have hd2 : digN s[k] < 16 := digN_lt (by decide) (cls_dig (by decide) _ HB.out)
                  have HV2 := Lib.hid (show 16 * m + digN s[k] = val 16 (s.data.toList.take (k + 1)) by rw [take_snoc s k hlt, val_snoc, ← hval.out, Nat.mul_comm])
                  have HA2 := Lib.hid (all_snoc hlt hall.out HB.out)
                  go_wp2_with (first | (go_at_call 71; refine (digit_any _ _).mono ?_; rintro e w1 ⟨rfl, rfl⟩))
                  go_round
                  case rel => exact ⟨k + 1, 16 * m + digN s[k], by omega, by go_num, by go_num, HA2, HV2⟩
                  case measure => simp [intOf]; omega
                · have HB := Lib.hid (show inC (clsOf 16) s[k] = false by rw [HC.out, hD]; simp; omega)
                  have HX := Lib.hid (show numS 16 8 s most = (0, 2) by rw [numS, if_pos (.inr (.inr (all_not hlt HB.out)))])
                  go_wp2_with (first | (go_at_call 71; refine (digit_any _ _).mono ?_; rintro e w1 ⟨rfl, rfl⟩))
                  go_ret2
                  exact ⟨ret_two HX.out.symm, rfl⟩
              · have HB := Lib.hid (show inC (clsOf 16) s[k] = false by rw [HC.out, hD]; simp; omega)
                have HX := Lib.hid (show numS 16 8 s most = (0, 2) by rw [numS, if_pos (.inr (.inr (all_not hlt HB.out)))])
                go_wp2_with (first | (go_at_call 71; refine (digit_any _ _).mono ?_; rintro e w1 ⟨rfl, rfl⟩))
                go_ret2
                exact ⟨ret_two HX.out.symm, rfl⟩
          · have HB := Lib.hid (show inC (clsOf 16) s[k] = true by rw [HC.out, hD]; rfl)
            have hd : (digN s[k] : Int) = (s[k].toNat : Int) - 48 := dig_digit _ hD
            have hd2 : digN s[k] < 16 := digN_lt (by decide) (cls_dig (by decide) _ HB.out)
            have HV2 := Lib.hid (show 16 * m + digN s[k] = val 16 (s.data.toList.take (k + 1)) by rw [take_snoc s k hlt, val_snoc, ← hval.out, Nat.mul_comm])
            have HA2 := Lib.hid (all_snoc hlt hall.out HB.out)
            go_wp2_with (first | (go_at_call 71; refine (digit_any _ _).mono ?_; rintro e w1 ⟨rfl, rfl⟩))
            go_round
            case rel => exact ⟨k + 1, 16 * m + digN s[k], by omega, by go_num, by go_num, HA2, HV2⟩
            case measure => simp [intOf]; omega
        · have hke : k = s.size := by omega
          have HA := Lib.hid (show allC (clsOf 16) s = true from all_end (by omega) hall.out)
          have HV := Lib.hid (show m = val 16 s.data.toList by rw [hval.out, List.take_of_length_le (by simp; omega)])
          have hN : ∀ r, (if most < (m : Int) then ((0 : Int), (3 : Int)) else ((m : Int), 0)) = r → numS 16 8 s most = r := by
            intro r hr
            rw [numS, if_neg (by rintro (h | h | h); exact c0 h; exact c1 h; rw [HA.out] at h; cases h), ← HV.out, hr]
          have HN := Lib.hid hN
          clear hN
          by_cases c2 : most < (m : Int)
          · have HM := Lib.hid (HN.out (0, 3) (if_pos c2))
            go_wp2_with fail
            go_ret2
            exact ⟨ret_two HM.out.symm, rfl⟩
          · have HM := Lib.hid (HN.out ((m : Int), 0) (if_neg c2))
            go_wp2_with fail
            go_ret2
            exact ⟨ret_two HM.out.symm, rfl⟩
end Go.Proofs.YtkbjklnkeammiaaDoor.Oct
