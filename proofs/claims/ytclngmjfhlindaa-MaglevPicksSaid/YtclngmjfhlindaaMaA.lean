/- Numbers without divisors: the program's and the document's. -/
import Derived.Test.YtclngmjfhlindaaProg
import Derived.WalkKit
import Derived.WalkSpells
import Derived.WalkLawsBesides
import Derived.Lib.Hide
import Derived.OpenShut
import Derived.Deep.QuietTactic
import Derived.BigQuiet
import Derived.RegionTactic
import Derived.ChangeAlike
namespace Go.Proofs.Ytclngmjfhlindaa.Ma
open Go.RowKit
set_option linter.unusedVariables false
/-- No divisor below k whose square is at most n. -/
def NoDiv (n k : Nat) : Prop := ∀ d, 2 ≤ d → d < k → d * d ≤ n → n % d ≠ 0
/-- Is it a number without divisors, up to 2^20? -/
def IsP (n : Int) : Prop := 2 ≤ n ∧ n ≤ 1048576 ∧ ∀ d : Nat, 2 ≤ d → d * d ≤ n.toNat → n.toNat % d ≠ 0
noncomputable def isP (n : Int) : Bool := @decide (IsP n) (Classical.propDecidable _)
theorem isP_true {n : Int} (h : IsP n) : isP n = true := by unfold isP; exact @decide_eq_true _ (Classical.propDecidable _) h
theorem isP_false {n : Int} (h : ¬ IsP n) : isP n = false := by unfold isP; exact @decide_eq_false _ (Classical.propDecidable _) h
theorem NoDiv.next {n k : Nat} (h : NoDiv n k) (hk : n % k ≠ 0) : NoDiv n (k + 1) := by
  intro d h2 hd hs
  by_cases e : d = k
  · subst e; exact hk
  · exact h d h2 (by omega) hs
theorem NoDiv.all {n k : Nat} (h : NoDiv n k) (hk : ¬ k * k ≤ n) (h2 : 2 ≤ n) (hn : n ≤ 1048576) : isP (n : Int) = true :=
  isP_true ⟨by omega, by omega, fun d hd hs => by
    rw [Int.toNat_natCast] at hs ⊢
    refine h d hd ?_ hs
    rcases Nat.lt_or_ge d k with hlt | hge
    · exact hlt
    · exact absurd (Nat.le_trans (Nat.mul_le_mul hge hge) hs) hk⟩
theorem sq_le {k n : Nat} (h : k * k ≤ n) (hn : n ≤ 1048576) : k ≤ 1024 := by
  rcases Nat.lt_or_ge 1024 k with hlt | hge
  · have := Nat.mul_le_mul hlt hlt
    omega
  · exact hge
set_option maxRecDepth 100000 in
theorem refIs_any (n : Int) (w : World) :
    Calls Try.prog 33 #[.int .i64 n] w fun e w' => e = .returned (.bool (isP n)) ∧ w' = w := by
  by_cases c0 : n < 2 ∨ 1048576 < n
  · have hX := Lib.hid (show isP n = false from isP_false (fun h => by have h1 := h.1; have h2 := h.2.1; omega))
    rcases c0 with c0 | c0
    · go_enter Try.func33, Try.ntmps33
      go_wp2
      go_ret
      exact ⟨by rw [hX.out]; rfl, rfl⟩
    · have c1 : ¬ n < 2 := by omega
      go_enter Try.func33, Try.ntmps33
      go_wp2
      go_ret
      exact ⟨by rw [hX.out]; rfl, rfl⟩
  · obtain ⟨m, rfl⟩ := Int.eq_ofNat_of_zero_le (show 0 ≤ n by omega)
    have c1 : ¬ (m : Int) < 2 := by omega
    have c2 : ¬ (1048576 : Int) < m := by omega
    clear c0
    go_enter Try.func33, Try.ntmps33
    go_wp2
    go_loop [3] (fun d => ∃ k : Nat, 2 ≤ k ∧ k ≤ 1025 ∧ d = .int .i64 k ∧ Hid (NoDiv m k)) (fun d => 1026 - (intOf d).toNat)
    case atStart => exact ⟨2, by omega, by omega, rfl, Lib.hid (fun d h1 h2 => by omega)⟩
    case round =>
      obtain ⟨k, hk2, hk, rfl, hno⟩ := hrel
      have hkk : k * k ≤ 1050625 := Nat.mul_le_mul hk hk
      have hm : (k : Int) * (k : Int) = ((k * k : Nat) : Int) := rfl
      have htm : (m : Int).tmod (k : Int) = ((m % k : Nat) : Int) := rfl
      by_cases c3 : k * k ≤ m
      · have hk3 := sq_le c3 (by omega)
        by_cases c4 : m % k = 0
        · have hX := Lib.hid (show isP (m : Int) = false from isP_false (fun h => h.2.2 k hk2 (by rw [Int.toNat_natCast]; exact c3) (by rw [Int.toNat_natCast]; exact c4)))
          generalize k * k = q at *
          rw [c4] at htm
          go_wp2
          go_ret
          exact ⟨by rw [hX.out]; rfl, rfl⟩
        · have hN := Lib.hid (hno.out.next c4)
          have c5 : ¬ ((m % k : Nat) : Int) = 0 := by omega
          generalize k * k = q at *
          generalize m % k = r at *
          go_wp2
          go_round
          case rel => exact ⟨k + 1, by omega, by omega, by go_num, hN⟩
          case measure => first | (simp [intOf]; done) | (simp [intOf]; omega)
      · have hX := Lib.hid (hno.out.all c3 (by omega) (by omega))
        generalize k * k = q at *
        go_wp2
        go_ret
        exact ⟨by rw [hX.out]; rfl, rfl⟩
/-- What least returns of a number from 2 on: the number itself exactly where it has no divisor. -/
theorem least_any (m : Nat) (h2 : 2 ≤ m) (hm : m ≤ 1048576) (w : World) :
    Calls Try.prog 50 #[.int .i64 m] w fun e w' => ∃ r : Nat, e = .returned (.int .i64 r) ∧ (decide ((r : Int) = (m : Int))) = isP (m : Int) ∧ w' = w := by
  have htm2 : (m : Int).tmod 2 = ((m % 2 : Nat) : Int) := rfl
  by_cases c0 : m % 2 = 0
  · rw [c0] at htm2
    have hX : (decide (((2 : Nat) : Int) = (m : Int))) = isP (m : Int) := by
      by_cases e : m = 2
      · subst e
        rw [decide_eq_true rfl, isP_true]
        refine ⟨by omega, by omega, fun d hd hs => ?_⟩
        rw [Int.toNat_natCast] at hs
        have := Nat.mul_le_mul hd hd
        omega
      · rw [decide_eq_false (by omega), isP_false]
        intro h
        exact h.2.2 2 (Nat.le_refl _) (by rw [Int.toNat_natCast]; omega) (by rw [Int.toNat_natCast]; exact c0)
    replace hX := Lib.hid hX
    go_enter Try.func50, Try.ntmps50
    go_wp2
    go_ret
    exact ⟨2, rfl, hX.out, rfl⟩
  · have hodd : m % 2 = 1 := by omega
    rw [hodd] at htm2
    go_enter Try.func50, Try.ntmps50
    go_wp2
    go_loop [3] (fun d => ∃ k : Nat, 3 ≤ k ∧ k ≤ 1026 ∧ k % 2 = 1 ∧ d = .int .i64 k ∧ Hid (NoDiv m k)) (fun d => 1027 - (intOf d).toNat)
    case atStart =>
      refine ⟨3, by omega, by omega, rfl, rfl, Lib.hid (fun d h1 h3 _ => ?_)⟩
      have hd : d = 2 := by omega
      rw [hd]; omega
    case round =>
      obtain ⟨k, hk3, hk, hko, rfl, hno⟩ := hrel
      clear htm2
      have hkk : k * k ≤ 1052676 := Nat.mul_le_mul hk hk
      have hmm : (k : Int) * (k : Int) = ((k * k : Nat) : Int) := rfl
      have htm : (m : Int).tmod (k : Int) = ((m % k : Nat) : Int) := rfl
      by_cases c3 : k * k ≤ m
      · have hk4 := sq_le c3 hm
        by_cases c4 : m % k = 0
        · have hX := Lib.hid (show (decide ((k : Int) = (m : Int))) = isP (m : Int) by
            have : k < m := Nat.lt_of_lt_of_le (by have := Nat.mul_le_mul hk3 (Nat.le_refl k); omega) c3
            rw [decide_eq_false (by omega), isP_false]
            intro h
            exact h.2.2 k (by omega) (by rw [Int.toNat_natCast]; exact c3) (by rw [Int.toNat_natCast]; exact c4))
          generalize k * k = q at *
          rw [c4] at htm
          go_wp2
          go_ret
          exact ⟨k, rfl, hX.out, rfl⟩
        · have hN := Lib.hid (show NoDiv m (k + 2) from by
            have h1 := hno.out.next c4
            refine h1.next ?_
            intro e
            have : m % 2 = 0 := Nat.mod_eq_zero_of_dvd (Nat.dvd_trans (Nat.dvd_of_mod_eq_zero (by omega)) (Nat.dvd_of_mod_eq_zero e))
            omega)
          have c5 : ¬ ((m % k : Nat) : Int) = 0 := by omega
          generalize k * k = q at *
          generalize m % k = r at *
          go_wp2
          go_round
          case rel => exact ⟨k + 2, by omega, by omega, by omega, by go_num, hN⟩
          case measure => first | (simp [intOf]; done) | (simp [intOf]; omega)
      · have hX := Lib.hid (hno.out.all c3 h2 hm)
        generalize k * k = q at *
        go_wp2
        go_ret
        exact ⟨m, rfl, by rw [decide_eq_true rfl]; exact hX.out.symm, rfl⟩
theorem is_any (n : Int) (w : World) :
    Calls Try.prog 38 #[.int .i64 n] w fun e w' => e = .returned (.bool (isP n)) ∧ w' = w := by
  by_cases c0 : 2 ≤ n
  · by_cases c1 : n ≤ 1048576
    · obtain ⟨m, rfl⟩ := Int.eq_ofNat_of_zero_le (show 0 ≤ n by omega)
      have d := least_any m (by omega) (by omega)
      go_enter Try.func38, Try.ntmps38
      go_wp2_with (go_at_call 50; refine (d _).mono ?_; rintro e w1 ⟨r, rfl, hr, hw⟩; rw [hw]; clear hw w1)
      go_ret
      exact ⟨by rw [← hr]; rfl, rfl⟩
    · have hX := Lib.hid (show isP n = false from isP_false (fun h => c1 h.2.1))
      go_enter Try.func38, Try.ntmps38
      go_wp2
      go_ret
      exact ⟨by rw [hX.out]; rfl, rfl⟩
  · have hX := Lib.hid (show isP n = false from isP_false (fun h => c0 h.1))
    go_enter Try.func38, Try.ntmps38
    go_wp2
    go_ret
    exact ⟨by rw [hX.out]; rfl, rfl⟩
end Go.Proofs.Ytclngmjfhlindaa.Ma
