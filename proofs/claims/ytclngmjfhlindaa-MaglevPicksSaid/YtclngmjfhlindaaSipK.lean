/- A number below another one: the program's and the document's. -/
import Derived.Test.YtclngmjfhlindaaSipJ
import Derived.Test.YtclngmjfhlindaaShelf
import Derived.Lib.Mul64
namespace Go.Proofs.Ytclngmjfhlindaa.Sip
open Go.RowKit Go.Lib
set_option linter.unusedVariables false
/-- The whole part of x times n by 2^64. -/
def belowN (x : Nat) (n : Int) : Int := if n < 1 then 0 else ((x * n.toNat / 18446744073709551616 : Nat) : Int)
theorem below_any (x : Nat) (hx : x < 18446744073709551616) (n : Int) (hn : n ≤ 9223372036854775807) (w : World) :
    Calls Try.prog 36 #[.int .u64 x, .int .i64 n] w fun e w' => e = .returned (.int .i64 (belowN x n)) ∧ w' = w := by
  by_cases c1 : n < 1
  · have hb := Lib.hid (show belowN x n = 0 by unfold belowN; rw [if_pos c1])
    go_enter Try.func36, Try.ntmps36
    go_wp2
    go_ret
    exact ⟨by rw [hb.out]; rfl, rfl⟩
  · obtain ⟨m, rfl⟩ := Int.eq_ofNat_of_zero_le (show 0 ≤ n by omega)
    have hb := Lib.hid (show belowN x (m : Int) = ((x * m / 18446744073709551616 : Nat) : Int) by unfold belowN; rw [if_neg c1]; rfl)
    have d := Try.bits_Mul64 x m hx (by omega)
    have hq : x * m / 18446744073709551616 ≤ 9223372036854775807 := by
      have h1 : x * m < 18446744073709551616 * 9223372036854775808 := Nat.mul_lt_mul'' hx (by omega)
      have h2 := (Nat.div_lt_iff_lt_mul (by decide : 0 < 18446744073709551616)).2 (Nat.mul_comm 18446744073709551616 9223372036854775808 ▸ h1)
      omega
    generalize x * m / 18446744073709551616 = q at *
    go_enter Try.func36, Try.ntmps36
    go_wp2_with (go_at_call 49; refine (d _).mono ?_; rintro e w1 ⟨rfl, hw⟩; rw [hw]; clear hw w1)
    go_ret
    exact ⟨by rw [hb.out]; rfl, rfl⟩
theorem wrapN (z : Nat) (h : z < 18446744073709551616) : IntKind.u64.wrap (z : Int) = z := by
  simp [IntKind.wrap, IntKind.bits, IntKind.signed]; omega
theorem wrapI (z : Nat) (h : z ≤ 9223372036854775807) : wrap64 (z : Int) = z := by
  unfold wrap64; omega
theorem ref_expr (x m : Nat) (hx : x < 18446744073709551616) (hm : m ≤ 9223372036854775807) :
    wrap64 (IntKind.u64.wrap (IntKind.u64.wrap (IntKind.u64.wrap (IntKind.u64.wrap ((x / 4294967296 : Nat) : Int) * IntKind.u64.wrap ((m / 4294967296 : Nat) : Int)) +
        IntKind.u64.wrap ((IntKind.u64.wrap (IntKind.u64.wrap (IntKind.u64.wrap ((x / 4294967296 : Nat) : Int) * ((m % 4294967296 : Nat) : Int)) + IntKind.u64.wrap ((IntKind.u64.wrap (((x % 4294967296 : Nat) : Int) * ((m % 4294967296 : Nat) : Int))).tdiv 4294967296))).tdiv 4294967296)) +
      IntKind.u64.wrap ((IntKind.u64.wrap (IntKind.u64.wrap (((x % 4294967296 : Nat) : Int) * IntKind.u64.wrap ((m / 4294967296 : Nat) : Int)) +
        (IntKind.u64.wrap (IntKind.u64.wrap (IntKind.u64.wrap ((x / 4294967296 : Nat) : Int) * ((m % 4294967296 : Nat) : Int)) + IntKind.u64.wrap ((IntKind.u64.wrap (((x % 4294967296 : Nat) : Int) * ((m % 4294967296 : Nat) : Int))).tdiv 4294967296))).tmod 4294967296)).tdiv 4294967296))) = ((x * m / 18446744073709551616 : Nat) : Int) := by
  obtain ⟨b1, b2, b3, hhi⟩ := Lib.mul64_hi x m hx (by omega)
  have ha := Lib.half_mul_le (a := x / 4294967296) (b := m / 4294967296) (by omega) (by omega)
  have hb := Lib.half_mul_le (a := x / 4294967296) (b := m % 4294967296) (by omega) (by omega)
  have hc := Lib.half_mul_le (a := x % 4294967296) (b := m / 4294967296) (by omega) (by omega)
  have hq : x * m / 18446744073709551616 ≤ 9223372036854775807 := by
    have h1 : x * m < 18446744073709551616 * 9223372036854775808 := Nat.mul_lt_mul'' hx (by omega)
    have h2 := (Nat.div_lt_iff_lt_mul (by decide : 0 < 18446744073709551616)).2 (Nat.mul_comm 18446744073709551616 9223372036854775808 ▸ h1)
    omega
  have td : ∀ z : Nat, (z : Int).tdiv 4294967296 = ((z / 4294967296 : Nat) : Int) := fun z => rfl
  have tm : ∀ z : Nat, (z : Int).tmod 4294967296 = ((z % 4294967296 : Nat) : Int) := fun z => rfl
  rw [wrapN (x / 4294967296) (by omega), wrapN (m / 4294967296) (by omega)]
  simp only [← Int.natCast_mul]
  generalize (x / 4294967296) * (m / 4294967296) = a at *
  generalize (x / 4294967296) * (m % 4294967296) = b at *
  generalize (x % 4294967296) * (m / 4294967296) = c at *
  generalize (x % 4294967296) * (m % 4294967296) = d at *
  rw [wrapN a (by omega), wrapN b (by omega), wrapN c (by omega), wrapN d b1, td, wrapN (d / 4294967296) (by omega), ← Int.natCast_add, wrapN (b + d / 4294967296) b2, td, tm, wrapN ((b + d / 4294967296) / 4294967296) (by omega), ← Int.natCast_add, ← Int.natCast_add,
    wrapN (a + (b + d / 4294967296) / 4294967296) (by omega), wrapN (c + (b + d / 4294967296) % 4294967296) (by omega), td, wrapN ((c + (b + d / 4294967296) % 4294967296) / 4294967296) (by omega), ← Int.natCast_add, Nat.add_comm c, hhi, wrapN _ (by omega), wrapI _ hq]
theorem refBelow_any (x : Nat) (hx : x < 18446744073709551616) (n : Int) (hn : n ≤ 9223372036854775807) (w : World) :
    Calls Try.prog 21 #[.int .u64 x, .int .i64 n] w fun e w' => e = .returned (.int .i64 (belowN x n)) ∧ w' = w := by
  by_cases c1 : n < 1
  · have hb := Lib.hid (show belowN x n = 0 by unfold belowN; rw [if_pos c1])
    go_enter Try.func21, Try.ntmps21
    go_wp2
    go_ret
    exact ⟨by rw [hb.out]; rfl, rfl⟩
  · obtain ⟨m, rfl⟩ := Int.eq_ofNat_of_zero_le (show 0 ≤ n by omega)
    have hb := Lib.hid (show belowN x (m : Int) = ((x * m / 18446744073709551616 : Nat) : Int) by unfold belowN; rw [if_neg c1]; rfl)
    have hE := Lib.hid (ref_expr x m hx (by omega))
    have h1 : (x : Int).tmod 4294967296 = ((x % 4294967296 : Nat) : Int) := rfl
    have h2 : (x : Int).tdiv 4294967296 = ((x / 4294967296 : Nat) : Int) := rfl
    have h3 : (m : Int).tmod 4294967296 = ((m % 4294967296 : Nat) : Int) := rfl
    have h4 : (m : Int).tdiv 4294967296 = ((m / 4294967296 : Nat) : Int) := rfl
    generalize x % 4294967296 = xl at *
    generalize x / 4294967296 = xh at *
    generalize m % 4294967296 = ml at *
    generalize m / 4294967296 = mh at *
    go_enter Try.func21, Try.ntmps21
    go_wp2
    go_ret
    exact ⟨by rw [hb.out, ← hE.out]; rfl, rfl⟩
end Go.Proofs.Ytclngmjfhlindaa.Sip
