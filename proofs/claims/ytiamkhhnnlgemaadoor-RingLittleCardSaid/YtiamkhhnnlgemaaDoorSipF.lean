/- The program's words. -/
import Derived.Test.YtiamkhhnnlgemaaDoorSipD
import Derived.Laws.BitsLemmas
namespace Go.Proofs.YtiamkhhnnlgemaaDoor.Sip
open Go.RowKit
set_option linter.unusedVariables false
theorem or_word (x b k p : Nat) (hp0 : p = 2 ^ (8 * k)) (hx : x < 2 ^ (8 * k)) (hb : b < 256) (hk : k < 8) : bits .or .u64 (x : Int) ((b : Int) * (p : Int)) = ((x + b * 2 ^ (8 * k) : Nat) : Int) := by
  have hp : 2 ^ (8 * k) * 256 ≤ 18446744073709551616 := by
    have e : 2 ^ (8 * k) * 256 = 2 ^ (8 * k + 8) := by rw [Nat.pow_add]
    rw [e]
    exact Nat.le_trans (Nat.pow_le_pow_right (by decide) (show 8 * k + 8 ≤ 64 by omega)) (by decide)
  have hbp : b * 2 ^ (8 * k) < 18446744073709551616 := Nat.lt_of_lt_of_le (Nat.mul_lt_mul_of_pos_right hb (Nat.two_pow_pos _)) (by rw [Nat.mul_comm]; exact hp)
  have hx2 : x < 18446744073709551616 := Nat.lt_of_lt_of_le hx (by omega)
  subst hp0
  rw [← Int.natCast_mul, (bits_nat .u64 64 (by decide) (fun n h0 h1 => by rw [show IntKind.u64.wrap n = n % 18446744073709551616 by simp [IntKind.wrap, IntKind.bits, IntKind.signed]]; omega) x (b * 2 ^ (8 * k)) (by exact hx2) (by exact hbp)).2]
  congr 1
  rw [Nat.or_comm, ← Nat.shiftLeft_eq, ← Nat.shiftLeft_add_eq_or_of_lt hx, Nat.add_comm]
theorem take_at (l : List UInt8) (k : Nat) (h : k < l.length) : le (l.take (k + 1)) = le (l.take k) + l[k].toNat * 2 ^ (8 * k) := by
  rw [List.take_succ_eq_append_getElem h, le_snoc, List.length_take, Nat.min_eq_left (by omega), show (256 : Nat) = 2 ^ 8 by decide, ← Nat.pow_mul]
theorem take_lt (l : List UInt8) (k : Nat) (h : k ≤ l.length) : le (l.take k) < 2 ^ (8 * k) := by
  have h1 := le_lt (l.take k)
  rw [List.length_take, Nat.min_eq_left h, show (256 : Nat) = 2 ^ 8 by decide, ← Nat.pow_mul] at h1
  exact h1
set_option maxRecDepth 100000 in
set_option maxHeartbeats 2000000 in
theorem word_any (g o : Nat) (l : List UInt8) (n c : Nat) (hl : 8 ≤ l.length) (hn : l.length = n) (w : World) (h : ∀ j (hj : j < l.length), w.cell? ⟨g, o + j, none⟩ = some (.int .u8 (l[j].toNat : Int))) :
    Calls Tryd.prog 31 #[.slice (some ⟨g, o, none⟩) n c] w fun e w' => e = .returned (.int .u64 (le (l.take 8))) ∧ w' = w := by
  have hb0 : w = w := rfl
  have hn8 : (8 : Int) ≤ (n : Int) := by omega
  go_enter Tryd.func31, Tryd.ntmps31
  go_wp2
  go_loopw [3, 5] (fun x i wr => ∃ k : Nat, k ≤ 8 ∧ i = .int .i64 k ∧ x = .int .u64 (le (l.take k)) ∧ wr = w) (fun _ i _ => 8 - (intOf i).toNat)
  case atStart => exact ⟨0, by omega, rfl, rfl, rfl⟩
  case round =>
    obtain ⟨k, hk, rfl, rfl, rfl⟩ := hrel
    have hcase : k = 0 ∨ k = 1 ∨ k = 2 ∨ k = 3 ∨ k = 4 ∨ k = 5 ∨ k = 6 ∨ k = 7 ∨ k = 8 := by omega
    rcases hcase with rfl | rfl | rfl | rfl | rfl | rfl | rfl | rfl | rfl
    · have hc := h 0 (by omega)
      (try simp only [Nat.add_zero] at hc)
      have hb : (l[0].toNat : Int) < 256 := by have := l[0].toNat_lt; omega
      have hX := Lib.hid (show bits .or .u64 ((le [] : Nat) : Int) (l[0].toNat : Int) = ((le (l.take (0 + 1)) : Nat) : Int) by
        have hor := or_word (le (l.take 0)) (l[0].toNat) 0 1 (by decide) (take_lt l 0 (by omega)) (by have := l[0].toNat_lt; omega) (by decide)
        rw [← take_at l 0 (by omega)] at hor
        simpa using hor)
      go_wp2
      go_roundw
      case rel => exact ⟨1, by omega, by go_num, by rw [hX.out], by first | rfl | trivial⟩
      case measure => simp [intOf]
    · have hc := h 1 (by omega)
      (try simp only [Nat.add_zero] at hc)
      have hb : (l[1].toNat : Int) < 256 := by have := l[1].toNat_lt; omega
      have hX := Lib.hid (show bits .or .u64 ((le (l.take 1) : Nat) : Int) ((l[1].toNat : Int) * 256) = ((le (l.take (1 + 1)) : Nat) : Int) by
        have hor := or_word (le (l.take 1)) (l[1].toNat) 1 256 (by decide) (take_lt l 1 (by omega)) (by have := l[1].toNat_lt; omega) (by decide)
        rw [← take_at l 1 (by omega)] at hor
        exact hor)
      go_wp2
      go_roundw
      case rel => exact ⟨2, by omega, by go_num, by rw [hX.out], by first | rfl | trivial⟩
      case measure => simp [intOf]
    · have hc := h 2 (by omega)
      (try simp only [Nat.add_zero] at hc)
      have hb : (l[2].toNat : Int) < 256 := by have := l[2].toNat_lt; omega
      have hX := Lib.hid (show bits .or .u64 ((le (l.take 2) : Nat) : Int) ((l[2].toNat : Int) * 65536) = ((le (l.take (2 + 1)) : Nat) : Int) by
        have hor := or_word (le (l.take 2)) (l[2].toNat) 2 65536 (by decide) (take_lt l 2 (by omega)) (by have := l[2].toNat_lt; omega) (by decide)
        rw [← take_at l 2 (by omega)] at hor
        exact hor)
      go_wp2
      go_roundw
      case rel => exact ⟨3, by omega, by go_num, by rw [hX.out], by first | rfl | trivial⟩
      case measure => simp [intOf]
    · have hc := h 3 (by omega)
      (try simp only [Nat.add_zero] at hc)
      have hb : (l[3].toNat : Int) < 256 := by have := l[3].toNat_lt; omega
      have hX := Lib.hid (show bits .or .u64 ((le (l.take 3) : Nat) : Int) ((l[3].toNat : Int) * 16777216) = ((le (l.take (3 + 1)) : Nat) : Int) by
        have hor := or_word (le (l.take 3)) (l[3].toNat) 3 16777216 (by decide) (take_lt l 3 (by omega)) (by have := l[3].toNat_lt; omega) (by decide)
        rw [← take_at l 3 (by omega)] at hor
        exact hor)
      go_wp2
      go_roundw
      case rel => exact ⟨4, by omega, by go_num, by rw [hX.out], by first | rfl | trivial⟩
      case measure => simp [intOf]
    · have hc := h 4 (by omega)
      (try simp only [Nat.add_zero] at hc)
      have hb : (l[4].toNat : Int) < 256 := by have := l[4].toNat_lt; omega
      have hX := Lib.hid (show bits .or .u64 ((le (l.take 4) : Nat) : Int) ((l[4].toNat : Int) * 4294967296) = ((le (l.take (4 + 1)) : Nat) : Int) by
        have hor := or_word (le (l.take 4)) (l[4].toNat) 4 4294967296 (by decide) (take_lt l 4 (by omega)) (by have := l[4].toNat_lt; omega) (by decide)
        rw [← take_at l 4 (by omega)] at hor
        exact hor)
      go_wp2
      go_roundw
      case rel => exact ⟨5, by omega, by go_num, by rw [hX.out], by first | rfl | trivial⟩
      case measure => simp [intOf]
    · have hc := h 5 (by omega)
      (try simp only [Nat.add_zero] at hc)
      have hb : (l[5].toNat : Int) < 256 := by have := l[5].toNat_lt; omega
      have hX := Lib.hid (show bits .or .u64 ((le (l.take 5) : Nat) : Int) ((l[5].toNat : Int) * 1099511627776) = ((le (l.take (5 + 1)) : Nat) : Int) by
        have hor := or_word (le (l.take 5)) (l[5].toNat) 5 1099511627776 (by decide) (take_lt l 5 (by omega)) (by have := l[5].toNat_lt; omega) (by decide)
        rw [← take_at l 5 (by omega)] at hor
        exact hor)
      go_wp2
      go_roundw
      case rel => exact ⟨6, by omega, by go_num, by rw [hX.out], by first | rfl | trivial⟩
      case measure => simp [intOf]
    · have hc := h 6 (by omega)
      (try simp only [Nat.add_zero] at hc)
      have hb : (l[6].toNat : Int) < 256 := by have := l[6].toNat_lt; omega
      have hX := Lib.hid (show bits .or .u64 ((le (l.take 6) : Nat) : Int) ((l[6].toNat : Int) * 281474976710656) = ((le (l.take (6 + 1)) : Nat) : Int) by
        have hor := or_word (le (l.take 6)) (l[6].toNat) 6 281474976710656 (by decide) (take_lt l 6 (by omega)) (by have := l[6].toNat_lt; omega) (by decide)
        rw [← take_at l 6 (by omega)] at hor
        exact hor)
      go_wp2
      go_roundw
      case rel => exact ⟨7, by omega, by go_num, by rw [hX.out], by first | rfl | trivial⟩
      case measure => simp [intOf]
    · have hc := h 7 (by omega)
      (try simp only [Nat.add_zero] at hc)
      have hb : (l[7].toNat : Int) < 256 := by have := l[7].toNat_lt; omega
      have hX := Lib.hid (show bits .or .u64 ((le (l.take 7) : Nat) : Int) ((l[7].toNat : Int) * 72057594037927936) = ((le (l.take (7 + 1)) : Nat) : Int) by
        have hor := or_word (le (l.take 7)) (l[7].toNat) 7 72057594037927936 (by decide) (take_lt l 7 (by omega)) (by have := l[7].toNat_lt; omega) (by decide)
        rw [← take_at l 7 (by omega)] at hor
        exact hor)
      go_wp2
      go_roundw
      case rel => exact ⟨8, by omega, by go_num, by rw [hX.out], by first | rfl | trivial⟩
      case measure => simp [intOf]
    · go_wp2
      go_ret
      exact ⟨rfl, rfl⟩
end Go.Proofs.YtiamkhhnnlgemaaDoor.Sip
