/- Plain laws of the ramp's weight: numbers alone, no program. -/
import Derived.RowKit
namespace Go.Proofs.Ytfhhifjfjgekjaa.RampLaw
open Go.RowKit

/-- The weight behind g ticks. -/
def R (w sl g : Int) : Int := if sl = 0 ∨ sl ≤ g then w else max 1 (w * max 0 g / sl)

theorem R_le {w sl g : Int} (hw : 1 ≤ w) (hs : 0 ≤ sl) : R w sl g ≤ w := by
  unfold R
  split
  · exact Int.le_refl _
  · rename_i h
    have h1 : 0 < sl := by omega
    have h2 : max 0 g ≤ sl := by omega
    have h3 : w * max 0 g ≤ w * sl := Int.mul_le_mul_of_nonneg_left h2 (by omega)
    have h4 : w * max 0 g / sl ≤ w := Int.ediv_le_of_le_mul h1 (by simpa [Int.mul_comm] using h3)
    omega

theorem R_ge {w sl g : Int} (hw : 1 ≤ w) : 1 ≤ R w sl g := by
  unfold R
  split
  · exact hw
  · omega

theorem R_mono {w sl g g' : Int} (hw : 1 ≤ w) (hs : 0 ≤ sl) (h : g ≤ g') : R w sl g ≤ R w sl g' := by
  by_cases h0 : sl = 0 ∨ sl ≤ g'
  · have e : R w sl g' = w := by unfold R; rw [if_pos h0]
    rw [e]; exact R_le hw hs
  · have h1 : ¬ (sl = 0 ∨ sl ≤ g) := by omega
    have h2 : 0 < sl := by omega
    have h3 : max 0 g ≤ max 0 g' := by omega
    have h4 : w * max 0 g ≤ w * max 0 g' := Int.mul_le_mul_of_nonneg_left h3 (by omega)
    have h5 : w * max 0 g / sl ≤ w * max 0 g' / sl := Int.ediv_le_ediv h2 h4
    unfold R
    rw [if_neg h0, if_neg h1]
    omega

theorem R_whole {w sl g : Int} (h : sl ≤ g) : R w sl g = w := by unfold R; rw [if_pos (Or.inr h)]

/-- The next tick at which the weight is another one. -/
def ticks (w sl has : Int) : Int := ((has + 1) * sl + w - 1) / w

theorem ticks_at {w sl g : Int} (hw : 1 ≤ w) (hs : 0 ≤ sl) (hne : R w sl g ≠ w) : R w sl (min (ticks w sl (R w sl g)) sl) ≠ R w sl g ∧ g < min (ticks w sl (R w sl g)) sl ∧ ∀ x, g ≤ x → x < min (ticks w sl (R w sl g)) sl → R w sl x = R w sl g := by
  have hlt : R w sl g < w := by have := R_le (g := g) hw hs; omega
  have h1 : ¬ (sl = 0 ∨ sl ≤ g) := fun h => hne (by unfold R; rw [if_pos h])
  have hsl : 0 < sl := by omega
  have hge := R_ge (sl := sl) (g := g) hw
  generalize hh : R w sl g = has at *
  -- the product at ticks is as great as wanted, and ahead of it is not
  have ht1 : (has + 1) * sl ≤ w * ticks w sl has := by
    unfold ticks
    have := Int.lt_mul_ediv_self_add (x := (has + 1) * sl + w - 1) (k := w) (by omega)
    omega
  have ht2 : ∀ x, x < ticks w sl has → w * x < (has + 1) * sl := by
    intro x hx
    unfold ticks at hx
    have h2 : w * (((has + 1) * sl + w - 1) / w) ≤ (has + 1) * sl + w - 1 := Int.mul_ediv_self_le (by omega)
    have h3 : w * (x + 1) ≤ w * (((has + 1) * sl + w - 1) / w) := Int.mul_le_mul_of_nonneg_left (by omega) (by omega)
    have h4 : w * (x + 1) = w * x + w := by rw [Int.mul_add, Int.mul_one]
    omega
  have hpos : 0 < ticks w sl has := by
    have h5 : 0 < (has + 1) * sl := Int.mul_pos (by omega) hsl
    have h6 : 0 < w * ticks w sl has := by omega
    rcases Int.lt_or_le 0 (ticks w sl has) with h7 | h7
    · exact h7
    · have : w * ticks w sl has ≤ w * 0 := Int.mul_le_mul_of_nonneg_left h7 (by omega)
      omega
  have hlow : ∀ x, g ≤ x → x < min (ticks w sl has) sl → R w sl x = has := by
    intro x hx1 hx2
    have hm := R_mono (w := w) (sl := sl) hw hs hx1
    rw [hh] at hm
    have h8 : ¬ (sl = 0 ∨ sl ≤ x) := by omega
    have h9 : w * max 0 x < (has + 1) * sl := ht2 _ (by omega)
    have h10 : w * max 0 x / sl < has + 1 := Int.ediv_lt_of_lt_mul hsl h9
    unfold R at hm ⊢
    rw [if_neg h8] at hm ⊢
    omega
  have hat : R w sl (min (ticks w sl has) sl) ≠ has := by
    intro he
    rcases Int.lt_or_le (ticks w sl has) sl with h11 | h11
    · rw [Int.min_eq_left (by omega)] at he
      unfold R at he
      rw [if_neg (by omega)] at he
      have h12 : has + 1 ≤ w * max 0 (ticks w sl has) / sl := by
        rw [Int.max_eq_right (by omega)]
        exact (Int.le_ediv_iff_mul_le hsl).2 ht1
      omega
    · rw [Int.min_eq_right h11, R_whole (Int.le_refl _)] at he
      omega
  refine ⟨hat, ?_, hlow⟩
  rcases Int.lt_or_le g (min (ticks w sl has) sl) with h13 | h13
  · exact h13
  · exfalso
    have h14 := R_mono (w := w) (sl := sl) hw hs h13
    rw [hh] at h14
    rcases Int.lt_or_le (ticks w sl has) sl with h11 | h11
    · rw [Int.min_eq_left (by omega)] at h14
      unfold R at h14
      rw [if_neg (by omega)] at h14
      have h12 : has + 1 ≤ w * max 0 (ticks w sl has) / sl := by
        rw [Int.max_eq_right (by omega)]
        exact (Int.le_ediv_iff_mul_le hsl).2 ht1
      omega
    · omega

end Go.Proofs.Ytfhhifjfjgekjaa.RampLaw
