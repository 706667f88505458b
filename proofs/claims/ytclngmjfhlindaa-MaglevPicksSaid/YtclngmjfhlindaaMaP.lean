/- The table, as a plain law: rows of places, and who gets which. No program. -/
import Derived.Test.YtclngmjfhlindaaMaA
namespace Go.Proofs.Ytclngmjfhlindaa.Ma
/-- No injection from n + 1 numbers into n. -/
theorem php : ∀ (n : Nat) (g : Nat → Nat), (∀ k, k < n + 1 → g k < n) → ∃ a b, a < b ∧ b < n + 1 ∧ g a = g b
  | 0, g, h => absurd (h 0 (by omega)) (by omega)
  | n + 1, g, h => by
    by_cases hx : ∃ k, k < n + 1 ∧ g k = g (n + 1)
    · obtain ⟨k, hk, e⟩ := hx
      exact ⟨k, n + 1, hk, by omega, e⟩
    · have hne : ∀ k, k < n + 1 → g k ≠ g (n + 1) := fun k hk e => hx ⟨k, hk, e⟩
      obtain ⟨a, b, hab, hb, e⟩ := php n (fun k => if g k < g (n + 1) then g k else g k - 1) (fun k hk => by
        have h1 := h k (by omega)
        have h2 := h (n + 1) (by omega)
        have h3 := hne k hk
        show (if g k < g (n + 1) then g k else g k - 1) < n
        split <;> omega)
      refine ⟨a, b, hab, by omega, ?_⟩
      have ha := hne a (by omega)
      have hb' := hne b hb
      split at e <;> split at e <;> omega
theorem onto {n : Nat} {g : Nat → Nat} (h : ∀ k, k < n → g k < n) (hi : ∀ a b, a < b → b < n → g a ≠ g b) (y : Nat) (hy : y < n) : ∃ k, k < n ∧ g k = y := by
  refine Classical.byContradiction fun hx => ?_
  obtain ⟨m, rfl⟩ : ∃ m, n = m + 1 := ⟨n - 1, by omega⟩
  have hne : ∀ k, k < m + 1 → g k ≠ y := fun k hk e => hx ⟨k, hk, e⟩
  obtain ⟨a, b, hab, hb, e⟩ := php m (fun k => if g k < y then g k else g k - 1) (fun k hk => by
    have h1 := h k hk
    have h3 := hne k hk
    show (if g k < y then g k else g k - 1) < m
    split <;> omega)
  refine hi a b hab hb ?_
  have ha := hne a (by omega)
  have hb' := hne b hb
  split at e <;> split at e <;> omega
theorem prime_div {m : Nat} (hp : IsP (m : Int)) (d : Nat) (hd : d ∣ m) : d = 1 ∨ d = m := by
  have h2 : 2 ≤ m := by have := hp.1; omega
  have hno := hp.2.2
  rw [Int.toNat_natCast] at hno
  obtain ⟨e, he⟩ := hd
  by_cases h1 : d = 1
  · exact .inl h1
  · by_cases h3 : e = 1
    · exact .inr (by rw [he, h3, Nat.mul_one])
    · have hd0 : d ≠ 0 := by rintro rfl; omega
      have he0 : e ≠ 0 := by rintro rfl; omega
      by_cases hle : d ≤ e
      · exact absurd (Nat.mod_eq_zero_of_dvd ⟨e, he⟩) (hno d (by omega) (by rw [he]; exact Nat.mul_le_mul_left d hle))
      · exact absurd (Nat.mod_eq_zero_of_dvd ⟨d, by rw [he, Nat.mul_comm]⟩) (hno e (by omega) (by rw [he]; exact Nat.mul_le_mul_right e (by omega)))
theorem prime_mul {m a s : Nat} (hp : IsP (m : Int)) (hs1 : 1 ≤ s) (hs : s < m) (h : m ∣ a * s) : m ∣ a := by
  have hg : Nat.gcd m s = 1 := by
    rcases prime_div hp _ (Nat.gcd_dvd_left m s) with h1 | h1
    · exact h1
    · have := Nat.le_of_dvd (by omega) (Nat.gcd_dvd_right m s)
      omega
  exact Nat.Coprime.dvd_of_dvd_mul_right hg h
/-- A row: its first place, its step, its weight. -/
structure Rw where
  f : Nat
  s : Nat
  w : Int
def pos (m : Nat) (r : Rw) (k : Nat) : Nat := (r.f + k * r.s) % m
theorem pos_succ (m : Nat) (r : Rw) (k : Nat) : pos m r (k + 1) = (pos m r k + r.s) % m := by
  unfold pos
  rw [Nat.add_mul, Nat.one_mul, ← Nat.add_assoc, Nat.mod_add_mod]
theorem pos_inj {m : Nat} {r : Rw} (hp : IsP (m : Int)) (hs1 : 1 ≤ r.s) (hs : r.s < m) (a b : Nat) (hab : a < b) (hb : b < m) : pos m r a ≠ pos m r b := by
  intro e
  unfold pos at e
  have h1 : m ∣ (r.f + b * r.s) - (r.f + a * r.s) := Nat.dvd_of_mod_eq_zero (Nat.sub_mod_eq_zero_of_mod_eq e.symm)
  have h2 : (r.f + b * r.s) - (r.f + a * r.s) = (b - a) * r.s := by rw [Nat.sub_mul]; omega
  rw [h2] at h1
  have := Nat.le_of_dvd (by omega) (prime_mul hp hs1 hs h1)
  omega
theorem pos_onto {m : Nat} {r : Rw} (hp : IsP (m : Int)) (hs1 : 1 ≤ r.s) (hs : r.s < m) (y : Nat) (hy : y < m) : ∃ k, k < m ∧ pos m r k = y :=
  onto (g := pos m r) (fun k _ => Nat.mod_lt _ (by omega)) (fun a b hab hb => pos_inj hp hs1 hs a b hab hb) y hy
end Go.Proofs.Ytclngmjfhlindaa.Ma
