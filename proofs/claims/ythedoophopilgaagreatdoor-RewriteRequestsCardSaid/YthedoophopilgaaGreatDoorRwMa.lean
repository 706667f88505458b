/- awake, as RwM has it (printed out of RwM). -/
import Derived.Test.YthedoophopilgaaGreatDoorRwX
namespace Go.Proofs.YthedoophopilgaaGreatDoor.Rw
open Go.RowKit Go.Proofs.YthedoophopilgaaGreatDoor.Oct
set_option linter.unusedVariables false
def wake : List Fld := [(⟨#[67, 111, 110, 110, 101, 99, 116, 105, 111, 110]⟩, ⟨#[99, 108, 111, 115, 101, 44, 32, 88, 45, 65]⟩), (⟨#[88, 45, 65]⟩, ⟨#[49]⟩), (⟨#[72, 111, 115, 116]⟩, ⟨#[97]⟩)]
theorem wake_hops : hopsP wake = [(⟨#[72, 111, 115, 116]⟩, ⟨#[97]⟩)] := by decide +kernel
theorem wake_bd : ∀ x ∈ wake, x.1.size ≤ 1000 ∧ x.2.size ≤ 1000 := by decide +kernel
set_option maxRecDepth 100000 in
set_option maxHeartbeats 4000000 in
theorem awake_any (w : World) (he : HEnv w) :
    Calls Tryz.prog 4 #[] w fun e w' => e = .returned (.bool true) ∧ Below w.heap.size w w' := by
  have hB := (Below.refl _ w).alloc (Nat.le_refl _) (.cells #[.string ⟨#[67, 111, 110, 110, 101, 99, 116, 105, 111, 110]⟩, .string ⟨#[99, 108, 111, 115, 101, 44, 32, 88, 45, 65]⟩, .string ⟨#[88, 45, 65]⟩, .string ⟨#[49]⟩, .string ⟨#[72, 111, 115, 116]⟩, .string ⟨#[97]⟩] 41)
  have hO : OwnF 41 (w.alloc (.cells #[.string ⟨#[67, 111, 110, 110, 101, 99, 116, 105, 111, 110]⟩, .string ⟨#[99, 108, 111, 115, 101, 44, 32, 88, 45, 65]⟩, .string ⟨#[88, 45, 65]⟩, .string ⟨#[49]⟩, .string ⟨#[72, 111, 115, 116]⟩, .string ⟨#[97]⟩] 41)) w.heap.size (.slice (some ⟨w.heap.size, 0, none⟩) 3 3) wake := World.ownsRow_lit w _ 3 (Nat.le_refl _) (by unfold maxLen; omega) rfl
  have dH := hops_any wake _ _ (he.below hB) hO.fldsB hO.flds (by decide) wake_bd
  rw [wake_hops] at dH
  have dO := fun W h => rewOwn_any W h
  clear hO
  go_enter Tryz.func4, Tryz.ntmps4
  go_wp2_with (first
    | (go_at_call 11; (with_reducible refine dH.mono ?_); rintro e w1 ⟨u1, rfl, ho1, hb1⟩
       obtain ⟨A1, c1, rfl⟩ := row_slice ho1
       have hbB := hB.trans (hb1.mono (by simp))
       have he1 := he.below hbB
       have hf1 := ho1.flds)
    | (go_at_call 12; (with_reducible refine (dO _ he1.toSEnv).mono ?_); rintro e w2 ⟨u2, rs, body, d, rfl, ho2, hb2⟩
       obtain ⟨A2, c2, rfl⟩ := row_slice ho2
       obtain ⟨A', c', hAe, hcc, hr⟩ := hf1.below hb2
       cases hAe
       obtain ⟨b, o, rfl, hlt, hx⟩ := hr (by show 0 < 1; omega)
       have hc0 : w2.cell? ⟨b, o, none⟩ = some (.string ⟨#[72, 111, 115, 116]⟩) := by have := (hx 0 _ rfl).1; rwa [Nat.zero_mul, Nat.add_zero] at this
       clear hx))
  go_ret
  exact ⟨rfl, (hbB.trans (hb2.mono hbB.size)).alloc (by have := hbB.size; have := hb2.size; omega) _⟩
end Go.Proofs.YthedoophopilgaaGreatDoor.Rw
