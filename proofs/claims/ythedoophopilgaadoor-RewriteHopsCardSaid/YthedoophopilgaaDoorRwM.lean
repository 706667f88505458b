/- The law of RewriteHops. -/
import Derived.Test.YthedoophopilgaaDoorRwL
namespace Go.Proofs.YthedoophopilgaaDoor.Rw
open Go.RowKit Go.Proofs.YthedoophopilgaaDoor.Oct
set_option linter.unusedVariables false
def wake : List Fld := [(⟨#[67, 111, 110, 110, 101, 99, 116, 105, 111, 110]⟩, ⟨#[99, 108, 111, 115, 101, 44, 32, 88, 45, 65]⟩), (⟨#[88, 45, 65]⟩, ⟨#[49]⟩), (⟨#[72, 111, 115, 116]⟩, ⟨#[97]⟩)]
theorem wake_hops : hopsP wake = [(⟨#[72, 111, 115, 116]⟩, ⟨#[97]⟩)] := by decide +kernel
theorem wake_bd : ∀ x ∈ wake, x.1.size ≤ 1000 ∧ x.2.size ≤ 1000 := by decide +kernel
set_option maxRecDepth 100000 in
set_option maxHeartbeats 4000000 in
theorem awake_any (w : World) (he : HEnv w) :
    Calls Tryd.prog 4 #[] w fun e w' => e = .returned (.bool true) ∧ Below w.heap.size w w' := by
  have hB := (Below.refl _ w).alloc (Nat.le_refl _) (.cells #[.string ⟨#[67, 111, 110, 110, 101, 99, 116, 105, 111, 110]⟩, .string ⟨#[99, 108, 111, 115, 101, 44, 32, 88, 45, 65]⟩, .string ⟨#[88, 45, 65]⟩, .string ⟨#[49]⟩, .string ⟨#[72, 111, 115, 116]⟩, .string ⟨#[97]⟩] 33)
  have hO : OwnF 33 (w.alloc (.cells #[.string ⟨#[67, 111, 110, 110, 101, 99, 116, 105, 111, 110]⟩, .string ⟨#[99, 108, 111, 115, 101, 44, 32, 88, 45, 65]⟩, .string ⟨#[88, 45, 65]⟩, .string ⟨#[49]⟩, .string ⟨#[72, 111, 115, 116]⟩, .string ⟨#[97]⟩] 33)) w.heap.size (.slice (some ⟨w.heap.size, 0, none⟩) 3 3) wake := World.ownsRow_lit w _ 3 (Nat.le_refl _) (by unfold maxLen; omega) rfl
  have dH := hops_any wake _ _ (he.below hB) hO.fldsB hO.flds (by decide) wake_bd
  rw [wake_hops] at dH
  have dO := fun W h => rewOwn_any W h
  clear hO
  go_enter Tryd.func4, Tryd.ntmps4
  go_wp2_with (first
    | (go_at_call 7; (with_reducible refine dH.mono ?_); rintro e w1 ⟨u1, rfl, ho1, hb1⟩
       obtain ⟨A1, c1, rfl⟩ := row_slice ho1
       have hbB := hB.trans (hb1.mono (by simp))
       have he1 := he.below hbB
       have hf1 := ho1.flds)
    | (go_at_call 10; (with_reducible refine (dO _ he1.toSEnv).mono ?_); rintro e w2 ⟨u2, rs, body, d, rfl, ho2, hb2⟩
       obtain ⟨A2, c2, rfl⟩ := row_slice ho2
       obtain ⟨A', c', hAe, hcc, hr⟩ := hf1.below hb2
       cases hAe
       obtain ⟨b, o, rfl, hlt, hx⟩ := hr (by show 0 < 1; omega)
       have hc0 : w2.cell? ⟨b, o, none⟩ = some (.string ⟨#[72, 111, 115, 116]⟩) := by have := (hx 0 _ rfl).1; rwa [Nat.zero_mul, Nat.add_zero] at this
       clear hx))
  go_ret
  exact ⟨rfl, (hbB.trans (hb2.mono hbB.size)).alloc (by have := hbB.size; have := hb2.size; omega) _⟩
set_option maxRecDepth 100000 in
set_option maxHeartbeats 4000000 in
theorem hops_law (xs : List Fld) (v : Value) (w : World) (he : HEnv w) (hv : Flds w v xs) (hN : xs.length ≤ 140737488355328) :
    Calls Tryd.prog 3 #[v] w fun e w' => e = .returned (.bool true) ∧ Below w.heap.size w w' := by
  have dA := awake_any w he
  have dF : ∀ W, Flds W v xs → Calls Tryd.prog 5 #[v, .int .i64 12] W fun e w' => ∃ u, e = .returned u ∧ OwnF 40 w' W.heap.size u (fewF 12 xs) ∧ Below W.heap.size W w' := fun W h => few_any 12 (by omega) xs v W h hN
  have hl := few_len 12 xs
  have hS : ∀ x ∈ fewF 12 xs, x.1.size ≤ 1000 ∧ x.2.size ≤ 1000 := fun x hx => by have := few_mem hx; omega
  generalize fewF 12 xs = F at *
  have dO := fun v W h => own_any F v W h (by omega)
  have dH := fun v W h1 h2 h3 => hops_any F v W h1 h2 h3 (by omega) hS
  have dR := fun v W h => refHops_any F v W h (by omega) hS
  have dI := fun va vb W ha hb => isL_any (hopsP F) (hopsR F) va vb W ha hb (by have h1 := drop_le (dropF F hopN) (namedP F); have h2 := drop_le F hopN; unfold hopsP; omega)
  rw [decide_eq_true (hops_eq F)] at dI
  go_enter Tryd.func3, Tryd.ntmps3
  go_wp2_with (first
    | (go_at_call 4; (with_reducible refine dA.mono ?_); rintro e w1 ⟨rfl, hb1⟩)
    | (go_at_call 5; (with_reducible refine (dF _ (hv.below hb1)).mono ?_); rintro e w2 ⟨u2, rfl, ho2, hb2⟩; have t2 := hb1.trans (hb2.mono hb1.size))
    | (go_at_call 8; (with_reducible refine (dO _ _ ho2.flds).mono ?_); rintro e w3 ⟨u3, rfl, ho3, hb3⟩; have t3 := t2.trans (hb3.mono t2.size))
    | (go_at_call 7; (with_reducible refine (dH _ _ (he.below t3) ho3.fldsB ho3.flds).mono ?_); rintro e w4 ⟨u4, rfl, ho4, hb4⟩; have t4 := t3.trans (hb4.mono t3.size); have hf2 := (ho2.flds.below hb3).below hb4)
    | (go_at_call 9; (with_reducible refine (dR _ _ hf2).mono ?_); rintro e w5 ⟨u5, rfl, ho5, hb5⟩; have t5 := t4.trans (hb5.mono t4.size))
    | (go_at_call 6; (with_reducible refine (dI _ _ _ (ho4.flds.below hb5) ho5.flds).mono ?_); rintro e w6 ⟨rfl, hb6⟩))
  go_ret
  exact ⟨rfl, t5.trans (hb6.mono t5.size)⟩
end Go.Proofs.YthedoophopilgaaDoor.Rw
