/- rewrite.forwarded, rewrite.sized, rewrite.Request. -/
import Derived.Test.YthedoophopilgaaGreatDoorRwV
namespace Go.Proofs.YthedoophopilgaaGreatDoor.Rw
open Go.RowKit Go.Proofs.YthedoophopilgaaGreatDoor.Oct
set_option linter.unusedVariables false
theorem join2_any (xs : List ByteArray) (v : Value) (w : World) (hv : Strs w v xs) (hN : xs.length ≤ 140737488355328) (hlen : (Lib.join (xs.map (·.data.toList)) [44, 32]).length ≤ 140737488355328) :
    Calls Tryz.prog 31 #[v, .string ⟨#[44, 32]⟩] w fun e w' => e = .returned (.string ⟨(Lib.join (xs.map (·.data.toList)) [44, 32]).toArray⟩) ∧ Below w.heap.size w w' := by
  obtain ⟨A, c, rfl, hc, hr⟩ := hv
  by_cases hp : 0 < xs.length
  · obtain ⟨b, o, rfl, hlt, hx⟩ := hr hp
    exact Tryz.strings_Join b o c xs ⟨#[44, 32]⟩ w hx hlt hN hc hlen
  · have hx : xs = [] := List.length_eq_zero_iff.1 (by omega)
    subst hx
    exact (Tryz.strings_Join_none A c ⟨#[44, 32]⟩ w).mono fun e w' ⟨h1, h2⟩ => ⟨by rw [h1]; rfl, by rw [h2]; exact Below.refl _ _⟩
theorem join2_len (m : Nat) : ∀ l : List (List UInt8), (∀ x ∈ l, x.length ≤ m) → (Lib.join l [44, 32]).length ≤ l.length * (m + 2)
  | [], _ => by simp [Lib.join]
  | [x], h => by have := h x (by simp); simp [Lib.join]; omega
  | x :: y :: r, h => by
    have ih := join2_len m (y :: r) (fun z hz => h z (by simp at hz ⊢; exact .inr hz))
    have hx := h x (by simp)
    rw [show Lib.join (x :: y :: r) [44, 32] = x ++ [44, 32] ++ Lib.join (y :: r) [44, 32] from by simp [Lib.join]]
    simp only [List.length_append, List.length_cons, List.length_nil, Nat.add_mul] at ih ⊢
    omega
set_option maxRecDepth 100000 in
set_option maxHeartbeats 4000000 in
theorem fwd_any (xs : List Fld) (cl : ByteArray) (v : Value) (w : World) (hF : FldsB w v xs) (hf : Flds w v xs) (hN : xs.length ≤ 100) (hS : ∀ x ∈ xs, x.1.size ≤ 1000 ∧ x.2.size ≤ 1000) (hcl : cl.size ≤ 1000) :
    Calls Tryz.prog 15 #[v, .string cl] w fun e w' => ∃ u, e = .returned u ∧ OwnF 41 w' w.heap.size u (setP xs xffS (fwdV xs cl)) ∧ Below w.heap.size w w' := by
  obtain ⟨i0, hi, hz0, hz1, hz2⟩ := info_parts info9
  have hX : ∀ x ∈ xs, x.1.size ≤ 1000000 := fun x hx => by have := (hS x hx).1; omega
  have dA := all_any xs xffS (by decide) v w hf (by omega) (fun x hx => by have := (hS x hx).1; unfold maxLen; omega)
  have hal := all_le xs xffS
  have hbd := all_bd xs xffS 1000 (fun x hx => (hS x hx).2)
  have hjl : (Lib.join ((allF xs xffS ++ [cl]).map (·.data.toList)) [44, 32]).length ≤ 140737488355328 := by
    have h := join2_len 1000 ((allF xs xffS ++ [cl]).map (·.data.toList)) (fun x hx => by
      obtain ⟨y, hy, rfl⟩ := List.mem_map.1 hx
      rcases List.mem_append.1 hy with h | h
      · have := hbd y h; simpa using this
      · rw [List.mem_singleton.1 h]; simpa using hcl)
    rw [List.length_map, List.length_append] at h
    simp only [List.length_cons, List.length_nil] at h
    omega
  have hll : (allF xs xffS ++ [cl]).length = (allF xs xffS).length + 1 := by rw [List.length_append]; rfl
  have dJ := fun u W h => join2_any (allF xs xffS ++ [cl]) u W h (by rw [hll]; omega) hjl
  have hV := Lib.hid (show fwdV xs cl = ⟨(Lib.join ((allF xs xffS ++ [cl]).map (·.data.toList)) [44, 32]).toArray⟩ from rfl)
  have hm : (allF xs xffS ++ [cl]).map Value.string = (allF xs xffS).map Value.string ++ [.string cl] := by rw [List.map_append]; rfl
  have hmh := Lib.hid hm
  have hllh := Lib.hid hll
  have dS := fun val W h1 h2 => set_any xs hX xffS val (by decide) v W h1 h2 (by omega)
  rw [← hV.out] at dJ
  clear hbd hjl hm hll hV
  generalize fwdV xs cl = FV at *
  generalize allF xs xffS ++ [cl] = AC at *
  generalize allF xs xffS = AL at *
  have dS1 := dS FV
  generalize setP xs xffS FV = R at *
  unfold xffS at dA dS1
  clear dS
  obtain ⟨A, c, rfl⟩ := fldsB_slice hF
  go_enter Tryz.func15, Tryz.ntmps15
  go_wp2_with (first
    | (go_at_call 32; (with_reducible refine dA.mono ?_); rintro e w1 ⟨u1, rfl, ho1, hb1⟩; unfold OwnStrs at ho1)
    | (at_builtin; refine wpList_append_own _ rfl _ _ 53 rfl w.heap.size 9 i0 (.string ⟨#[]⟩) 1 16 Tryz.underlying53 hi hz0 hz1 hz2 rfl (by decide) _ _ _ rfl (ho1.alloc _) ⟨_, 0, none⟩ 1 1 [.string cl] rfl rfl (cell_one_new _ _ _) (by simp [Value.oneCell']) (by unfold maxLen; omega) (by omega) (by have := hb1.size; simp; omega) ?_; intro v' w2 hown2 hgrow2 _
       have hb2 : Below w.heap.size w w2 := grow_low (hb1.alloc hb1.size _) (by have := hb1.size; simp; omega) hgrow2 (fun b e => (ho1.lt b e).1)
       have hs2 : OwnStrs w2 w.heap.size v' AC := by unfold OwnStrs; rw [hmh.out, hllh.out]; exact hown2
       have hst2 := hs2.strs
       have hF2 := hF.below hb2
       have hf2 := hf.below hb2)
    | (go_at_call 31; (with_reducible refine (dJ _ _ hst2).mono ?_); rintro e w3 ⟨rfl, hb3⟩; have t3 := hb2.trans (hb3.mono hb2.size))
    | (go_at_call 30; (with_reducible refine (dS1 _ (hF2.below hb3) (hf2.below hb3)).mono ?_); rintro e w4 ⟨u4, rfl, ho4, hb4⟩))
  go_ret
  exact ⟨_, rfl, own_lower ho4 t3.size, t3.trans (hb4.mono t3.size)⟩
set_option maxRecDepth 100000 in
set_option maxHeartbeats 4000000 in
theorem sized_any (xs : List Fld) (b : ByteArray) (hb : b.size ≤ 1000000) (v : Value) (w : World) (he : Env w) (hF : FldsB w v xs) (hf : Flds w v xs) (hN : xs.length ≤ 1000) (hX : ∀ x ∈ xs, x.1.size ≤ 1000000) :
    Calls Tryz.prog 17 #[v, .string b] w fun e w' => ∃ u, e = .returned u ∧ OwnF 41 w' w.heap.size u (setP xs clenN (decS b.size)) ∧ Below w.heap.size w w' := by
  have dD := fun W h => digits_any (b.size : Int) (by omega) W h
  have dS := fun val W h1 h2 => set_any xs hX clenN val (by decide) v W h1 h2 (by omega)
  generalize decS (b.size : Int) = DS at *
  have dS1 := dS DS
  generalize setP xs clenN DS = R at *
  unfold clenN at dS1
  clear dS
  obtain ⟨A, c, rfl⟩ := fldsB_slice hF
  go_enter Tryz.func17, Tryz.ntmps17
  go_wp2_with (first
    | (go_at_call 34; (with_reducible refine (dD _ he).mono ?_); rintro e w3 ⟨rfl, hb3⟩)
    | (go_at_call 30; (with_reducible refine (dS1 _ (hF.below hb3) (hf.below hb3)).mono ?_); rintro e w4 ⟨u4, rfl, ho4, hb4⟩))
  go_ret
  exact ⟨_, rfl, own_lower ho4 hb3.size, hb3.trans (hb4.mono hb3.size)⟩
end Go.Proofs.YthedoophopilgaaGreatDoor.Rw
