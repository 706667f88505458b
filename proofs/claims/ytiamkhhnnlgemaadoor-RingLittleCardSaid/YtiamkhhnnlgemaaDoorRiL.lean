/- Build at an opaque key; the fixed fact (printed by genL.py). -/
import Derived.Test.YtiamkhhnnlgemaaDoorRiK
namespace Go.Proofs.YtiamkhhnnlgemaaDoor.Ri
open Go.RowKit Go.Proofs.YtiamkhhnnlgemaaDoor.Sip Go.Proofs.YtiamkhhnnlgemaaDoor.Oct
set_option linter.unusedVariables false
theorem build_ok (K : List UInt8) (hK : K.length = 16) (F : List Ent) (hok : OkR F) (per : Int) (v : Value) (w : World) (hv : Ents w v F) (hT : ∀ x ∈ F, x.1.length ≤ 1000) (he : Env w) :
    Calls Tryd.prog 10 #[.agg (keyV K).toArray, v, .int .i64 per] w fun e w' => Below w.heap.size w w' ∧ ∃ (rb : Nat) (ys : List Pt), e = .returned (.tuple #[.pointer (some ⟨rb, 0, none⟩), .int .i64 0]) ∧ ys.Perm (ptsAll K per F) ∧ SrtP ys ∧ Rng w' rb ys ∧ w.heap.size ≤ rb := by
  obtain ⟨k0, k1, k2, k3, k4, k5, k6, k7, k8, k9, k10, k11, k12, k13, k14, k15, rfl⟩ := list16 hK
  refine (build_ok0 k0 k1 k2 k3 k4 k5 k6 k7 k8 k9 k10 k11 k12 k13 k14 k15 F hok per v w hv hT he).mono ?_
  rintro e w' ⟨rb, ys, h1, h2, h3, h4, h5, h6⟩
  exact ⟨h6, rb, ys, h1, h2, h3, h4, h5⟩
theorem build_no (K : List UInt8) (hK : K.length = 16) (F : List Ent) (hok : ¬ OkR F) (per : Int) (v : Value) (w : World) (hv : Ents w v F) (c2 : F.length ≤ 1024) (hT : ∀ x ∈ F, x.1.length ≤ 1000) :
    Calls Tryd.prog 10 #[.agg (keyV K).toArray, v, .int .i64 per] w fun e w' => Below w.heap.size w w' ∧ e = .returned (.tuple #[.pointer none, .int .i64 1]) := by
  obtain ⟨k0, k1, k2, k3, k4, k5, k6, k7, k8, k9, k10, k11, k12, k13, k14, k15, rfl⟩ := list16 hK
  have dC := fun W h => check_any F v W h c2 (fun x hx => by have := hT x hx; omega)
  rw [errR_1 hok] at dC
  have hb1 := (Below.refl _ w).alloc (Nat.le_refl _) (.cells #[.int .u8 (k0.toNat : Int), .int .u8 (k1.toNat : Int), .int .u8 (k2.toNat : Int), .int .u8 (k3.toNat : Int), .int .u8 (k4.toNat : Int), .int .u8 (k5.toNat : Int), .int .u8 (k6.toNat : Int), .int .u8 (k7.toNat : Int), .int .u8 (k8.toNat : Int), .int .u8 (k9.toNat : Int), .int .u8 (k10.toNat : Int), .int .u8 (k11.toNat : Int), .int .u8 (k12.toNat : Int), .int .u8 (k13.toNat : Int), .int .u8 (k14.toNat : Int), .int .u8 (k15.toNat : Int)] 26)
  have hv1 := hv.below hb1
  show Calls Tryd.prog 10 #[.agg #[.int .u8 (k0.toNat : Int), .int .u8 (k1.toNat : Int), .int .u8 (k2.toNat : Int), .int .u8 (k3.toNat : Int), .int .u8 (k4.toNat : Int), .int .u8 (k5.toNat : Int), .int .u8 (k6.toNat : Int), .int .u8 (k7.toNat : Int), .int .u8 (k8.toNat : Int), .int .u8 (k9.toNat : Int), .int .u8 (k10.toNat : Int), .int .u8 (k11.toNat : Int), .int .u8 (k12.toNat : Int), .int .u8 (k13.toNat : Int), .int .u8 (k14.toNat : Int), .int .u8 (k15.toNat : Int)], v, .int .i64 per] w _
  go_enter Tryd.func10, Tryd.ntmps10
  go_wp2_with (go_at_call 22; refine (dC _ hv1).mono ?_; rintro e w2 ⟨rfl, hb2⟩)
  go_ret2
  exact ⟨hb1.trans (hb2.mono hb1.size), rfl⟩
theorem pick_mem {ps : List Pt} {x : Int} {n : List UInt8} (h : ∀ p ∈ ps, p.2 = n) (h0 : 0 < ps.length) : pickS ps x = n := by
  have hl : (roundL ps (fromN ps x)).length = ps.length := by
    rcases fromN_lt ps x with e | e
    · subst e; simp at h0
    · exact round_len _ _ (by omega)
  unfold pickS
  rw [List.getElem?_eq_getElem (by omega)]
  have hm : (roundL ps (fromN ps x))[0]'(by omega) ∈ roundL ps (fromN ps x) := List.getElem_mem _
  show ((roundL ps (fromN ps x))[0]'(by omega)).2 = n
  refine h _ ?_
  unfold roundL at hm
  rcases List.mem_append.1 hm with h1 | h1
  · exact List.mem_of_mem_drop h1
  · exact List.mem_of_mem_take h1
def oneR : List Ent := [([97], 3)]
theorem okOne : OkR oneR := ⟨by decide, by intro x hx; rw [List.mem_singleton.1 hx]; decide, by simp [oneR]⟩
theorem ptsOne (K : List UInt8) : ptsAll K 4 oneR = (List.range 4).map (ptOf K [97]) := rfl
theorem awake_calls (K : List UInt8) (ys : List Pt) (rb : Nat) (hp : ys.Perm (ptsAll K 4 oneR)) (hs : SrtP ys) : ys.length = 4 ∧ pickS ys 0 = [97] ∧ pickS ys 9223372036854775808 = [97] := by
  rw [ptsOne] at hp
  have hl : ys.length = 4 := by rw [hp.length_eq]; rfl
  have hm : ∀ p ∈ ys, p.2 = [97] := fun p h => by
    obtain ⟨i, _, rfl⟩ := List.mem_map.1 (hp.mem_iff.1 h); rfl
  exact ⟨hl, pick_mem hm (by omega), pick_mem hm (by omega)⟩
set_option maxRecDepth 100000 in
set_option maxHeartbeats 4000000 in
theorem awake_any (w : World) (he : Env w) : Calls Tryd.prog 7 #[] w fun e w' => e = .returned (.bool true) ∧ Below w.heap.size w w' := by
  have dK := keyOf_any [107] w
  have hKl := keyL_len [107]
  generalize keyL [107] = K at *
  go_enter Tryd.func7, Tryd.ntmps7
  go_wp2_with (go_at_call 9; refine dK.mono ?_; rintro e w1 ⟨rfl, hb1⟩)
  have hE : Ents (w1.alloc (.cells #[.string ⟨#[97]⟩, .int .i64 3] 58)) (.slice (some ⟨w1.heap.size, 0, none⟩) 1 1) oneR := ⟨_, 1, rfl, Nat.le_refl _, fun _ => ⟨w1.heap.size, 0, rfl, by simp, fun j x hj => by
    match j, hj with
    | 0, hj => cases hj; exact new_two w1 _ _ _⟩⟩
  have hb2 := hb1.alloc hb1.size (.cells #[.string ⟨#[97]⟩, .int .i64 3] 58)
  have dB := build_ok K hKl oneR okOne 4 _ _ hE (by intro x hx; rw [List.mem_singleton.1 hx]; decide) (he.below hb2)
  generalize w1.alloc (.cells #[.string ⟨#[97]⟩, .int .i64 3] 58) = w2 at *
  have dP := Lib.hid (awake_calls K)
  go_wp2_with (first
    | (go_at_call 10; refine dB.mono ?_; rintro e w3 ⟨hb3, rb, ys, rfl, hp, hs, hR, htb⟩; obtain ⟨hl4, hpk0, hpk1⟩ := dP.out ys rb hp hs; have dL := len_any ys rb w3 hR; rw [hl4] at dL; have dP3 := fun W h => pick_any ys hs 0 rb W h (by omega); rw [hpk0, show mk [97] = ⟨#[97]⟩ from rfl] at dP3; have dP4 := fun W h => pick_any ys hs 9223372036854775808 rb W h (by omega); rw [hpk1, show mk [97] = ⟨#[97]⟩ from rfl] at dP4; clear hl4 hpk0 hpk1)
    | (go_at_call 14; refine dL.mono ?_; rintro e w4 ⟨rfl, rfl⟩)
    | (go_at_call 17; (with_reducible refine (dP3 _ hR).mono ?_); rintro e w5 ⟨rfl, hb5⟩)
    | (go_at_call 17; (with_reducible refine (dP4 _ (hR.below hb5)).mono ?_); rintro e w6 ⟨rfl, hb6⟩))
  go_ret
  exact ⟨rfl, bt (bt (bt hb2 hb3) hb5) hb6⟩
end Go.Proofs.YtiamkhhnnlgemaaDoor.Ri
