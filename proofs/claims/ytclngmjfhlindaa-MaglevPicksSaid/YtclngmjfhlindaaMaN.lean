/- Build at an opaque key; the fixed fact. -/
import Derived.Test.YtclngmjfhlindaaMaM
namespace Go.Proofs.Ytclngmjfhlindaa.Ma
open Go.RowKit Go.Proofs.Ytclngmjfhlindaa.Sip
set_option linter.unusedVariables false
/-- One after the other. -/
theorem bt {a b c : World} (h : Below a.heap.size a b) (k : Below b.heap.size b c) : Below a.heap.size a c := h.trans (k.mono h.size)
theorem build_ok (K : List UInt8) (hK : K.length = 16) (xs : List Ent) (m : Nat) (hok : OkM xs (m : Int)) (v : Value) (w : World) (hv : Ents w v xs) (hT : ∀ x ∈ xs, x.1.length ≤ 1000) :
    Calls Try.prog 10 #[.agg (K.map u8V).toArray, v, .int .i64 m] w fun e w' => Below w.heap.size w w' ∧ ∃ (ys : List Ent) (tb : Nat), ys.Perm xs ∧ Srt ys ∧ e = .returned (.tuple #[.pointer (some ⟨tb, 0, none⟩), .int .i64 0]) ∧ w.heap.size ≤ tb ∧ Tab w' tb (ys.map Prod.fst) (plc K ys m) ∧ OkM ys (m : Int) := by
  obtain ⟨k0, k1, k2, k3, k4, k5, k6, k7, k8, k9, k10, k11, k12, k13, k14, k15, rfl⟩ := list16 hK
  refine (build_any k0 k1 k2 k3 k4 k5 k6 k7 k8 k9 k10 k11 k12 k13 k14 k15 xs (m : Int) v w hv (by have := hok.2.2.1; omega) hT).mono ?_
  rintro e w' ⟨hb, ⟨h0, _⟩ | ⟨_, ys, tb, h1, h2, h3, h4, h5⟩⟩
  · rw [errM_0 hok] at h0; cases h0
  · refine ⟨hb, ys, tb, h1, h2, h3, h4, h5, hok.1, ?_, ?_, ?_, ?_⟩
    · rw [h1.length_eq]; exact hok.2.1
    · rw [h1.length_eq]; exact hok.2.2.1
    · exact fun x hx => hok.2.2.2.1 x (h1.mem_iff.1 hx)
    · exact (h1.map Prod.fst).nodup_iff.2 hok.2.2.2.2
theorem build_no (K : List UInt8) (hK : K.length = 16) (xs : List Ent) (m : Int) (hok : ¬ OkM xs m) (v : Value) (w : World) (hv : Ents w v xs) (hN : xs.length ≤ 1000000) (hT : ∀ x ∈ xs, x.1.length ≤ 1000) :
    Calls Try.prog 10 #[.agg (K.map u8V).toArray, v, .int .i64 m] w fun e w' => Below w.heap.size w w' ∧ e = .returned (.tuple #[.pointer none, .int .i64 1]) := by
  obtain ⟨k0, k1, k2, k3, k4, k5, k6, k7, k8, k9, k10, k11, k12, k13, k14, k15, rfl⟩ := list16 hK
  refine (build_any k0 k1 k2 k3 k4 k5 k6 k7 k8 k9 k10 k11 k12 k13 k14 k15 xs m v w hv hN hT).mono ?_
  rintro e w' ⟨hb, ⟨_, h0⟩ | ⟨h0, _⟩⟩
  · exact ⟨hb, h0⟩
  · rw [errM_1 hok] at h0; cases h0
theorem isP101 : IsP 101 := by
  refine ⟨by omega, by omega, fun d hd hs => ?_⟩
  have h1 : d ≤ 10 := by
    rcases Nat.lt_or_ge 10 d with h | h
    · have := Nat.mul_le_mul h h
      have hh : (101 : Int).toNat = 101 := rfl
      omega
    · exact h
  have : d = 2 ∨ d = 3 ∨ d = 4 ∨ d = 5 ∨ d = 6 ∨ d = 7 ∨ d = 8 ∨ d = 9 ∨ d = 10 := by omega
  rcases this with h | h | h | h | h | h | h | h | h <;> subst h <;> decide
def oneE : List Ent := [([97], 5)]
theorem ok101 : OkM oneE ((101 : Nat) : Int) := ⟨isP101, by decide, by decide, ⟨by intro x hx; rw [List.mem_singleton.1 hx]; decide, by simp [oneE]⟩⟩
theorem at_full {names : List (List UInt8)} {P : List Int} {n : List UInt8} (hn : names = [n]) (hP : ∀ p ∈ P, 0 ≤ p ∧ p < 1) (k : Nat) (hk : k < P.length) : atS names P (k : Int) = n := by
  unfold atS
  rw [if_neg (by omega), Int.toNat_natCast, List.getElem?_eq_getElem hk]
  have h := hP P[k] (List.getElem_mem hk)
  have h0 : P[k] = 0 := by omega
  show nameAt names P[k] = n
  rw [h0, hn]; rfl
theorem at_none {names : List (List UInt8)} {P : List Int} (k : Nat) (hk : P.length ≤ k) : atS names P (k : Int) = [] := by
  unfold atS
  rw [if_neg (by omega), Int.toNat_natCast, List.getElem?_eq_none hk]
theorem str_tests (x : List UInt8) : ((mk x).toList == (⟨#[97]⟩ : ByteArray).toList) = decide (x = [97]) := mk_eq x [97]
theorem str_none (x : List UInt8) : ((mk x).toList == (⟨#[]⟩ : ByteArray).toList) = decide (x = []) := mk_eq x []
theorem awake_calls (K : List UInt8) : ∀ (ys : List Ent) (tb : Nat) (W : World), ys.Perm oneE → OkM ys ((101 : Nat) : Int) → Tab W tb (ys.map Prod.fst) (plc K ys 101) → (Calls Try.prog 13 #[.pointer (some ⟨tb, 0, none⟩)] W fun e w' => e = .returned (.int .i64 101) ∧ w' = W) ∧ (Calls Try.prog 22 #[.pointer (some ⟨tb, 0, none⟩), .int .u64 0] W fun e w' => e = .returned (.string ⟨#[97]⟩) ∧ Below W.heap.size W w') ∧ (Calls Try.prog 15 #[.pointer (some ⟨tb, 0, none⟩), .int .i64 100] W fun e w' => e = .returned (.string ⟨#[97]⟩) ∧ Below W.heap.size W w') ∧ (Calls Try.prog 15 #[.pointer (some ⟨tb, 0, none⟩), .int .i64 101] W fun e w' => e = .returned (.string ⟨#[]⟩) ∧ Below W.heap.size W w') := by
  intro ys tb W hp hok hT
  have hys : ys = oneE := List.perm_singleton.1 hp
  subst hys
  have hl := plc_len (K := K) hok
  have hv := plc_vals (K := K) hok
  have hf := plc_full (K := K) hok (by simp [oneE])
  generalize plc K oneE 101 = P at *
  refine ⟨?_, ?_, ?_, ?_⟩
  · refine (size_any _ P tb W hT).mono ?_
    rintro e w' ⟨rfl, rfl⟩
    exact ⟨by rw [hl]; rfl, rfl⟩
  · refine (pick_any _ P hv tb 0 (by omega) W hT (by omega) (by simp [oneE])).mono ?_
    rintro e w' ⟨rfl, hb⟩
    refine ⟨?_, hb⟩
    rw [hl, show belowN 0 ((101 : Nat) : Int) = ((0 : Nat) : Int) from rfl, at_full (names := oneE.map Prod.fst) (n := [97]) rfl hf 0 (by omega)]; rfl
  · refine (at_any _ P hv tb 100 W hT (by omega) (by simp [oneE])).mono ?_
    rintro e w' ⟨rfl, hb⟩
    refine ⟨?_, hb⟩
    rw [show (100 : Int) = ((100 : Nat) : Int) from rfl, at_full (names := oneE.map Prod.fst) (n := [97]) rfl hf 100 (by omega)]; rfl
  · refine (at_any _ P hv tb 101 W hT (by omega) (by simp [oneE])).mono ?_
    rintro e w' ⟨rfl, hb⟩
    refine ⟨?_, hb⟩
    rw [show (101 : Int) = ((101 : Nat) : Int) from rfl, at_none 101 (by omega)]; rfl
set_option maxRecDepth 100000 in
set_option maxHeartbeats 2000000 in
theorem awake_any (w : World) : Calls Try.prog 7 #[] w fun e w' => e = .returned (.bool true) ∧ Below w.heap.size w w' := by
  have dK := keyOf_any [107] w
  have hKl := keyL_len [107]
  generalize keyL [107] = K at *
  go_enter Try.func7, Try.ntmps7
  go_wp2_with (go_at_call 9; refine dK.mono ?_; rintro e w1 ⟨rfl, hb1⟩)
  have hE : Ents (w1.alloc (.cells #[.string ⟨#[97]⟩, .int .i64 5] 54)) (.slice (some ⟨w1.heap.size, 0, none⟩) 1 1) oneE := ⟨_, 1, rfl, Nat.le_refl _, fun _ => ⟨w1.heap.size, 0, rfl, by simp, fun j x hj => by
    match j, hj with
    | 0, hj => cases hj; exact new_two w1 _ _ _⟩⟩
  have hb2 := hb1.alloc hb1.size (.cells #[.string ⟨#[97]⟩, .int .i64 5] 54)
  have dB := build_ok K hKl oneE 101 ok101 _ _ hE (by intro x hx; rw [List.mem_singleton.1 hx]; decide)
  generalize w1.alloc (.cells #[.string ⟨#[97]⟩, .int .i64 5] 54) = w2 at *
  have dP := Lib.hid (awake_calls K)
  go_wp2_with (first
    | (go_at_call 10; refine dB.mono ?_; rintro e w3 ⟨hb3, ys, tb, hp, hs, rfl, htb, hT, hok⟩; obtain ⟨dS, dP3, _, _⟩ := dP.out ys tb w3 hp hok hT)
    | (go_at_call 13; refine dS.mono ?_; rintro e w4 ⟨rfl, rfl⟩)
    | (go_at_call 22; refine dP3.mono ?_; rintro e w5 ⟨rfl, hb5⟩; obtain ⟨_, _, dA5, _⟩ := dP.out ys tb w5 hp hok (hT.below hb5))
    | (go_at_call 15; with_reducible refine dA5.mono ?_; rintro e w6 ⟨rfl, hb6⟩; obtain ⟨_, _, _, dA6⟩ := dP.out ys tb w6 hp hok ((hT.below hb5).below hb6))
    | (go_at_call 15; with_reducible refine dA6.mono ?_; rintro e w7 ⟨rfl, hb7⟩))
  go_ret
  exact ⟨rfl, bt (bt (bt (bt hb2 hb3) hb5) hb6) hb7⟩
end Go.Proofs.Ytclngmjfhlindaa.Ma
