/- The document's Print (printed by genO2.py). -/
import Derived.Test.YthedoophopilgaaGreatDoorRwL
namespace Go.Proofs.YthedoophopilgaaGreatDoor.Oct
open Go.RowKit Go.Shelf Go.Proofs.YthedoophopilgaaGreatDoor.Rw
set_option linter.unusedVariables false
/-- Hexadecimal digits. -/
def hexDig (n : Nat) : UInt8 := if n < 10 then UInt8.ofNat (48 + n) else UInt8.ofNat (87 + n)
def hexL (n : Nat) : List UInt8 := if n < 16 then [hexDig n] else hexL (n / 16) ++ [hexDig (n % 16)]
termination_by n
decreasing_by omega
theorem hex_at : ∀ r : Fin 16, (⟨#[48, 49, 50, 51, 52, 53, 54, 55, 56, 57, 97, 98, 99, 100, 101, 102]⟩ : ByteArray).extract r.val (r.val + 1) = ⟨#[hexDig r.val]⟩ := by decide +kernel
/-- The digits of a number to the base 10 or 16. -/
def digL (b n : Nat) : List UInt8 := if b = 16 then hexL n else Lib.decDigits n
theorem digL_small {b n : Nat} (hb : b = 10 ∨ b = 16) (h : n < b) : digL b n = [hexDig n] := by
  rcases hb with rfl | rfl
  · rw [digL, if_neg (by decide), Lib.decDigits, dif_pos h, hexDig, if_pos h]
  · rw [digL, if_pos rfl, hexL, if_pos h]
theorem digL_big {b n : Nat} (hb : b = 10 ∨ b = 16) (h : ¬ n < b) : digL b n = digL b (n / b) ++ [hexDig (n % b)] := by
  rcases hb with rfl | rfl
  · rw [digL, if_neg (by decide), Lib.decDigits, dif_neg h, digL, if_neg (by decide), hexDig, if_pos (by omega)]
  · rw [digL, if_pos rfl, hexL, if_neg h, digL, if_pos rfl]
theorem decS_dig (n : Int) : decS n = ⟨(digL 10 n.toNat).toArray⟩ := rfl
/-- One more digit in front. -/
theorem dig_front {b N m : Nat} {t : List UInt8} (hb : b = 10 ∨ b = 16) (hm : 0 < m) (h : digL b N = digL b m ++ t) : (0 < m / b → digL b N = digL b (m / b) ++ (hexDig (m % b) :: t)) ∧ (m / b = 0 → hexDig (m % b) :: t = digL b N) := by
  by_cases hl : m < b
  · have h0 : m / b = 0 := Nat.div_eq_of_lt hl
    refine ⟨fun e => by omega, fun _ => ?_⟩
    rw [h, digL_small hb hl, Nat.mod_eq_of_lt hl]; rfl
  · have h0 : 0 < m / b := Nat.div_pos (by omega) (by rcases hb with rfl | rfl <;> omega)
    refine ⟨fun _ => ?_, fun e => by omega⟩
    rw [h, digL_big hb hl, List.append_assoc]; rfl
theorem digL_len {b : Nat} (hb : b = 10 ∨ b = 16) : ∀ n : Nat, (digL b n).length ≤ n / 2 + 1 := by
  intro n
  induction n using Nat.strongRecOn with
  | _ n ih =>
    by_cases h : n < b
    · rw [digL_small hb h]; simp
    · have h1 : n / b < n := Nat.div_lt_self (by rcases hb with rfl | rfl <;> omega) (by rcases hb with rfl | rfl <;> omega)
      have := ih _ h1
      rw [digL_big hb h, List.length_append, List.length_singleton]
      rcases hb with rfl | rfl <;> omega
theorem hex_cat (d : UInt8) (t : List UInt8) : (⟨#[d]⟩ : ByteArray) ++ ⟨t.toArray⟩ = ⟨(d :: t).toArray⟩ := by
  apply Go.WideShapes.bytes_inj
  simp
theorem hex_slice {b : Nat} (bi : Int) (hbi : bi = (b : Int)) (hb : b = 10 ∨ b = 16) (m : Nat) (hm : m ≤ 9223372036854775807) (W : World) :
    (Instr.slice 9 (.string ⟨#[48, 49, 50, 51, 52, 53, 54, 55, 56, 57, 97, 98, 99, 100, 101, 102]⟩) (some (.int .i64 ((m : Int).tmod bi))) (some (.int .i64 (IntKind.i64.wrap ((m : Int).tmod bi + 1)))) none).run Tryz.prog W = .ok (.string ⟨#[hexDig (m % b)]⟩) W := by
  subst hbi
  have hr : m % b < 16 := Nat.lt_of_lt_of_le (Nat.mod_lt _ (by rcases hb with rfl | rfl <;> decide)) (by rcases hb with rfl | rfl <;> decide)
  have e1 : (m : Int).tmod (b : Int) = ((m % b : Nat) : Int) := rfl
  have e2 : IntKind.i64.wrap (((m % b : Nat) : Int) + 1) = ((m % b + 1 : Nat) : Int) := by simp [IntKind.wrap, IntKind.bits, IntKind.signed]; omega
  rw [e1, e2, run_slice_string _ _ _ _ _ _ _ Tryz.underlying9 (by omega) (by omega) (by show _ ≤ (16 : Int); omega)]
  show Result.ok (Value.string (ByteArray.extract _ (m % b) (m % b + 1))) W = _
  rw [hex_at ⟨m % b, hr⟩]
set_option maxRecDepth 100000 in
set_option maxHeartbeats 1000000 in
theorem refPrint10 (n : Int) (hn : n ≤ 9223372036854775807) (w : World) :
    Calls Tryz.prog 23 #[.int .i64 n, .int .i64 10] w fun e w' => e = .returned (.string (decS n)) ∧ Below w.heap.size w w' := by
  by_cases c0 : n ≤ 0
  · have HX := Lib.hid (show decS n = ⟨#[48]⟩ by rw [decS_dig, show n.toNat = 0 by omega, digL_small (by decide) (by decide)]; rfl)
    go_enter Tryz.func23, Tryz.ntmps23
    go_wp2_with fail
    go_ret
    exact ⟨ret_str HX.out.symm, Below.refl _ _⟩
  · obtain ⟨N, rfl⟩ := Int.eq_ofNat_of_zero_le (show 0 ≤ n by omega)
    have HX := Lib.hid (show decS (N : Int) = ⟨(digL 10 N).toArray⟩ from decS_dig _)
    have c1 : 0 < N := by omega
    have hb0 : Below w.heap.size w w := Below.refl _ _
    generalize hg : w.heap.size = g at *
    go_enter Tryz.func23, Tryz.ntmps23
    go_wp2_with fail
    go_loopw [5, 0] (fun s n wr => ∃ (m : Nat) (t : List UInt8), s = .string ⟨t.toArray⟩ ∧ n = .int .i64 m ∧ m ≤ N ∧ Hid (0 < m → digL 10 N = digL 10 m ++ t) ∧ Hid (m = 0 → t = digL 10 N) ∧ Below g w wr) (fun _ n _ => (intOf n).toNat)
    case atStart => exact ⟨N, [], rfl, rfl, Nat.le_refl _, Lib.hid (fun _ => by simp), Lib.hid (fun h => by omega), hb0⟩
    case round =>
      obtain ⟨m, t, rfl, rfl, hm, h1, h2, hb⟩ := hrel
      by_cases c2 : 0 < m
      · have hr : m % 10 < 10 := Nat.mod_lt _ (by decide)
        have HF := Lib.hid (dig_front (b := 10) (by decide) c2 (h1.out c2))
        have hcat : ∀ W : World, (Op.stringOp .add ⟨#[hexDig (m % 10)]⟩ ⟨t.toArray⟩).run Tryz.prog W = .ok (.string ⟨(hexDig (m % 10) :: t).toArray⟩) W := by
          intro W
          have hl := digL_len (b := 10) (by decide) N
          rw [h1.out c2, List.length_append] at hl
          rw [cat_run _ _ (by rw [ba_size t]; show 1 + _ ≤ _; omega), hex_cat]
        have hsl := hex_slice (b := 10) 10 rfl (by decide) m (by omega)
        go_wp2_with fail
        go_quiet (fail)
        go_wp2_with fail
        go_roundw
        case rel => exact ⟨m / 10, _, rfl, by go_num, by omega, Lib.hid HF.out.1, Lib.hid HF.out.2, below_drewN hb⟩
        case measure => simp [intOf]; omega
      · have HE := Lib.hid (show decS (N : Int) = ⟨t.toArray⟩ by rw [HX.out, h2.out (by omega)])
        go_wp2_with fail
        go_ret
        exact ⟨ret_str HE.out.symm, by (try rw [hg]); exact hb⟩
end Go.Proofs.YthedoophopilgaaGreatDoor.Oct
