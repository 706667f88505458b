import Derived.Test.YtkbjklnkeammiaaDoorProg
import Derived.Test.YtkbjklnkeammiaaDoorShelf
import Derived.WalkKit
import Derived.WalkSpells
import Derived.WalkLawsBesides
import Derived.Lib.Hide
namespace Go.Proofs.YtkbjklnkeammiaaDoor.Oct
open Go.RowKit
set_option linter.unusedVariables false

theorem ret_int {k : IntKind} {a b : Int} (h : a = b) : Ending.returned (.int k a) = .returned (.int k b) := by rw [h]
theorem ret_bool {a b : Bool} (h : a = b) : Ending.returned (.bool a) = .returned (.bool b) := by rw [h]
theorem ret_str {a b : ByteArray} (h : a = b) : Ending.returned (.string a) = .returned (.string b) := by rw [h]

/-- The signs of a token. -/
def signs : List UInt8 := [33, 35, 36, 37, 38, 39, 42, 43, 45, 46, 94, 95, 96, 124, 126]
def isSign (b : Int) : Bool := signs.contains b.toNat.toUInt8
theorem sign_fin : ∀ b : Fin 256, decide (0 ≤ Lib.indexByte signs (b.val : Int).toNat.toUInt8) = isSign (b.val : Int) := by decide +kernel
theorem sign_ix (b : Int) (h0 : 0 ≤ b) (h1 : b < 256) : decide (0 ≤ Lib.indexByte signs b.toNat.toUInt8) = isSign b := by
  have h := sign_fin ⟨b.toNat, by omega⟩
  simp only [show ((b.toNat : Nat) : Int) = b by omega] at h
  exact h
/-- The classes of a byte. -/
def ofB (b : Int) : Int :=
  (if 48 ≤ b ∧ b ≤ 57 then 25 else if 97 ≤ b ∧ b ≤ 102 then 17 else if 65 ≤ b ∧ b ≤ 70 then 17 else if 103 ≤ b ∧ b ≤ 122 then 1 else if 71 ≤ b ∧ b ≤ 90 then 1 else if isSign b = true then 1 else 0)
    + (if 33 ≤ b ∧ b ≤ 126 then 6 else if b = 32 ∨ b = 9 then 4 else 0)

theorem beq32 {b : Int} (h : b ≠ 32) : (b == 32) = false := by simpa using h
theorem beq9 {b : Int} (h : b ≠ 9) : (b == 9) = false := by simpa using h

set_option maxHeartbeats 1000000 in
theorem of_blank (b : Int) (h : b = 32 ∨ b = 9) (w : World) :
    Calls Tryd.prog 97 #[.int .u8 b] w fun e w' => e = .returned (.int .u8 (ofB b)) ∧ w = w' := by
  have hx : Lib.indexByte [33, 35, 36, 37, 38, 39, 42, 43, 45, 46, 94, 95, 96, 124, 126] 32 = -1 := by decide
  have hy : Lib.indexByte [33, 35, 36, 37, 38, 39, 42, 43, 45, 46, 94, 95, 96, 124, 126] 9 = -1 := by decide
  rcases h with rfl | rfl
  all_goals
    go_enter Tryd.func97, Tryd.ntmps97
    go_wp2_with (go_at_call 120; refine (Tryd.strings_IndexByte _ _ _).mono ?_; rintro e w1 ⟨rfl, rfl⟩)
    go_ret
    refine ⟨ret_int ?_, rfl⟩
    rfl

set_option maxHeartbeats 1000000 in
theorem of_else (b : Int) (h0 : 0 ≤ b) (h1 : b < 256) (h2 : (b == 32) = false) (h3 : (b == 9) = false) (n2 : ¬ (b = 32 ∨ b = 9)) (w : World) :
    Calls Tryd.prog 97 #[.int .u8 b] w fun e w' => e = .returned (.int .u8 (ofB b)) ∧ w = w' := by
  have hx := sign_ix b h0 h1
  unfold signs at hx
  have N2 := Lib.hid n2
  clear n2
  cases hs : isSign b
  · rw [hs] at hx
    have hx' : Lib.indexByte [33, 35, 36, 37, 38, 39, 42, 43, 45, 46, 94, 95, 96, 124, 126] (UInt8.ofNat b.toNat) < 0 := by simpa using hx
    have HS := Lib.hid hs
    clear hx hs
    go_enter Tryd.func97, Tryd.ntmps97
    go_wp2_with (go_at_call 120; refine (Tryd.strings_IndexByte _ _ _).mono ?_; rintro e w1 ⟨rfl, rfl⟩)
    all_goals go_ret
    all_goals refine ⟨ret_int ?_, rfl⟩
    all_goals (have hs := HS.out; have n2 := N2.out; simp only [ofB, hs]; repeat (first | rw [if_pos (by omega)] | rw [if_neg (by omega)] | rw [if_neg (by decide)]))
    all_goals rfl
  · rw [hs] at hx
    have hx' : 0 ≤ Lib.indexByte [33, 35, 36, 37, 38, 39, 42, 43, 45, 46, 94, 95, 96, 124, 126] (UInt8.ofNat b.toNat) := by simpa using hx
    have HS := Lib.hid hs
    clear hx hs
    go_enter Tryd.func97, Tryd.ntmps97
    go_wp2_with (go_at_call 120; refine (Tryd.strings_IndexByte _ _ _).mono ?_; rintro e w1 ⟨rfl, rfl⟩)
    all_goals go_ret
    all_goals refine ⟨ret_int ?_, rfl⟩
    all_goals (have hs := HS.out; have n2 := N2.out; simp only [ofB, hs]; repeat (first | rw [if_pos (by omega)] | rw [if_neg (by omega)] | rw [if_pos trivial]))
    all_goals rfl

theorem of_any (b : Int) (h0 : 0 ≤ b) (h1 : b < 256) (w : World) :
    Calls Tryd.prog 97 #[.int .u8 b] w fun e w' => e = .returned (.int .u8 (ofB b)) ∧ w = w' := by
  by_cases h : b = 32 ∨ b = 9
  · exact of_blank b h w
  · exact of_else b h0 h1 (beq32 (by omega)) (beq9 (by omega)) h w

end Go.Proofs.YtkbjklnkeammiaaDoor.Oct
