import Derived.Test.YtkbjklnkeammiaaDoorOctD
import Derived.Deep.Cut
namespace Go.Proofs.YtkbjklnkeammiaaDoor.Oct
open Go.RowKit
set_option linter.unusedVariables false

theorem parseUint_any (b : Nat) (hb : b = 10 ∨ b = 16) (s : ByteArray) (h1 : 1 ≤ s.size) (h2 : s.size ≤ 10) (hd : ∀ x ∈ s.data.toList, digOK b x) (w : World) :
    Calls Tryd.prog 139 #[.string s, .int .i64 b, .int .i64 64] w fun e w' => e = .returned (.tuple #[.int .u64 (val b s.data.toList : Nat), .nilIface]) ∧ Below w.heap.size w w' := by
  rcases hb with rfl | rfl
  · exact parseUint10 s h1 h2 hd w
  · exact parseUint16 s h1 h2 hd w

set_option maxRecDepth 100000 in
set_option maxHeartbeats 1000000 in
theorem parseInt_in (b : Nat) (hb : b = 10 ∨ b = 16) (s : ByteArray) (h1 : 1 ≤ s.size) (h2 : s.size ≤ 10) (hd : ∀ x ∈ s.data.toList, digOK b x) (w : World) :
    Calls Tryd.prog 124 #[.string s, .int .i64 b, .int .i64 64] w fun e w' => e = .returned (.tuple #[.int .i64 (val b s.data.toList : Nat), .nilIface]) ∧ Below w.heap.size w w' := by
  have hne : s.toList.isEmpty = false := by rw [isEmpty_sz, decide_eq_false (by omega)]
  have hv : val b s.data.toList < 1099511627776 := by
    have a := val_lt hb _ hd
    have : b ^ s.data.toList.length ≤ 16 ^ 10 := by
      have hl : s.data.toList.length ≤ 10 := by simpa using h2
      rcases hb with rfl | rfl
      · exact Nat.le_trans (Nat.pow_le_pow_left (by decide) _) (Nat.pow_le_pow_right (by decide) hl)
      · exact Nat.pow_le_pow_right (by decide) hl
    have h3 : 16 ^ 10 = 1099511627776 := by decide
    omega
  have hok := hd s.data.toList[0] (List.getElem_mem (by simp; omega))
  have h0 : 0 < s.size := by omega
  have hx : s.data.toList[0] = s[0] := rfl
  rw [hx] at hok
  have e43 : ((s[0].toNat : Int) == 43) = false := by unfold digOK at hok; rw [beq_eq_false_iff_ne]; omega
  have e45 : ((s[0].toNat : Int) == 45) = false := by unfold digOK at hok; rw [beq_eq_false_iff_ne]; omega
  have HB := Lib.hid hb
  have HD := Lib.hid hd
  clear hd hb hok hx
  generalize hm : val b s.data.toList = m at *
  have HM := Lib.hid hm
  clear hm
  go_enter Tryd.func124, Tryd.ntmps124
  go_upto_region 17 with (go_at_call 139; refine (parseUint_any b HB.out s h1 h2 HD.out _).mono ?_; rintro e w1 ⟨rfl, hb1⟩; rw [HM.out])
  obtain ⟨C, hC, hC2⟩ : ∃ C : Int, (9223372036854775808 : Int) = C ∧ 1200000000000 ≤ C := ⟨_, rfl, by decide⟩
  rw [hC]
  clear hC
  go_wp2
  go_ret2
  exact ⟨rfl, hb1⟩

set_option maxRecDepth 100000 in
set_option maxHeartbeats 1000000 in
theorem parseInt_any (b : Nat) (hb : b = 10 ∨ b = 16) (s : ByteArray) (h1 : 1 ≤ s.size) (h2 : s.size ≤ 10) (hd : ∀ x ∈ s.data.toList, digOK b x) (w : World) :
    Calls Tryd.prog 106 #[.string s, .int .i64 b, .int .i64 64] w fun e w' => e = .returned (.tuple #[.int .i64 (val b s.data.toList : Nat), .nilIface]) ∧ Below w.heap.size w w' := by
  have HB := Lib.hid hb
  have HD := Lib.hid hd
  clear hd hb
  go_enter Tryd.func106, Tryd.ntmps106
  go_wp2_with (go_at_call 124; refine (parseInt_in b HB.out s h1 h2 HD.out _).mono ?_; rintro e w1 ⟨rfl, hb1⟩)
  go_ret2
  exact ⟨rfl, hb1⟩


/-- The class whose digits they are. -/
def clsOf (b : Nat) : Int := if b = 16 then 16 else 8
theorem cls_fin : ∀ x : Fin 256, (inC 8 (UInt8.ofNat x.val) = decide (48 ≤ x.val ∧ x.val ≤ 57)) ∧ (inC 16 (UInt8.ofNat x.val) = decide ((48 ≤ x.val ∧ x.val ≤ 57) ∨ (97 ≤ x.val ∧ x.val ≤ 102) ∨ (65 ≤ x.val ∧ x.val ≤ 70))) := by decide +kernel
theorem cls_dig {b : Nat} (hb : b = 10 ∨ b = 16) (x : UInt8) (h : inC (clsOf b) x = true) : digOK b x := by
  have hx := cls_fin ⟨x.toNat, x.toNat_lt⟩
  simp only [UInt8.ofNat_toNat] at hx
  rcases hb with rfl | rfl
  · rw [clsOf, if_neg (by decide), hx.1, decide_eq_true_iff] at h
    exact Or.inl h
  · rw [clsOf, if_pos rfl, hx.2, decide_eq_true_iff] at h
    rcases h with h | h
    · exact Or.inl h
    · exact Or.inr ⟨rfl, h⟩

/-- What digits say: the number and what is wrong. -/
def numS (b digits : Nat) (s : ByteArray) (most : Int) : Int × Int :=
  if s.size = 0 ∨ digits < s.size ∨ allC (clsOf b) s = false then (0, 2)
  else if most < (val b s.data.toList : Nat) then (0, 3) else ((val b s.data.toList : Nat), 0)

theorem ret_two {k k' : IntKind} {a b c d : Int} (h : (a, b) = (c, d)) : Ending.returned (.tuple #[.int k a, .int k' b]) = .returned (.tuple #[.int k c, .int k' d]) := by
  obtain ⟨rfl, rfl⟩ := Prod.mk.inj h; rfl

set_option maxHeartbeats 1000000 in
theorem number_any (b : Nat) (hb : b = 10 ∨ b = 16) (d : Nat) (hd : d ≤ 10) (s : ByteArray) (hs : s.size ≤ maxLen) (most : Int) (w : World) :
    Calls Tryd.prog 76 #[.string s, .int .u8 (clsOf b), .int .i64 d, .int .i64 b, .int .i64 most] w fun e w' => e = .returned (.tuple #[.int .i64 (numS b d s most).1, .int .i64 (numS b d s most).2]) ∧ Below w.heap.size w w' := by
  have HB := Lib.hid hb
  by_cases c1 : s.size = 0
  · have he : s.toList.isEmpty = true := by rw [isEmpty_sz, decide_eq_true c1]
    have hn : numS b d s most = (0, 2) := by rw [numS, if_pos (Or.inl c1)]
    have HN := Lib.hid hn
    clear hn c1 hb
    go_enter Tryd.func76, Tryd.ntmps76
    go_wp2_with fail
    go_ret2
    exact ⟨ret_two (by rw [HN.out]), Below.refl _ _⟩
  · have he : s.toList.isEmpty = false := by rw [isEmpty_sz, decide_eq_false c1]
    by_cases c2 : d < s.size
    · have hn : numS b d s most = (0, 2) := by rw [numS, if_pos (Or.inr (Or.inl c2))]
      have HN := Lib.hid hn
      clear hn c1 hb
      go_enter Tryd.func76, Tryd.ntmps76
      go_wp2_with fail
      go_ret2
      exact ⟨ret_two (by rw [HN.out]), Below.refl _ _⟩
    · have c2' : s.size ≤ d := by omega
      cases ha : allC (clsOf b) s
      · have hn : numS b d s most = (0, 2) := by rw [numS, if_pos (Or.inr (Or.inr ha))]
        have HN := Lib.hid hn
        clear hn c1 c2 hb
        go_enter Tryd.func76, Tryd.ntmps76
        go_wp2_with (go_at_call 69; refine (all_any _ _ hs _).mono ?_; rintro e w1 ⟨rfl, rfl⟩)
        go_ret2
        exact ⟨ret_two (by rw [HN.out]), Below.refl _ _⟩
      · have hdg : ∀ x ∈ s.data.toList, digOK b x := fun x hx => cls_dig hb x (List.all_eq_true.1 ha x hx)
        have HD := Lib.hid hdg
        have h1 : 1 ≤ s.size := by omega
        have h2 : s.size ≤ 10 := by omega
        have hv := val_lt hb _ hdg
        have hp : b ^ s.data.toList.length ≤ 16 ^ 10 := by
          have hl : s.data.toList.length ≤ 10 := by simpa using h2
          rcases hb with rfl | rfl
          · exact Nat.le_trans (Nat.pow_le_pow_left (by decide) _) (Nat.pow_le_pow_right (by decide) hl)
          · exact Nat.pow_le_pow_right (by decide) hl
        have h3 : 16 ^ 10 = 1099511627776 := by decide
        have hm2 : val b s.data.toList < 1099511627776 := by omega
        clear hp h3 hv hdg
        have H2 := Lib.hid (show numS b d s most = if most < ((val b s.data.toList : Nat) : Int) then ((0 : Int), (3 : Int)) else (((val b s.data.toList : Nat) : Int), (0 : Int)) by
          rw [numS, if_neg]; rintro (h | h | h); exact c1 h; exact c2 h; rw [ha] at h; cases h)
        generalize hm : val b s.data.toList = m at *
        have HM := Lib.hid hm
        clear hm c1 c2 hb
        by_cases c3 : most < (m : Int)
        · have HN := Lib.hid (show numS b d s most = (0, 3) by rw [H2.out, if_pos c3])
          go_enter Tryd.func76, Tryd.ntmps76
          go_wp2_with (first | (go_at_call 69; refine (all_any _ _ hs _).mono ?_; rintro e w1 ⟨rfl, rfl⟩) | (go_at_call 106; refine (parseInt_any b HB.out s h1 h2 HD.out _).mono ?_; rintro e w1 ⟨rfl, hb1⟩; rw [HM.out]))
          go_ret2
          exact ⟨ret_two (by rw [HN.out]), hb1⟩
        · have HN := Lib.hid (show numS b d s most = ((m : Int), 0) by rw [H2.out, if_neg c3])
          have c3' : (m : Int) ≤ most := by omega
          clear c3
          go_enter Tryd.func76, Tryd.ntmps76
          go_wp2_with (first | (go_at_call 69; refine (all_any _ _ hs _).mono ?_; rintro e w1 ⟨rfl, rfl⟩) | (go_at_call 106; refine (parseInt_any b HB.out s h1 h2 HD.out _).mono ?_; rintro e w1 ⟨rfl, hb1⟩; rw [HM.out]))
          go_ret2
          exact ⟨ret_two (by rw [HN.out]), hb1⟩

theorem dec_any (s : ByteArray) (hs : s.size ≤ maxLen) (most : Int) (w : World) :
    Calls Tryd.prog 36 #[.string s, .int .i64 most] w fun e w' => e = .returned (.tuple #[.int .i64 (numS 10 10 s most).1, .int .i64 (numS 10 10 s most).2]) ∧ Below w.heap.size w w' := by
  go_enter Tryd.func36, Tryd.ntmps36
  go_wp2_with (go_at_call 76; refine (number_any 10 (by decide) 10 (by decide) s hs most _).mono ?_; rintro e w1 ⟨rfl, hb1⟩)
  go_ret2
  exact ⟨rfl, hb1⟩
theorem hex_any (s : ByteArray) (hs : s.size ≤ maxLen) (most : Int) (w : World) :
    Calls Tryd.prog 37 #[.string s, .int .i64 most] w fun e w' => e = .returned (.tuple #[.int .i64 (numS 16 8 s most).1, .int .i64 (numS 16 8 s most).2]) ∧ Below w.heap.size w w' := by
  go_enter Tryd.func37, Tryd.ntmps37
  go_wp2_with (go_at_call 76; refine (number_any 16 (by decide) 8 (by decide) s hs most _).mono ?_; rintro e w1 ⟨rfl, hb1⟩)
  go_ret2
  exact ⟨rfl, hb1⟩
end Go.Proofs.YtkbjklnkeammiaaDoor.Oct
