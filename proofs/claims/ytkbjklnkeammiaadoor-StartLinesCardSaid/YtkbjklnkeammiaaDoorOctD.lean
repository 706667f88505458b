import Derived.Test.YtkbjklnkeammiaaDoorOctC
namespace Go.Proofs.YtkbjklnkeammiaaDoor.Oct
open Go.RowKit
set_option linter.unusedVariables false

/-- A digit's worth. -/
def digN (x : UInt8) : Nat := if 48 ≤ x.toNat ∧ x.toNat ≤ 57 then x.toNat - 48 else if 97 ≤ x.toNat then x.toNat - 87 else x.toNat - 55
/-- Is it a digit to base 10, or 16? -/
def digOK (b : Nat) (x : UInt8) : Prop := (48 ≤ x.toNat ∧ x.toNat ≤ 57) ∨ (b = 16 ∧ ((97 ≤ x.toNat ∧ x.toNat ≤ 102) ∨ (65 ≤ x.toNat ∧ x.toNat ≤ 70)))
def val (b : Nat) (l : List UInt8) : Nat := l.foldl (fun n x => n * b + digN x) 0
theorem val_snoc (b : Nat) (l : List UInt8) (x : UInt8) : val b (l ++ [x]) = val b l * b + digN x := by simp [val]
theorem digN_lt {b : Nat} {x : UInt8} (hb : b = 10 ∨ b = 16) (h : digOK b x) : digN x < b := by
  unfold digOK at h; unfold digN; split <;> (try split) <;> omega
theorem val_go {b : Nat} (hb : b = 10 ∨ b = 16) : ∀ (l : List UInt8) (n j : Nat), (∀ x ∈ l, digOK b x) → n < b ^ j → l.foldl (fun n x => n * b + digN x) n < b ^ (j + l.length) := by
  intro l
  induction l with
  | nil => intro n j _ h; simpa using h
  | cons x l ih =>
    intro n j h hn
    have h2 := digN_lt hb (h x (by simp))
    have h3 : (n + 1) * b ≤ b ^ j * b := Nat.mul_le_mul_right b hn
    rw [Nat.add_mul, Nat.one_mul] at h3
    have h4 := ih (n * b + digN x) (j + 1) (fun y hy => h y (by simp [hy])) (by rw [Nat.pow_succ]; omega)
    simp only [List.foldl_cons, List.length_cons]
    rw [show j + (l.length + 1) = j + 1 + l.length by omega]
    exact h4
theorem val_lt {b : Nat} (hb : b = 10 ∨ b = 16) (l : List UInt8) (h : ∀ x ∈ l, digOK b x) : val b l < b ^ l.length := by
  have := val_go hb l 0 0 h (by simp)
  simpa [val] using this
theorem val_bd {b : Nat} (hb : b = 10 ∨ b = 16) (l : List UInt8) (h : ∀ x ∈ l, digOK b x) (hl : l.length ≤ 9) : val b l < 68719476736 := by
  have h1 := val_lt hb l h
  have h2 : b ^ l.length ≤ 16 ^ 9 := by
    rcases hb with rfl | rfl
    · exact Nat.le_trans (Nat.pow_le_pow_left (by decide) _) (Nat.pow_le_pow_right (by decide) hl)
    · exact Nat.pow_le_pow_right (by decide) hl
  have h3 : 16 ^ 9 = 68719476736 := by decide
  omega
theorem or32_fin : ∀ x : Fin 256, (97 ≤ x.val ∧ x.val ≤ 102 → bits .or .u8 (x.val : Int) 32 = x.val) ∧ (65 ≤ x.val ∧ x.val ≤ 70 → bits .or .u8 (x.val : Int) 32 = x.val + 32) := by decide +kernel
theorem or32_low (n : Int) (h : 97 ≤ n ∧ n ≤ 102) : bits .or .u8 n 32 = n := by
  have := (or32_fin ⟨n.toNat, by omega⟩).1 (by simp; omega)
  simp only [show ((n.toNat : Nat) : Int) = n by omega] at this
  exact this
theorem or32_up (n : Int) (h : 65 ≤ n ∧ n ≤ 70) : bits .or .u8 n 32 = n + 32 := by
  have := (or32_fin ⟨n.toNat, by omega⟩).2 (by simp; omega)
  simp only [show ((n.toNat : Nat) : Int) = n by omega] at this
  exact this

set_option maxRecDepth 100000 in
set_option maxHeartbeats 1000000 in
theorem parseUint10 (s : ByteArray) (h1 : 1 ≤ s.size) (h2 : s.size ≤ 10) (hd : ∀ x ∈ s.data.toList, digOK 10 x) (w : World) :
    Calls Tryd.prog 139 #[.string s, .int .i64 10, .int .i64 64] w fun e w' => e = .returned (.tuple #[.int .u64 (val 10 s.data.toList : Nat), .nilIface]) ∧ Below w.heap.size w w' := by
  obtain ⟨W1, sp, hconv, hrow, hb⟩ := conv_bytes (P := Tryd.prog) w 9 91 s Tryd.underlying9 Tryd.underlying91 Tryd.underlying5
  have hne : s.toList.isEmpty = false := by rw [isEmpty_sz, decide_eq_false (by omega)]
  have HD := Lib.hid hd
  clear hd
  generalize hg : w.heap.size = g at *
  have HR := Lib.hid hrow
  clear hrow
  go_enter Tryd.func139, Tryd.ntmps139
  go_wp2_with fail
  obtain ⟨M, hM, hM2⟩ : ∃ M : Int, IntKind.u64.wrap (IntKind.u64.wrap 18446744073709551616 - 1) = M ∧ 1200000000000 ≤ M := ⟨_, rfl, by decide⟩
  rw [hM]
  obtain ⟨C, hC, hC2⟩ : ∃ C : Int, (1844674407370955162 : Int) = C ∧ 1200000000000 ≤ C := ⟨_, rfl, by decide⟩
  rw [hC]
  clear hM hC
  go_loop [101, 13, 12] (fun i n u => ∃ k : Nat, k ≤ s.size ∧ i = .int .i64 k ∧ n = .int .u64 (val 10 (s.data.toList.take k) : Nat) ∧ u = .bool false) (fun i _ _ => s.size - (intOf i).toNat)
  case atStart => exact ⟨0, Nat.zero_le _, rfl, rfl, rfl⟩
  case round =>
    obtain ⟨k, hk, rfl, rfl, rfl⟩ := hrel
    by_cases hlt : k < s.size
    · have hkl : k < s.data.toList.length := by simpa using hlt
      have hcell := HR.out.cell hkl
      have hbd := val_bd (b := 10) (by decide) (s.data.toList.take k) (fun x hx => HD.out x (List.mem_of_mem_take hx)) (by simp; omega)
      have hok := HD.out s.data.toList[k] (List.getElem_mem hkl)
      have hnx := Lib.hid (show val 10 (s.data.toList.take (k + 1)) = val 10 (s.data.toList.take k) * 10 + digN s.data.toList[k] by rw [List.take_succ_eq_append_getElem hkl, val_snoc])
      generalize s.data.toList[k] = x at *
      generalize hm : val 10 (s.data.toList.take k) = m at *
      have HM := Lib.hid hm
      clear hm
      obtain ⟨n, hn⟩ : ∃ n : Nat, x.toNat = n := ⟨_, rfl⟩
      rw [hn] at hcell
      unfold digOK at hok
      rw [hn] at hok
      have hdv := Lib.hid (show (digN x : Int) = if 48 ≤ n ∧ n ≤ 57 then (n : Int) - 48 else if 97 ≤ n then (n : Int) - 87 else (n : Int) - 55 by unfold digN; rw [hn]; split <;> (try split) <;> omega)
      clear hn
      rcases hok with c | c
      · obtain ⟨c1, c2⟩ := c
        have HV := Lib.hid (show (if 48 ≤ n ∧ n ≤ 57 then (n : Int) - 48 else if 97 ≤ n then (n : Int) - 87 else (n : Int) - 55) = (n : Int) - 48 by rw [if_pos ⟨c1, c2⟩])
        go_wp2_with (go_at_call 156; refine (Tryd.internal_strconv_lower _ _).mono ?_; rintro e w1 ⟨rfl, rfl⟩)
        go_round
        case rel => exact ⟨k + 1, by omega, by go_num, by rw [hnx.out]; congr 1; have := hdv.out; rw [HV.out] at this; omega, rfl⟩
        case measure => simp [intOf]; omega
      · exact absurd c.1 (by decide)
    · have hv := Lib.hid (show val 10 (s.data.toList.take k) = val 10 s.data.toList by rw [List.take_of_length_le (by simp; omega)])
      have hge : s.size ≤ k := by omega
      clear hlt
      generalize val 10 (s.data.toList.take k) = m at *
      go_wp2
      go_ret2
      exact ⟨by rw [← hv.out]; rfl, hb⟩

set_option maxRecDepth 100000 in
set_option maxHeartbeats 1000000 in
theorem parseUint16 (s : ByteArray) (h1 : 1 ≤ s.size) (h2 : s.size ≤ 10) (hd : ∀ x ∈ s.data.toList, digOK 16 x) (w : World) :
    Calls Tryd.prog 139 #[.string s, .int .i64 16, .int .i64 64] w fun e w' => e = .returned (.tuple #[.int .u64 (val 16 s.data.toList : Nat), .nilIface]) ∧ Below w.heap.size w w' := by
  obtain ⟨W1, sp, hconv, hrow, hb⟩ := conv_bytes (P := Tryd.prog) w 9 91 s Tryd.underlying9 Tryd.underlying91 Tryd.underlying5
  have hne : s.toList.isEmpty = false := by rw [isEmpty_sz, decide_eq_false (by omega)]
  have HD := Lib.hid hd
  clear hd
  generalize hg : w.heap.size = g at *
  have HR := Lib.hid hrow
  clear hrow
  go_enter Tryd.func139, Tryd.ntmps139
  go_wp2_with fail
  obtain ⟨M, hM, hM2⟩ : ∃ M : Int, IntKind.u64.wrap (IntKind.u64.wrap 18446744073709551616 - 1) = M ∧ 1200000000000 ≤ M := ⟨_, rfl, by decide⟩
  rw [hM]
  obtain ⟨C, hC, hC2⟩ : ∃ C : Int, (1152921504606846976 : Int) = C ∧ 1200000000000 ≤ C := ⟨_, rfl, by decide⟩
  rw [hC]
  clear hM hC
  go_loop [101, 13, 12] (fun i n u => ∃ k : Nat, k ≤ s.size ∧ i = .int .i64 k ∧ n = .int .u64 (val 16 (s.data.toList.take k) : Nat) ∧ u = .bool false) (fun i _ _ => s.size - (intOf i).toNat)
  case atStart => exact ⟨0, Nat.zero_le _, rfl, rfl, rfl⟩
  case round =>
    obtain ⟨k, hk, rfl, rfl, rfl⟩ := hrel
    by_cases hlt : k < s.size
    · have hkl : k < s.data.toList.length := by simpa using hlt
      have hcell := HR.out.cell hkl
      have hbd := val_bd (b := 16) (by decide) (s.data.toList.take k) (fun x hx => HD.out x (List.mem_of_mem_take hx)) (by simp; omega)
      have hok := HD.out s.data.toList[k] (List.getElem_mem hkl)
      have hnx := Lib.hid (show val 16 (s.data.toList.take (k + 1)) = val 16 (s.data.toList.take k) * 16 + digN s.data.toList[k] by rw [List.take_succ_eq_append_getElem hkl, val_snoc])
      generalize s.data.toList[k] = x at *
      generalize hm : val 16 (s.data.toList.take k) = m at *
      have HM := Lib.hid hm
      clear hm
      obtain ⟨n, hn⟩ : ∃ n : Nat, x.toNat = n := ⟨_, rfl⟩
      rw [hn] at hcell
      unfold digOK at hok
      rw [hn] at hok
      have hdv := Lib.hid (show (digN x : Int) = if 48 ≤ n ∧ n ≤ 57 then (n : Int) - 48 else if 97 ≤ n then (n : Int) - 87 else (n : Int) - 55 by unfold digN; rw [hn]; split <;> (try split) <;> omega)
      clear hn
      rcases hok with c | c
      · obtain ⟨c1, c2⟩ := c
        have HV := Lib.hid (show (if 48 ≤ n ∧ n ≤ 57 then (n : Int) - 48 else if 97 ≤ n then (n : Int) - 87 else (n : Int) - 55) = (n : Int) - 48 by rw [if_pos ⟨c1, c2⟩])
        go_wp2_with (go_at_call 156; refine (Tryd.internal_strconv_lower _ _).mono ?_; rintro e w1 ⟨rfl, rfl⟩)
        go_round
        case rel => exact ⟨k + 1, by omega, by go_num, by rw [hnx.out]; congr 1; have := hdv.out; rw [HV.out] at this; omega, rfl⟩
        case measure => simp [intOf]; omega
      · rcases c.2 with c | c
        · obtain ⟨c1, c2⟩ := c
          have hlow := or32_low (n : Int) (by omega)
          have HV := Lib.hid (show (if 48 ≤ n ∧ n ≤ 57 then (n : Int) - 48 else if 97 ≤ n then (n : Int) - 87 else (n : Int) - 55) = (n : Int) - 87 by rw [if_neg (by omega), if_pos (by omega)])
          go_wp2_with (go_at_call 156; refine (Tryd.internal_strconv_lower _ _).mono ?_; rintro e w1 ⟨rfl, rfl⟩)
          go_round
          case rel => exact ⟨k + 1, by omega, by go_num, by rw [hnx.out]; congr 1; have := hdv.out; rw [HV.out] at this; omega, rfl⟩
          case measure => simp [intOf]; omega
        · obtain ⟨c1, c2⟩ := c
          have hlow := or32_up (n : Int) (by omega)
          have HV := Lib.hid (show (if 48 ≤ n ∧ n ≤ 57 then (n : Int) - 48 else if 97 ≤ n then (n : Int) - 87 else (n : Int) - 55) = (n : Int) - 55 by rw [if_neg (by omega), if_neg (by omega)])
          go_wp2_with (go_at_call 156; refine (Tryd.internal_strconv_lower _ _).mono ?_; rintro e w1 ⟨rfl, rfl⟩)
          go_round
          case rel => exact ⟨k + 1, by omega, by go_num, by rw [hnx.out]; congr 1; have := hdv.out; rw [HV.out] at this; omega, rfl⟩
          case measure => simp [intOf]; omega
    · have hv := Lib.hid (show val 16 (s.data.toList.take k) = val 16 s.data.toList by rw [List.take_of_length_le (by simp; omega)])
      have hge : s.size ≤ k := by omega
      clear hlt
      generalize val 16 (s.data.toList.take k) = m at *
      go_wp2
      go_ret2
      exact ⟨by rw [← hv.out]; rfl, hb⟩

end Go.Proofs.YtkbjklnkeammiaaDoor.Oct
