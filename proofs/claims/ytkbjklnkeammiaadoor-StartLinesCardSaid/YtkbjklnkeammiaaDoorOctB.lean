import Derived.Test.YtkbjklnkeammiaaDoorOctA
import Derived.Shelf.Strings.SlTrimAscii
import Derived.WalkKit
import Derived.WalkSpells
import Derived.WalkLawsBesides
import Derived.Lib.Hide
namespace Go.Proofs.YtkbjklnkeammiaaDoor.Oct
open Go.RowKit
set_option linter.unusedVariables false

/-- Is a byte of a class? -/
def inC (c : Int) (x : UInt8) : Bool := !(bits .and .u8 (ofB x.toNat) c == 0)
/-- Is each byte of a class? -/
def allC (c : Int) (s : ByteArray) : Bool := s.data.toList.all (inC c)

theorem take_snoc (s : ByteArray) (k : Nat) (h : k < s.size) : s.data.toList.take (k + 1) = s.data.toList.take k ++ [s[k]] := by
  rw [List.take_succ_eq_append_getElem (by simpa using h)]; rfl
theorem all_snoc {s : ByteArray} {p : UInt8 → Bool} {k : Nat} (hk : k < s.size) (h : Hid ((s.data.toList.take k).all p = true)) (hp : p s[k] = true) : Hid ((s.data.toList.take (k + 1)).all p = true) := by
  have h' := h.out
  have : (s.data.toList.take (k + 1)).all p = true := by rw [take_snoc s k hk, List.all_append, h']; simp [hp]
  exact this
theorem all_not {s : ByteArray} {p : UInt8 → Bool} {k : Nat} (hk : k < s.size) (hp : p s[k] = false) : s.data.toList.all p = false := by
  rw [List.all_eq_false]
  exact ⟨s[k], by rw [show s[k] = s.data.toList[k]'(by simpa using hk) from rfl]; exact List.getElem_mem _, by simp [hp]⟩
theorem all_end {s : ByteArray} {p : UInt8 → Bool} {k : Nat} (hk : s.size ≤ k) (h : Hid ((s.data.toList.take k).all p = true)) : s.data.toList.all p = true := by
  have h' := h.out
  rwa [List.take_of_length_le (by simpa using hk)] at h'

set_option maxHeartbeats 400000 in
theorem all_any (s : ByteArray) (c : Int) (hs : s.size ≤ maxLen) (w : World) :
    Calls Tryd.prog 69 #[.string s, .int .u8 c] w fun e w' => e = .returned (.bool (allC c s)) ∧ w = w' := by
  unfold maxLen at hs
  go_enter Tryd.func69, Tryd.ntmps69
  go_wp2_with fail
  go_loop [8] (fun i => ∃ k : Nat, k ≤ s.size ∧ i = .int .i64 k ∧ Hid ((s.data.toList.take k).all (inC c) = true)) (fun i => s.size - (intOf i).toNat)
  case atStart => exact ⟨0, Nat.zero_le _, rfl, Lib.hid rfl⟩
  case round =>
    obtain ⟨k, hk, rfl, hall⟩ := hrel
    by_cases hlt : k < s.size
    · have hb : (s[k].toNat : Int) < 256 := by have := s[k].toNat_lt; omega
      cases hg : (bits .and .u8 (ofB (s[k].toNat : Int)) c == 0)
      · have hp := Lib.hid (show inC c s[k] = true by unfold inC; rw [hg]; rfl)
        go_wp2_with (go_at_call 97; refine (of_any _ (by omega) (by omega) _).mono ?_; rintro e w1 ⟨rfl, rfl⟩)
        go_round
        case rel => exact ⟨k + 1, by omega, by go_num, all_snoc hlt hall hp.out⟩
        case measure => simp [intOf]; omega
      · have hp := Lib.hid (show inC c s[k] = false by unfold inC; rw [hg]; rfl)
        go_wp2_with (go_at_call 97; refine (of_any _ (by omega) (by omega) _).mono ?_; rintro e w1 ⟨rfl, rfl⟩)
        go_ret
        exact ⟨ret_bool (all_not hlt hp.out).symm, rfl⟩
    · go_wp2
      go_ret
      exact ⟨ret_bool (all_end (by omega) hall).symm, rfl⟩

/-- May a text be a token? -/
def tokenS (s : ByteArray) : Bool := decide (1 ≤ s.size) && decide (s.size ≤ 64) && allC 1 s

theorem nil_sz (s : ByteArray) : s.toList = [] ↔ s.size = 0 := by
  rw [Lib.toList_data, ← List.length_eq_zero_iff]; simp
theorem isEmpty_sz (s : ByteArray) : s.toList.isEmpty = decide (s.size = 0) := by
  rw [Bool.eq_iff_iff, List.isEmpty_iff, nil_sz]; simp

set_option maxHeartbeats 400000 in
theorem token_any (s : ByteArray) (hs : s.size ≤ maxLen) (w : World) :
    Calls Tryd.prog 25 #[.string s] w fun e w' => e = .returned (.bool (tokenS s)) ∧ w = w' := by
  go_enter Tryd.func25, Tryd.ntmps25
  go_wp2_with (go_at_call 69; refine (all_any _ _ hs _).mono ?_; rintro e w1 ⟨rfl, rfl⟩)
  · have h1 : s.toList = [] := by assumption
    rw [nil_sz] at h1
    go_ret
    exact ⟨ret_bool (by simp [tokenS, h1]), rfl⟩
  · have h1 : ¬ s.toList = [] := by assumption
    have h2 : (s.size : Int) ≤ 64 := by assumption
    rw [nil_sz] at h1
    go_ret
    exact ⟨ret_bool (by rw [tokenS, isEmpty_sz, decide_eq_false h1, decide_eq_true (show 1 ≤ s.size by omega), decide_eq_true (show s.size ≤ 64 by omega)]; rfl), rfl⟩
  · have h2 : 64 < (s.size : Int) := by assumption
    go_ret
    exact ⟨ret_bool (by rw [tokenS, decide_eq_false (show ¬ s.size ≤ 64 by omega)]; simp), rfl⟩

theorem prefix_head (l : List UInt8) : Lib.hasPrefix l [47] = decide (l.head? = some 47) := by
  cases l with
  | nil => rfl
  | cons a r => rw [Bool.eq_iff_iff, decide_eq_true_iff]; simp [Lib.hasPrefix, List.isPrefixOf]; exact eq_comm
/-- May a text be a target? -/
def targetS (s : ByteArray) : Bool := decide (s.data.toList.head? = some 47) && allC 2 s

set_option maxHeartbeats 400000 in
theorem target_any (s : ByteArray) (hs : s.size ≤ maxLen) (w : World) :
    Calls Tryd.prog 27 #[.string s] w fun e w' => e = .returned (.bool (targetS s)) ∧ w = w' := by
  go_enter Tryd.func27, Tryd.ntmps27
  go_wp2_with (first | (go_at_call 69; refine (all_any _ _ hs _).mono ?_; rintro e w1 ⟨rfl, rfl⟩) | (go_at_call 73; refine (Tryd.strings_HasPrefix _ _ _).mono ?_; rintro e w1 ⟨rfl, rfl⟩))
  · have h1 : Lib.hasPrefix s.data.toList [47] = true := by assumption
    go_ret
    exact ⟨ret_bool (by rw [targetS, ← prefix_head, h1]; rfl), rfl⟩
  · have h1 : ¬ Lib.hasPrefix s.data.toList [47] = true := by assumption
    go_ret
    exact ⟨ret_bool (by rw [targetS, ← prefix_head, (Bool.not_eq_true _).mp h1]; rfl), rfl⟩

/-- Without blanks about it. -/
def trimL (l : List UInt8) : List UInt8 := Lib.trimS l [32, 9]
def trimS (s : ByteArray) : ByteArray := ⟨(trimL s.data.toList).toArray⟩

theorem asciiSet_info : (Tryd.prog.info? (Tryd.lays160_ren.t 116)).map (fun i => (i.zero, i.size)) = some (some (.agg (Array.replicate 256 (.bool false))), 256) := by kernel_rfl

theorem strings_trim (s : ByteArray) (hs : s.size ≤ maxLen) (w : World) :
    Calls Tryd.prog 75 #[.string s, .string ⟨#[32, 9]⟩] w fun e w' => e = .returned (.string (trimS s)) ∧ Below w.heap.size w w' :=
  Any.strings_Trim_laid Tryd.lays160 asciiSet_info s ⟨#[32, 9]⟩ w hs (by decide) (ascii_of_all (by decide))

theorem bcell {W w1 : World} (hb : Below W.heap.size W w1) : (∀ b o, b < W.heap.size → w1.cell? ⟨b, o, none⟩ = W.cell? ⟨b, o, none⟩) ∧ (∀ b o, b < W.heap.size → w1.frozen? ⟨b, o, none⟩ = W.frozen? ⟨b, o, none⟩) :=
  ⟨fun b o h => hb.cell (p := ⟨b, o, none⟩) h, fun b o h => hb.frozen (p := ⟨b, o, none⟩) h⟩

set_option maxHeartbeats 400000 in
theorem trim_any (s : ByteArray) (hs : s.size ≤ maxLen) (w : World) :
    Calls Tryd.prog 34 #[.string s] w fun e w' => e = .returned (.string (trimS s)) ∧ Below w.heap.size w w' := by
  go_enter Tryd.func34, Tryd.ntmps34
  go_wp2_with (go_at_call 75; refine (strings_trim _ hs _).mono ?_; rintro e w1 ⟨rfl, hb⟩)
  go_ret
  exact ⟨rfl, hb⟩

theorem str_eq (a b : ByteArray) : (a.toList == b.toList) = decide (a = b) := by
  rw [Lib.toList_data, Lib.toList_data, Bool.eq_iff_iff, beq_iff_eq, decide_eq_true_iff]
  exact ⟨Go.WideShapes.bytes_inj, fun h => by rw [h]⟩
/-- May a text be a value? -/
def valueS (s : ByteArray) : Bool := allC 4 s && decide (trimS s = s)

set_option maxHeartbeats 400000 in
theorem value_any (s : ByteArray) (hs : s.size ≤ maxLen) (w : World) :
    Calls Tryd.prog 29 #[.string s] w fun e w' => e = .returned (.bool (valueS s)) ∧ Below w.heap.size w w' := by
  cases ha : allC 4 s
  · go_enter Tryd.func29, Tryd.ntmps29
    go_wp2_with (first | (go_at_call 69; refine (all_any _ _ hs _).mono ?_; rintro e w1 ⟨rfl, rfl⟩) | (go_at_call 34; refine (trim_any _ hs _).mono ?_; rintro e w1 ⟨rfl, hb⟩))
    go_ret
    exact ⟨ret_bool (by rw [valueS, ha]; rfl), Below.refl _ _⟩
  · go_enter Tryd.func29, Tryd.ntmps29
    go_wp2_with (first | (go_at_call 69; refine (all_any _ _ hs _).mono ?_; rintro e w1 ⟨rfl, rfl⟩) | (go_at_call 34; refine (trim_any _ hs _).mono ?_; rintro e w1 ⟨rfl, hb⟩))
    go_ret
    exact ⟨ret_bool (by rw [valueS, ha, str_eq]; rfl), hb⟩

end Go.Proofs.YtkbjklnkeammiaaDoor.Oct
