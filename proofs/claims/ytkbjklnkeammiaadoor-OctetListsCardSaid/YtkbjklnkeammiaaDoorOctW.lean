import Derived.Test.YtkbjklnkeammiaaDoorOctV
import Derived.Test.YtkbjklnkeammiaaDoorOctL
import Derived.Test.YtkbjklnkeammiaaDoorOctS
namespace Go.Proofs.YtkbjklnkeammiaaDoor.Oct
open Go.RowKit
set_option linter.unusedVariables false
set_option maxHeartbeats 1000000 in
theorem fold_any (a b : ByteArray) (ha : a.size ≤ maxLen) (hb : b.size ≤ maxLen) (w : World) :
    Calls Tryd.prog 33 #[.string a, .string b] w fun e w' => e = .returned (.bool ((lowerS a).toList == (lowerS b).toList)) ∧ Below w.heap.size w w' := by
  go_enter Tryd.func33, Tryd.ntmps33
  go_wp2_with (go_at_call 31; first | (with_reducible refine (lower_any a ha _).mono ?_; rintro e w1 ⟨rfl, hb1⟩; replace hb1 := Lib.hid hb1) | (with_reducible refine (lower_any b hb _).mono ?_; rintro e w2 ⟨rfl, hb2⟩; replace hb2 := Lib.hid hb2))
  go_ret
  exact ⟨rfl, hb1.out.trans (hb2.out.mono hb1.out.size)⟩
theorem lowerB_idem : ∀ b : UInt8, lowerB (lowerB b) = lowerB b := by
  have h : ∀ x : Fin 256, lowerB (lowerB (UInt8.ofNat x.val)) = lowerB (UInt8.ofNat x.val) := by decide +kernel
  intro b
  have := h ⟨b.toNat, b.toNat_lt⟩
  simpa only [UInt8.ofNat_toNat] using this
theorem lowerS_idem (s : ByteArray) : lowerS (lowerS s) = lowerS s := by
  unfold lowerS lowerL
  simp only [List.map_map]
  congr 2
  apply List.map_congr_left
  intro x _
  exact lowerB_idem x
theorem lowerS_size (s : ByteArray) : (lowerS s).size = s.size := by
  show (lowerS s).data.size = s.data.size
  unfold lowerS lowerL
  simp
theorem cut40 (s : ByteArray) (w : World) : Calls Tryd.prog 24 #[.string s, .int .i64 40] w fun e w' => e = .returned (.string (cutS 40 s)) ∧ w = w' := cut_any s 40 w
set_option maxRecDepth 100000 in
set_option maxHeartbeats 2000000 in
theorem cases_any (a b : ByteArray) (w : World) (he : Env w) :
    Calls Tryd.prog 6 #[.string a, .string b] w fun e w' => e = .returned (.bool true) ∧ Below w.heap.size w w' := by
  have HE := Lib.hid he
  clear he
  have hz : (cutS 40 a).size ≤ 40 := cutS_size 40 a
  have hy : (cutS 40 b).size ≤ 40 := cutS_size 40 b
  go_enter Tryd.func6, Tryd.ntmps6
  go_wp2_with (first
    | (go_at_call 19; with_reducible refine (awake_any _ HE.out).mono ?_; rintro e w1 ⟨rfl, hb1⟩; have hB := Lib.hid hb1; clear hb1)
    | (go_at_call 24; first | (with_reducible refine (cut40 a _).mono ?_; rintro e w1' ⟨rfl, rfl⟩) | (with_reducible refine (cut40 b _).mono ?_; rintro e w1' ⟨rfl, rfl⟩)))
  generalize cutS 40 a = x at *
  generalize cutS 40 b = y at *
  have hzz : (lowerS x).size ≤ maxLen := by rw [lowerS_size]; exact Nat.le_trans hz (by decide)
  have hz1 : x.size ≤ maxLen := Nat.le_trans hz (by decide)
  have hy1 : y.size ≤ maxLen := Nat.le_trans hy (by decide)
  have hz2 : x.size ≤ 1099511627776 := Nat.le_trans hz (by decide)
  have hy2 : y.size ≤ 1099511627776 := Nat.le_trans hy (by decide)
  have hid := lowerS_idem x
  obtain ⟨q, hq⟩ : ∃ q : Bool, ((lowerS x).toList == (lowerS y).toList) = q := ⟨_, rfl⟩
  go_wp2_with (first
    | (go_at_call 31; first | (with_reducible refine (lower_any x hz1 _).mono ?_; rintro e w2 ⟨rfl, hb2⟩; replace hB := Lib.hid (hB.out.trans (hb2.mono hB.out.size)); clear hb2) | (with_reducible refine (lower_any (lowerS x) hzz _).mono ?_; rintro e w2 ⟨rfl, hb2⟩; replace hB := Lib.hid (hB.out.trans (hb2.mono hB.out.size)); clear hb2))
    | (go_at_call 32; first | (with_reducible refine (refLower_any x hz2 _).mono ?_; rintro e w2 ⟨rfl, hb2⟩; replace hB := Lib.hid (hB.out.trans (hb2.mono hB.out.size)); clear hb2) | (with_reducible refine (refLower_any y hy2 _).mono ?_; rintro e w2 ⟨rfl, hb2⟩; replace hB := Lib.hid (hB.out.trans (hb2.mono hB.out.size)); clear hb2))
    | (go_at_call 33; with_reducible refine (fold_any x y hz1 hy1 _).mono ?_; rintro e w2 ⟨rfl, hb2⟩; replace hB := Lib.hid (hB.out.trans (hb2.mono hB.out.size)); clear hb2)
    | (go_at_call 34; with_reducible refine (trim_any x hz1 _).mono ?_; rintro e w2 ⟨rfl, hb2⟩; replace hB := Lib.hid (hB.out.trans (hb2.mono hB.out.size)); clear hb2)
    | (go_at_call 35; with_reducible refine (refTrim_any x hz1 _).mono ?_; rintro e w2' ⟨rfl, rfl⟩))
  go_ret
  exact ⟨rfl, hB.out⟩
end Go.Proofs.YtkbjklnkeammiaaDoor.Oct
