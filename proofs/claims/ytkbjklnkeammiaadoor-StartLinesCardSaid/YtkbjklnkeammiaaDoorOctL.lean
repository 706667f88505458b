import Derived.Test.YtkbjklnkeammiaaDoorOctH
import Derived.Test.YtkbjklnkeammiaaDoorOctU
import Derived.Test.YtkbjklnkeammiaaDoorOctF
import Derived.BigQuiet
import Derived.Deep.QuietTactic
namespace Go.Proofs.YtkbjklnkeammiaaDoor.Oct
open Go.RowKit
set_option linter.unusedVariables false

theorem tabIs_below {n : String} {g : Nat} {k : IntKind} {zs : List Int} {w w' : World} (hg : Tryd.prog.globalNamed n = some g) (h : Lib.TabIs Tryd.prog w n k zs) (hb : Below w.heap.size w w') : Lib.TabIs Tryd.prog w' n k zs := by
  unfold Lib.TabIs World.var? at h ⊢
  rw [hg] at h ⊢
  simp only [Option.bind_some] at h ⊢
  have hlt : g < w.heap.size := by
    rcases Nat.lt_or_ge g w.heap.size with h' | h'
    · exact h'
    · rw [Array.getElem?_eq_none h'] at h; cases h
  rw [hb.block g hlt]
  exact h
theorem Env.below {w w' : World} (h : Env w) (hb : Below w.heap.size w w') : Env w' := by
  obtain ⟨m, hm⟩ := h.ml
  exact ⟨tabIs_below (g := 2) (by kernel_rfl) h.pow hb, (hb.cell (World.block_lt_of_cell? _ _ h.tz)).trans h.tz, m, (hb.cell (World.block_lt_of_cell? _ _ hm)).trans hm⟩

theorem below_drewN {B : Nat} {a w : World} {n : Nat} (h : Below B a w) : Below B a (w.drewN n) := ⟨h.os, h.tape, h.output, h.size, h.block⟩
def cutS (n : Nat) (s : ByteArray) : ByteArray := ⟨(s.data.toList.take n).toArray⟩
theorem cutS_size (n : Nat) (s : ByteArray) : (cutS n s).size ≤ n := by
  show (cutS n s).data.size ≤ n
  unfold cutS; rw [List.size_toArray, List.length_take]; omega
theorem cutS_id {n : Nat} {s : ByteArray} (h : s.size ≤ n) : cutS n s = s := by
  unfold cutS; rw [List.take_of_length_le (by simpa using h)]
theorem cut_any (s : ByteArray) (n : Nat) (w : World) :
    Calls Tryd.prog 24 #[.string s, .int .i64 n] w fun e w' => e = .returned (.string (cutS n s)) ∧ w = w' := by
  go_enter Tryd.func24, Tryd.ntmps24
  by_cases h : (n : Int) < s.size
  · go_wp2_with fail
    go_ret
    exact ⟨ret_str (ba_take s n), rfl⟩
  · go_wp2_with fail
    go_ret
    exact ⟨ret_str (cutS_id (by omega)).symm, rfl⟩

theorem same_any (xs ys : List ByteArray) (va vb : Value) (w : World) (ha : Strs w va xs) (hb : Strs w vb ys) (hN : xs.length ≤ 140737488355328) :
    Calls Tryd.prog 21 #[va, vb] w fun e w' => e = .returned (.bool (decide (xs = ys))) ∧ Below w.heap.size w w' := by
  go_enter Tryd.func21, Tryd.ntmps21
  obtain ⟨A, ca, rfl, hca, hra⟩ := ha
  obtain ⟨B, cb, rfl, hcb, hrb⟩ := hb
  by_cases hl : xs.length = ys.length
  · by_cases hp : 0 < xs.length
    · obtain ⟨ba, oa, rfl, hla, hxa⟩ := hra hp
      obtain ⟨bb, ob, rfl, hlb, hxb⟩ := hrb (by omega)
      go_wp2_with fail
      go_loopw [13] (fun i wr => ∃ k : Nat, k ≤ xs.length ∧ i = .int .i64 k ∧ Hid (xs.take k = ys.take k) ∧ Below w.heap.size w wr) (fun i _ => xs.length - (intOf i).toNat)
      case atStart => exact ⟨0, Nat.zero_le _, rfl, Lib.hid rfl, Below.refl _ _⟩
      case round =>
        obtain ⟨k, hk, rfl, hall, hbw⟩ := hrel
        by_cases hlt : k < xs.length
        · have hlt2 : k < ys.length := by omega
          have hx := (hbw.cell (p := ⟨ba, oa + k, none⟩) hla).trans (hxa k xs[k] (by simp [hlt]))
          have hy := (hbw.cell (p := ⟨bb, ob + k, none⟩) hlb).trans (hxb k (ys[k]'(by omega)) (by simp))
          by_cases hxy : xs[k] = ys[k]'(by omega)
          · have htest : (!xs[k].toList == (ys[k]'(by omega)).toList) = false := by rw [str_eq, decide_eq_true hxy]; rfl
            have hnx := Lib.hid (show xs.take (k + 1) = ys.take (k + 1) by rw [List.take_succ_eq_append_getElem hlt, List.take_succ_eq_append_getElem hlt2, hall.out, hxy])
            clear hxy
            go_wp2_with fail
            go_quiet (fail)
            go_wp2_with fail
            go_roundw
            case rel => exact ⟨k + 1, by omega, by go_num, hnx, below_drewN hbw⟩
            case measure => simp [intOf]; omega
          · have htest : (!xs[k].toList == (ys[k]'(by omega)).toList) = true := by rw [str_eq, decide_eq_false hxy]; rfl
            have hne := Lib.hid hxy
            clear hxy
            go_wp2_with fail
            go_quiet (fail)
            go_wp2_with fail
            go_ret
            exact ⟨ret_bool (by rw [decide_eq_false]; intro h; subst h; exact hne.out rfl), below_drewN hbw⟩
        · go_wp2_with fail
          go_ret
          exact ⟨ret_bool (by rw [decide_eq_true]; have h := hall.out; rwa [List.take_of_length_le (by omega), List.take_of_length_le (by omega)] at h), hbw⟩
    · have hx : xs = [] := List.length_eq_zero_iff.1 (by omega)
      subst hx
      have hy : ys = [] := List.length_eq_zero_iff.1 hl.symm
      subst hy
      go_wp2_with fail
      go_loopw [13] (fun i wr => i = .int .i64 0 ∧ wr = w) (fun _ _ => 0)
      case atStart => exact ⟨rfl, rfl⟩
      case round =>
        obtain ⟨rfl, rfl⟩ := hrel
        go_wp2_with fail
        go_ret
        exact ⟨rfl, Below.refl _ _⟩
  · have hl' : ((xs.length : Int) == (ys.length : Int)) = false := by simp; omega
    have hl2 : ((xs.length : Int) != (ys.length : Int)) = true := by simp; omega
    go_wp2_with fail
    go_ret
    exact ⟨ret_bool (by rw [decide_eq_false]; intro h; exact hl (by rw [h])), Below.refl _ _⟩
theorem n0 : numS 16 8 ⟨#[49, 70]⟩ 31 = (31, 0) := by decide +kernel
theorem n1 : numS 16 8 ⟨#[49, 70]⟩ 30 = (0, 3) := by decide +kernel
theorem t0 : tokenS ⟨#[71, 69, 84]⟩ = true := by decide +kernel
theorem t1 : targetS ⟨#[47]⟩ = true := by decide +kernel
theorem l0 : lowerS ⟨#[97, 66]⟩ = ⟨#[97, 98]⟩ := by decide +kernel
theorem l1 : listS [⟨#[97, 44, 32, 98]⟩, ⟨#[44, 99]⟩] = [⟨#[97]⟩, ⟨#[98]⟩, ⟨#[99]⟩] := by decide +kernel
theorem x0 : hexS 255 = ⟨#[102, 102]⟩ := by decide +kernel
theorem j0 : (Lib.join ([⟨#[97, 44, 32, 98]⟩, ⟨#[44, 99]⟩].map (fun x : ByteArray => x.data.toList)) [44]).length ≤ 1099511627776 := by decide +kernel
theorem hex_31 (w : World) : Calls Tryd.prog 37 #[.string ⟨#[49, 70]⟩, .int .i64 31] w fun e w' => e = .returned (.tuple #[.int .i64 31, .int .i64 0]) ∧ Below w.heap.size w w' :=
  (hex_any ⟨#[49, 70]⟩ (by decide) 31 w).mono fun e w' ⟨h, hb⟩ => ⟨by rw [h, n0], hb⟩
theorem hex_30 (w : World) : Calls Tryd.prog 37 #[.string ⟨#[49, 70]⟩, .int .i64 30] w fun e w' => e = .returned (.tuple #[.int .i64 0, .int .i64 3]) ∧ Below w.heap.size w w' :=
  (hex_any ⟨#[49, 70]⟩ (by decide) 30 w).mono fun e w' ⟨h, hb⟩ => ⟨by rw [h, n1], hb⟩
theorem token_get (w : World) : Calls Tryd.prog 25 #[.string ⟨#[71, 69, 84]⟩] w fun e w' => e = .returned (.bool true) ∧ w = w' :=
  (token_any ⟨#[71, 69, 84]⟩ (by decide) w).mono fun e w' ⟨h, hb⟩ => ⟨by rw [h, t0], hb⟩
theorem target_root (w : World) : Calls Tryd.prog 27 #[.string ⟨#[47]⟩] w fun e w' => e = .returned (.bool true) ∧ w = w' :=
  (target_any ⟨#[47]⟩ (by decide) w).mono fun e w' ⟨h, hb⟩ => ⟨by rw [h, t1], hb⟩
theorem lower_ab (w : World) : Calls Tryd.prog 31 #[.string ⟨#[97, 66]⟩] w fun e w' => e = .returned (.string ⟨#[97, 98]⟩) ∧ Below w.heap.size w w' :=
  (lower_any ⟨#[97, 66]⟩ (by decide) w).mono fun e w' ⟨h, hb⟩ => ⟨by rw [h, l0], hb⟩
theorem hexDigits_255 (w : World) (he : Env w) : Calls Tryd.prog 40 #[.int .i64 255] w fun e w' => e = .returned (.string ⟨#[102, 102]⟩) ∧ Below w.heap.size w w' :=
  (hexDigits_any 255 (by decide) w he).mono fun e w' ⟨h, hb⟩ => ⟨by rw [h, x0], hb⟩
/-- A text in two cells, new. -/
theorem ownStrs_new (w : World) (xs : List ByteArray) (hN : xs.length ≤ 140737488355328) : OwnStrs (w.alloc (.cells (xs.map Value.string).toArray 9)) w.heap.size (.slice (some ⟨w.heap.size, 0, none⟩) xs.length xs.length) xs :=
  ⟨by simp, .inr ⟨w.heap.size, xs.length, (xs.map Value.string).toArray, rfl, Nat.le_refl _, blk_new _ _, Nat.le_refl _, by unfold maxLen; omega, by simp, by simpa using List.take_of_length_le (by simp)⟩⟩
set_option maxRecDepth 100000 in
set_option maxHeartbeats 1000000 in
theorem awake_any (w : World) (he : Env w) :
    Calls Tryd.prog 19 #[] w fun e w' => e = .returned (.bool true) ∧ Below w.heap.size w w' := by
  have HE := Lib.hid he
  clear he
  go_enter Tryd.func19, Tryd.ntmps19
  go_wp2_with (first
    | (go_at_call 37; first | (with_reducible refine (hex_31 _).mono ?_; rintro e w1 ⟨rfl, hb1⟩; replace hb1 := Lib.hid hb1) | (with_reducible refine (hex_30 _).mono ?_; rintro e w2 ⟨rfl, hb2⟩; replace hb2 := Lib.hid hb2))
    | (go_at_call 25; with_reducible refine (token_get _).mono ?_; rintro e w1' ⟨rfl, rfl⟩)
    | (go_at_call 27; with_reducible refine (target_root _).mono ?_; rintro e w1' ⟨rfl, rfl⟩)
    | (go_at_call 31; with_reducible refine (lower_ab _).mono ?_; rintro e w3 ⟨rfl, hb3⟩; replace hb3 := Lib.hid hb3))
  have hs3 := (ownStrs_new w3 [⟨#[97, 44, 32, 98]⟩, ⟨#[44, 99]⟩] (by decide)).strs
  go_wp2_with (first
    | (go_at_call 22; refine (list_any [⟨#[97, 44, 32, 98]⟩, ⟨#[44, 99]⟩] _ _ hs3 (by decide) j0).mono ?_; rintro e w4 ⟨u, rfl, hu, hb4⟩))
  rw [l1] at hu
  have hs4 := (ownStrs_new w4 [⟨#[97]⟩, ⟨#[98]⟩, ⟨#[99]⟩] (by decide)).strs
  have hu4 := hu.strs.below ((Below.refl _ w4).alloc (Nat.le_refl _) (.cells (([⟨#[97]⟩, ⟨#[98]⟩, ⟨#[99]⟩] : List ByteArray).map Value.string).toArray 9))
  have b2 := hb1.out.trans (hb2.out.mono hb1.out.size)
  have b3 := b2.trans (hb3.out.mono b2.size)
  have b4 := b3.alloc b3.size (.cells #[.string ⟨#[97, 44, 32, 98]⟩, .string ⟨#[44, 99]⟩] 9)
  have hb34 : Below w.heap.size w w4 := b4.trans (hb4.mono b4.size)
  clear b2 b3 b4
  replace hb34 := Lib.hid hb34
  clear hb1 hb2 hb3 hb4
  go_wp2_with (first
    | (go_at_call 21; refine (same_any _ _ _ _ _ hu4 hs4 (by decide)).mono ?_; rintro e w5 ⟨rfl, hb5⟩; rw [decide_eq_true rfl]; have b5 := hb34.out.trans ((((Below.refl _ w4).alloc (Nat.le_refl _) _).trans (hb5.mono (by simp))).mono hb34.out.size); replace b5 := Lib.hid b5; clear hb5)
    | (go_at_call 40; refine (hexDigits_255 _ (HE.out.below b5.out)).mono ?_; rintro e w6 ⟨rfl, hb6⟩))
  go_ret
  exact ⟨rfl, b5.out.trans (hb6.mono b5.out.size)⟩

/-! ### The laws -/
set_option maxHeartbeats 1000000 in
theorem may_any (s : ByteArray) (w : World) (he : Env w) :
    Calls Tryd.prog 5 #[.string s] w fun e w' => e = .returned (.bool true) ∧ Below w.heap.size w w' := by
  have HE := Lib.hid he
  clear he
  have hz : (cutS 70 s).size ≤ maxLen := Nat.le_trans (cutS_size 70 s) (by decide)
  go_enter Tryd.func5, Tryd.ntmps5
  go_wp2_with (first
    | (go_at_call 19; with_reducible refine (awake_any _ HE.out).mono ?_; rintro e w1 ⟨rfl, hb1⟩; replace hb1 := Lib.hid hb1)
    | (go_at_call 24; refine (cut_any s 70 _).mono ?_; rintro e w1' ⟨rfl, rfl⟩; generalize cutS 70 s = t at *)
    | (go_at_call 25; refine (token_any t hz _).mono ?_; rintro e w1' ⟨rfl, rfl⟩)
    | (go_at_call 26; refine (refToken_any t hz _).mono ?_; rintro e w1' ⟨rfl, rfl⟩)
    | (go_at_call 27; refine (target_any t hz _).mono ?_; rintro e w1' ⟨rfl, rfl⟩)
    | (go_at_call 28; refine (refTarget_any t hz _).mono ?_; rintro e w1' ⟨rfl, rfl⟩)
    | (go_at_call 29; refine (value_any t hz _).mono ?_; rintro e w2 ⟨rfl, hb2⟩; replace hb2 := Lib.hid hb2)
    | (go_at_call 30; refine (refValue_any t hz _).mono ?_; rintro e w3' ⟨rfl, rfl⟩))
  go_ret
  exact ⟨rfl, hb1.out.trans (hb2.out.mono hb1.out.size)⟩
end Go.Proofs.YtkbjklnkeammiaaDoor.Oct
