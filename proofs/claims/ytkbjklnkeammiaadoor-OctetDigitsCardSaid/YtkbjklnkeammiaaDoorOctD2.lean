import Derived.Test.YtkbjklnkeammiaaDoorOctP
namespace Go.Proofs.YtkbjklnkeammiaaDoor.Oct
open Go.RowKit
set_option linter.unusedVariables false
theorem wf_le {n : Int} (h : (Lit.int .i64 n).wf = true) : n ≤ 9223372036854775807 := by
  unfold Lit.wf at h
  simp only [Bool.and_eq_true, decide_eq_true_eq] at h
  exact h.2
set_option maxRecDepth 100000 in
set_option maxHeartbeats 2000000 in
theorem digits_law (n : Int) (hn : n ≤ 9223372036854775807) (w : World) (he : Env w) :
    Calls Tryd.prog 8 #[.int .i64 n] w fun e w' => e = .returned (.bool true) ∧ Below w.heap.size w w' := by
  have HE := Lib.hid he
  clear he
  have hx := digits_any n hn
  have hy := hexDigits_any n hn
  have px := refPrint10 n hn
  have py := refPrint16 n hn
  have bx := Lib.hid (back10 n)
  have bY := Lib.hid (back16 n)
  have zx : (decS n).size ≤ maxLen := by rw [decS_dig, ba_size]; have := digL_len (b := 10) (by decide) n.toNat; unfold maxLen; omega
  have zy : (hexS n).size ≤ maxLen := by rw [hexS_dig, ba_size]; have := digL_len (b := 16) (by decide) n.toNat; unfold maxLen; omega
  generalize decS n = x at *
  generalize hexS n = y at *
  generalize hp : numS 10 10 x 4611686018427387904 = p at *
  generalize hq : numS 16 8 y 4611686018427387904 = q at *
  have d1 := fun W => hp ▸ dec_any x zx 4611686018427387904 W
  have d2 := fun W => hq ▸ hex_any y zy 4611686018427387904 W
  clear hp hq
  by_cases c1 : x.size ≤ 10
  · rw [bx.out c1] at d1
    by_cases c2 : y.size ≤ 8
    · rw [bY.out c2] at d2
      go_enter Tryd.func8, Tryd.ntmps8
      go_wp2_with (first
        | (go_at_call 19; with_reducible refine (awake_any _ HE.out).mono ?_; rintro e w1 ⟨rfl, hb1⟩; have hB := Lib.hid hb1; clear hb1)
        | (go_at_call 39; with_reducible refine (hx _ (HE.out.below hB.out)).mono ?_; rintro e w2 ⟨rfl, hb2⟩; replace hB := Lib.hid (hB.out.trans (hb2.mono hB.out.size)); clear hb2)
        | (go_at_call 40; with_reducible refine (hy _ (HE.out.below hB.out)).mono ?_; rintro e w2 ⟨rfl, hb2⟩; replace hB := Lib.hid (hB.out.trans (hb2.mono hB.out.size)); clear hb2)
        | (go_at_call 41; first | (with_reducible refine (px _).mono ?_; rintro e w2 ⟨rfl, hb2⟩; replace hB := Lib.hid (hB.out.trans (hb2.mono hB.out.size)); clear hb2) | (with_reducible refine (py _).mono ?_; rintro e w2 ⟨rfl, hb2⟩; replace hB := Lib.hid (hB.out.trans (hb2.mono hB.out.size)); clear hb2))
        | (go_at_call 36; refine (d1 _).mono ?_; rintro e w2 ⟨rfl, hb2⟩; replace hB := Lib.hid (hB.out.trans (hb2.mono hB.out.size)); clear hb2)
        | (go_at_call 37; refine (d2 _).mono ?_; rintro e w2 ⟨rfl, hb2⟩; replace hB := Lib.hid (hB.out.trans (hb2.mono hB.out.size)); clear hb2))
      go_ret
      exact ⟨rfl, hB.out⟩
    · have c2' : (8 : Int) < y.size := by omega
      clear c2
      go_enter Tryd.func8, Tryd.ntmps8
      go_wp2_with (first
        | (go_at_call 19; with_reducible refine (awake_any _ HE.out).mono ?_; rintro e w1 ⟨rfl, hb1⟩; have hB := Lib.hid hb1; clear hb1)
        | (go_at_call 39; with_reducible refine (hx _ (HE.out.below hB.out)).mono ?_; rintro e w2 ⟨rfl, hb2⟩; replace hB := Lib.hid (hB.out.trans (hb2.mono hB.out.size)); clear hb2)
        | (go_at_call 40; with_reducible refine (hy _ (HE.out.below hB.out)).mono ?_; rintro e w2 ⟨rfl, hb2⟩; replace hB := Lib.hid (hB.out.trans (hb2.mono hB.out.size)); clear hb2)
        | (go_at_call 41; first | (with_reducible refine (px _).mono ?_; rintro e w2 ⟨rfl, hb2⟩; replace hB := Lib.hid (hB.out.trans (hb2.mono hB.out.size)); clear hb2) | (with_reducible refine (py _).mono ?_; rintro e w2 ⟨rfl, hb2⟩; replace hB := Lib.hid (hB.out.trans (hb2.mono hB.out.size)); clear hb2))
        | (go_at_call 36; refine (d1 _).mono ?_; rintro e w2 ⟨rfl, hb2⟩; replace hB := Lib.hid (hB.out.trans (hb2.mono hB.out.size)); clear hb2)
        | (go_at_call 37; refine (d2 _).mono ?_; rintro e w2 ⟨rfl, hb2⟩; replace hB := Lib.hid (hB.out.trans (hb2.mono hB.out.size)); clear hb2))
      go_ret
      exact ⟨rfl, hB.out⟩
  · have c1' : (10 : Int) < x.size := by omega
    clear c1
    by_cases c2 : y.size ≤ 8
    · rw [bY.out c2] at d2
      go_enter Tryd.func8, Tryd.ntmps8
      go_wp2_with (first
        | (go_at_call 19; with_reducible refine (awake_any _ HE.out).mono ?_; rintro e w1 ⟨rfl, hb1⟩; have hB := Lib.hid hb1; clear hb1)
        | (go_at_call 39; with_reducible refine (hx _ (HE.out.below hB.out)).mono ?_; rintro e w2 ⟨rfl, hb2⟩; replace hB := Lib.hid (hB.out.trans (hb2.mono hB.out.size)); clear hb2)
        | (go_at_call 40; with_reducible refine (hy _ (HE.out.below hB.out)).mono ?_; rintro e w2 ⟨rfl, hb2⟩; replace hB := Lib.hid (hB.out.trans (hb2.mono hB.out.size)); clear hb2)
        | (go_at_call 41; first | (with_reducible refine (px _).mono ?_; rintro e w2 ⟨rfl, hb2⟩; replace hB := Lib.hid (hB.out.trans (hb2.mono hB.out.size)); clear hb2) | (with_reducible refine (py _).mono ?_; rintro e w2 ⟨rfl, hb2⟩; replace hB := Lib.hid (hB.out.trans (hb2.mono hB.out.size)); clear hb2))
        | (go_at_call 36; refine (d1 _).mono ?_; rintro e w2 ⟨rfl, hb2⟩; replace hB := Lib.hid (hB.out.trans (hb2.mono hB.out.size)); clear hb2)
        | (go_at_call 37; refine (d2 _).mono ?_; rintro e w2 ⟨rfl, hb2⟩; replace hB := Lib.hid (hB.out.trans (hb2.mono hB.out.size)); clear hb2))
      go_ret
      exact ⟨rfl, hB.out⟩
    · have c2' : (8 : Int) < y.size := by omega
      clear c2
      go_enter Tryd.func8, Tryd.ntmps8
      go_wp2_with (first
        | (go_at_call 19; with_reducible refine (awake_any _ HE.out).mono ?_; rintro e w1 ⟨rfl, hb1⟩; have hB := Lib.hid hb1; clear hb1)
        | (go_at_call 39; with_reducible refine (hx _ (HE.out.below hB.out)).mono ?_; rintro e w2 ⟨rfl, hb2⟩; replace hB := Lib.hid (hB.out.trans (hb2.mono hB.out.size)); clear hb2)
        | (go_at_call 40; with_reducible refine (hy _ (HE.out.below hB.out)).mono ?_; rintro e w2 ⟨rfl, hb2⟩; replace hB := Lib.hid (hB.out.trans (hb2.mono hB.out.size)); clear hb2)
        | (go_at_call 41; first | (with_reducible refine (px _).mono ?_; rintro e w2 ⟨rfl, hb2⟩; replace hB := Lib.hid (hB.out.trans (hb2.mono hB.out.size)); clear hb2) | (with_reducible refine (py _).mono ?_; rintro e w2 ⟨rfl, hb2⟩; replace hB := Lib.hid (hB.out.trans (hb2.mono hB.out.size)); clear hb2))
        | (go_at_call 36; refine (d1 _).mono ?_; rintro e w2 ⟨rfl, hb2⟩; replace hB := Lib.hid (hB.out.trans (hb2.mono hB.out.size)); clear hb2)
        | (go_at_call 37; refine (d2 _).mono ?_; rintro e w2 ⟨rfl, hb2⟩; replace hB := Lib.hid (hB.out.trans (hb2.mono hB.out.size)); clear hb2))
      go_ret
      exact ⟨rfl, hB.out⟩
end Go.Proofs.YtkbjklnkeammiaaDoor.Oct
