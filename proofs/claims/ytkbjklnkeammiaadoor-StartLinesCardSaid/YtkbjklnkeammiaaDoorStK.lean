/- The law StartRequests. -/
import Derived.Test.YtkbjklnkeammiaaDoorStJ
import Derived.Test.YtkbjklnkeammiaaDoorStI
namespace Go.Proofs.YtkbjklnkeammiaaDoor.Oct
open Go.RowKit
set_option linter.unusedVariables false
theorem splC_parts {c : UInt8} {l : List UInt8} (h : (splC c l).2.2 = true) : ∃ a b, splC c l = (a, b, true) ∧ l = a ++ c :: b := by
  have hc := splC_cat h
  exact ⟨_, _, by rw [← h], hc⟩
theorem req_two (l : List UInt8) : reqOf l = (([], []), 2) ∨ ∃ m t, reqOf l = ((m, t), 0) ∧ l = m ++ 32 :: (t ++ 32 :: verL) ∧ tokenS (mk m) = true ∧ targetS (mk t) = true := by
  by_cases h : (splC 32 l).2.2 = true ∧ (splC 32 (splC 32 l).2.1).2.2 = true ∧ (splC 32 (splC 32 l).2.1).2.1 = verL ∧ tokenS (mk (splC 32 l).1) = true ∧ targetS (mk (splC 32 (splC 32 l).2.1).1) = true
  · refine .inr ⟨(splC 32 l).1, (splC 32 (splC 32 l).2.1).1, by rw [reqOf, if_pos h], ?_, h.2.2.2.1, h.2.2.2.2⟩
    have h1 := splC_cat h.1
    have h2 := splC_cat h.2.1
    rw [h.2.2.1] at h2
    rw [← h2]; exact h1
  · exact .inl (by rw [reqOf, if_neg h])
theorem cutL (n : Nat) (s : ByteArray) : ∃ l, cutS n s = mk l ∧ l.length ≤ n := ⟨s.data.toList.take n, rfl, by rw [List.length_take]; omega⟩
theorem parseL (l : List UInt8) (hl : l.length ≤ 100000) (w : World) (he : Env w) : Calls Tryd.prog 43 #[.string (mk l)] w fun e w' => e = .returned (.tuple #[reqV (reqOf l).1, .int .i64 (reqOf l).2]) ∧ Below w.heap.size w w' :=
  parseRequest_any (mk l) (by rw [mk_size]; exact hl) w he
theorem refParseL (l : List UInt8) (hl : l.length ≤ 100000) (w : World) : Calls Tryd.prog 44 #[.string (mk l)] w fun e w' => e = .returned (.tuple #[reqV (reqOf l).1, .int .i64 (reqOf l).2]) ∧ Below w.heap.size w w' :=
  refParseRequest_any (mk l) (by rw [mk_size]; exact hl) w
theorem cut120 (s : ByteArray) (w : World) : Calls Tryd.prog 24 #[.string s, .int .i64 120] w fun e w' => e = .returned (.string (cutS 120 s)) ∧ w = w' := cut_any s 120 w
set_option maxRecDepth 100000 in
set_option maxHeartbeats 4000000 in
theorem requests_any (s : ByteArray) (w : World) (he : SEnv w) :
    Calls Tryd.prog 9 #[.string s] w fun e w' => e = .returned (.bool true) ∧ Below w.heap.size w w' := by
  have HE := Lib.hid he
  clear he
  have d0 := cut120 s
  obtain ⟨l, hl, hlen⟩ := cutL 120 s
  rw [hl] at d0
  clear hl
  have d1 := fun W (h : Env W) => parseL l (by omega) W h
  have d2 := refParseL l (by omega)
  rcases req_two l with hR | ⟨m, t, hR, hcat, hT, hG⟩
  · rw [hR] at d2
    simp only [hR] at d1
    unfold reqV at d1 d2
    clear hR
    replace d1 := Lib.hid d1
    go_enter Tryd.func9, Tryd.ntmps9
    go_wp2_with (first
      | (go_at_call 42; with_reducible refine (sawake_any _ HE.out).mono ?_; rintro e w1 ⟨rfl, hb⟩; have hB := Lib.hid hb; clear hb)
      | (go_at_call 24; with_reducible refine (d0 _).mono ?_; rintro e w1' ⟨rfl, rfl⟩)
      | (go_at_call 43; refine (d1.out _ (HE.out.toEnv.below hB.out)).mono ?_; rintro e w2 ⟨rfl, hb⟩; replace hB := Lib.hid (hB.out.trans (hb.mono hB.out.size)); clear hb)
      | (go_at_call 44; refine (d2 _).mono ?_; rintro e w3 ⟨rfl, hb⟩; obtain ⟨r0, r1, g0, g1, nr, lr⟩ := two_of hb; replace hB := Lib.hid (grow_one hB.out hb); clear hb g0 g1))
    all_goals go_ret
    all_goals exact ⟨rfl, by (repeat' (first | exact hB.out | refine Below.alloc ?_ (by have := hB.out.size; first | (simp; done) | (simp; omega) | omega) _ | refine below_drewN ?_))⟩
  · have hml : m.length ≤ 120 := by have := congrArg List.length hcat; simp at this; omega
    have htl : t.length ≤ 120 := by have := congrArg List.length hcat; simp at this; omega
    have k1 := cat_lit l [13, 10] ⟨#[13, 10]⟩ rfl (by simp; omega)
    rw [show l ++ [13, 10] = reqLine m t by rw [hcat]; simp [reqLine]] at k1
    have d3 := reqLine_any m t (by omega) (by omega)
    have d4 := check_any m t (by omega) (by omega)
    rw [if_pos ⟨hT, hG⟩] at d4
    rw [hR] at d2
    simp only [hR] at d1
    unfold reqV at d1 d2 d3 d4
    generalize reqLine m t = Z at *
    clear hR hcat hT hG
    replace d1 := Lib.hid d1
    go_enter Tryd.func9, Tryd.ntmps9
    go_wp2_with (first
      | (go_at_call 42; with_reducible refine (sawake_any _ HE.out).mono ?_; rintro e w1 ⟨rfl, hb⟩; have hB := Lib.hid hb; clear hb)
      | (go_at_call 24; with_reducible refine (d0 _).mono ?_; rintro e w1' ⟨rfl, rfl⟩)
      | (go_at_call 43; refine (d1.out _ (HE.out.toEnv.below hB.out)).mono ?_; rintro e w2 ⟨rfl, hb⟩; replace hB := Lib.hid (hB.out.trans (hb.mono hB.out.size)); clear hb)
      | (go_at_call 44; refine (d2 _).mono ?_; rintro e w3 ⟨rfl, hb⟩; obtain ⟨r0, r1, g0, g1, nr, lr⟩ := two_of hb; replace hB := Lib.hid (grow_one hB.out hb); clear hb g0 g1)
      | (go_at_call 45; refine (d3 _).mono ?_; rintro e w4 ⟨rfl, hb⟩; replace r0 := two_on hb r0; replace r1 := two_on hb r1; replace hB := Lib.hid (grow_one hB.out hb); clear hb)
      | (go_at_call 46; refine (d4 _).mono ?_; rintro e w5 ⟨rfl, rfl⟩))
    all_goals go_ret
    all_goals exact ⟨rfl, by (repeat' (first | exact hB.out | refine Below.alloc ?_ (by have := hB.out.size; first | (simp; done) | (simp; omega) | omega) _ | refine below_drewN ?_))⟩
end Go.Proofs.YtkbjklnkeammiaaDoor.Oct
