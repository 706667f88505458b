/- The law StartStatuses. -/
import Derived.Test.YtkbjklnkeammiaaDoorStK
namespace Go.Proofs.YtkbjklnkeammiaaDoor.Oct
open Go.RowKit
set_option linter.unusedVariables false
theorem dec_three : ∀ k : Fin 400, (Lib.decDigits (200 + k.val)).length = 3 := by decide +kernel
theorem dec3 {c : Int} (h1 : 200 ≤ c) (h2 : c ≤ 599) : (decL c).length = 3 := by
  have h := dec_three ⟨c.toNat - 200, by omega⟩
  simp only at h
  rw [show 200 + (c.toNat - 200) = c.toNat by omega] at h
  exact h
theorem codeN_id {c : Int} (h1 : 200 ≤ c) (h2 : c ≤ 599) : codeN c = c := by unfold codeN; omega
theorem num_le {s : ByteArray} {most : Int} (h : (numS 10 10 s most).2 = 0) : (numS 10 10 s most).1 ≤ most := by
  unfold numS at h ⊢
  split
  · rename_i h1; rw [if_pos h1] at h; exact absurd h (by decide)
  · rename_i h1
    rw [if_neg h1] at h
    split
    · rename_i h2; rw [if_pos h2] at h; exact absurd h (by decide)
    · rename_i h2; show ((val 10 s.data.toList : Nat) : Int) ≤ most; omega
theorem st_two (l : List UInt8) : stOf l = ((0, []), 2) ∨ ∃ c r, stOf l = ((c, r), 0) ∧ 200 ≤ c ∧ c ≤ 599 ∧ valueS (mk r) = true ∧ r.length ≤ l.length := by
  by_cases h : 12 ≤ l.length ∧ l.take 9 = ver9 ∧ (dOf l).2 = 0 ∧ 200 ≤ (dOf l).1 ∧ (l.length = 12 ∨ (l.drop 12).head? = some 32) ∧ valueS (mk (l.drop 13)) = true
  · exact .inr ⟨(dOf l).1, l.drop 13, by rw [stOf, if_pos h], h.2.2.2.1, num_le h.2.2.1, h.2.2.2.2.2, by rw [List.length_drop]; omega⟩
  · exact .inl (by rw [stOf, if_neg h])
theorem num_three {c : Int} (h1 : 200 ≤ c) (h2 : c ≤ 599) : numS 10 10 (mk (decL c)) 599 = (c, 0) := by
  obtain ⟨a1, a2, a3⟩ := digL_all (b := 10) (by decide) c.toNat
  have hl := dec3 h1 h2
  have hz := mk_size (decL c)
  rw [numS, if_neg (by rintro (e | e | e); omega; omega; rw [allC] at e; exact absurd (e.symm.trans a2) (by decide)), if_neg]
  · show (((val 10 (digL 10 c.toNat) : Nat) : Int), (0 : Int)) = _
    rw [a1, show ((c.toNat : Nat) : Int) = c by omega]
  · show ¬ (599 : Int) < ((val 10 (digL 10 c.toNat) : Nat) : Int)
    rw [a1]; omega
/-- What is written is read back. -/
theorem st_back {c : Int} {r : List UInt8} (h1 : 200 ≤ c) (h2 : c ≤ 599) (hv : valueS (mk r) = true) : stOf ((((ver9 ++ decL (codeN c)) ++ [32]) ++ r)) = ((c, r), 0) := by
  rw [codeN_id h1 h2]
  have hl := dec3 h1 h2
  have e9 : ver9.length = 9 := rfl
  have hd : dOf (((ver9 ++ decL c) ++ [32]) ++ r) = (c, 0) := by
    unfold dOf
    have e3 : ((((ver9 ++ decL c) ++ [32]) ++ r).drop 9).take 3 = decL c := by
      simp only [List.append_assoc]
      rw [List.drop_left' e9, List.take_left' hl]
    rw [e3]
    exact num_three h1 h2
  have e13 : (((ver9 ++ decL c) ++ [32]) ++ r).drop 13 = r := List.drop_left' (by simp [hl, e9])
  rw [stOf, hd, e13, if_pos]
  refine ⟨by simp [hl, e9]; omega, ?_, rfl, h1, .inr ?_, hv⟩
  · simp only [List.append_assoc]
    exact List.take_left' e9
  · rw [List.append_assoc (ver9 ++ decL c), List.drop_left' (by simp [hl, e9])]; rfl
theorem ne_of_cell {w : World} {b k : Nat} {a : Value} (h : w.cell? ⟨b, k, none⟩ = some a) : w.heap.size ≠ b := Nat.ne_of_gt (World.block_lt_of_cell? w ⟨b, k, none⟩ h)
theorem lt_of_cell {w : World} {b k : Nat} {a : Value} (h : w.cell? ⟨b, k, none⟩ = some a) : b < w.heap.size := World.block_lt_of_cell? w ⟨b, k, none⟩ h
theorem stParseL (l : List UInt8) (hl : l.length ≤ 100000) (w : World) : Calls Tryd.prog 51 #[.string (mk l)] w fun e w' => e = .returned (.tuple #[stV (stOf l).1, .int .i64 (stOf l).2]) ∧ Below w.heap.size w w' :=
  parseStatus_any (mk l) (by rw [mk_size]; exact hl) w
theorem refStParseL (l : List UInt8) (hl : l.length ≤ 100000) (w : World) : Calls Tryd.prog 52 #[.string (mk l)] w fun e w' => e = .returned (.tuple #[stV (stOf l).1, .int .i64 (stOf l).2]) ∧ Below w.heap.size w w' :=
  refParseStatus_any (mk l) (by rw [mk_size]; exact hl) w
theorem cut80 (s : ByteArray) (w : World) : Calls Tryd.prog 24 #[.string s, .int .i64 80] w fun e w' => e = .returned (.string (cutS 80 s)) ∧ w = w' := cut_any s 80 w
set_option maxRecDepth 100000 in
set_option maxHeartbeats 4000000 in
theorem statuses_any (s : ByteArray) (w : World) (he : SEnv w) :
    Calls Tryd.prog 11 #[.string s] w fun e w' => e = .returned (.bool true) ∧ Below w.heap.size w w' := by
  have HE := Lib.hid he
  clear he
  have d0 := cut80 s
  obtain ⟨l, hl, hlen⟩ := cutL 80 s
  rw [hl] at d0
  clear hl
  have d1 := stParseL l (by omega)
  have d2 := refStParseL l (by omega)
  rcases st_two l with hR | ⟨c, r, hR, hc1, hc2, hV, hrl⟩
  · rw [hR] at d1 d2
    unfold stV at d1 d2
    clear hR
    go_enter Tryd.func11, Tryd.ntmps11
    go_wp2_with (first
      | (go_at_call 42; with_reducible refine (sawake_any _ HE.out).mono ?_; rintro e w1 ⟨rfl, hb⟩; have hB := Lib.hid hb; clear hb)
      | (go_at_call 24; with_reducible refine (d0 _).mono ?_; rintro e w1' ⟨rfl, rfl⟩)
      | (go_at_call 51; refine (d1 _).mono ?_; rintro e w2 ⟨rfl, hb⟩; replace hB := Lib.hid (hB.out.trans (hb.mono hB.out.size)); clear hb)
      | (go_at_call 52; refine (d2 _).mono ?_; rintro e w3 ⟨rfl, hb⟩; obtain ⟨r0, r1, g0, g1, nr, lr⟩ := two_of hb; replace hB := Lib.hid (grow_one hB.out hb); clear hb g0 g1))
    all_goals go_ret
    all_goals exact ⟨rfl, by (repeat' (first | exact hB.out | refine Below.alloc ?_ (by have := hB.out.size; first | (simp; done) | (simp; omega) | omega) _ | refine below_drewN ?_))⟩
  · have d3 := fun W (h : Env W) => stLine_any c r (by omega) W h
    have d4 := fun W (h : Env W) => refStLine_any c r (by omega) W h
    have hcl := codeL c
    have hb9 : (((ver9 ++ decL (codeN c)) ++ [32]) ++ r).length ≤ 100000 := by simp [ver9]; omega
    have d5 := stParseL (((ver9 ++ decL (codeN c)) ++ [32]) ++ r) hb9
    rw [st_back hc1 hc2 hV] at d5
    unfold stLine at d3 d4
    generalize hY : ((ver9 ++ decL (codeN c)) ++ [32]) ++ r = Y at *
    obtain ⟨N, hN⟩ : ∃ N, Y.length = N := ⟨_, rfl⟩
    have hx : (mk (Y ++ [13, 10])).extract 0 N = mk Y := by rw [ext_take, data_mk, List.take_left' hN]
    have hsz : (mk (Y ++ [13, 10])).size = N + 2 := by rw [mk_size]; simp [hN]
    rw [← hx] at d5
    rw [hN] at hb9
    clear hx hN
    generalize hU : mk (Y ++ [13, 10]) = U at *
    rw [hR] at d1 d2
    unfold stV at d1 d2 d3 d4 d5
    clear hR hV hrl hcl hU hY
    replace d3 := Lib.hid d3
    replace d4 := Lib.hid d4
    go_enter Tryd.func11, Tryd.ntmps11
    go_wp2_with (first
      | (go_at_call 42; with_reducible refine (sawake_any _ HE.out).mono ?_; rintro e w1 ⟨rfl, hb⟩; have hB := Lib.hid hb; clear hb)
      | (go_at_call 24; with_reducible refine (d0 _).mono ?_; rintro e w1' ⟨rfl, rfl⟩)
      | (go_at_call 51; refine (d1 _).mono ?_; rintro e w2 ⟨rfl, hb⟩; replace hB := Lib.hid (hB.out.trans (hb.mono hB.out.size)); clear hb d1)
      | (go_at_call 52; refine (d2 _).mono ?_; rintro e w3 ⟨rfl, hb⟩; obtain ⟨r0, r1, g0, g1, nr, lr⟩ := two_of hb; replace hB := Lib.hid (grow_one hB.out hb); clear hb g0 g1)
      | (go_at_call 53; refine (d3.out _ (HE.out.toEnv.below (hB.out.alloc hB.out.size _))).mono ?_; rintro e w4 ⟨rfl, hb⟩; replace r0 := two_on hb r0; replace r1 := two_on hb r1; obtain ⟨x0, x1, g0, g1, nx, lx⟩ := two_of hb; replace hB := Lib.hid (grow_one hB.out hb); clear hb g0 g1)
      | (go_at_call 51; refine (d5 _).mono ?_; rintro e w5 ⟨rfl, hb⟩; replace r0 := two_go hb r0; replace r1 := two_go hb r1; replace x0 := two_go hb x0; replace x1 := two_go hb x1; replace nr := ne_of_cell r0; replace nx := ne_of_cell x0; replace lr := lt_of_cell r0; replace lx := lt_of_cell x0; replace hB := Lib.hid (hB.out.trans (hb.mono hB.out.size)); clear hb)
      | (go_at_call 54; refine (d4.out _ (HE.out.toEnv.below (hB.out.alloc hB.out.size _))).mono ?_; rintro e w6 ⟨rfl, hb⟩; replace r0 := two_on hb r0; replace r1 := two_on hb r1; obtain ⟨a0, a1, g0, g1, na, la⟩ := two_of hb; replace nr := ne_of_cell r0; replace lr := lt_of_cell r0; replace hB := Lib.hid (grow_one hB.out hb); clear hb g0 g1))
    all_goals go_ret
    all_goals exact ⟨rfl, by (repeat' (first | exact hB.out | refine Below.alloc ?_ (by have := hB.out.size; first | (simp; done) | (simp; omega) | omega) _ | refine below_drewN ?_))⟩
end Go.Proofs.YtkbjklnkeammiaaDoor.Oct
