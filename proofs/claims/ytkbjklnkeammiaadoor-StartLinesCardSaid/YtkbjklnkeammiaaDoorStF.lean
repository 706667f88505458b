/- A request's line, path and kind: the program's beside the document's. -/
import Derived.Test.YtkbjklnkeammiaaDoorStE
import Derived.Test.YtkbjklnkeammiaaDoorOctP
namespace Go.Proofs.YtkbjklnkeammiaaDoor.Oct
open Go.RowKit
set_option linter.unusedVariables false
theorem lit_eq (m l : List UInt8) : ((mk m).toList == l) = decide (m = l) := by
  rw [Lib.toList_data]
  show (m == l) = decide (m = l)
  rw [Bool.eq_iff_iff]; simp
theorem cat_lit (a b : List UInt8) (B : ByteArray) (hB : B = mk b) (h : a.length + b.length ≤ 10000000) (W : World) : (Op.stringOp .add (mk a) B).run Tryd.prog W = .ok (.string (mk (a ++ b))) W := by
  subst hB
  rw [cat_run _ _ (by rw [mk_size, mk_size]; omega)]
  congr 2
/-- May it be asked twice? -/
def idemL (m : List UInt8) : Bool := decide (m = [71, 69, 84]) || decide (m = [72, 69, 65, 68]) || decide (m = [80, 85, 84]) || decide (m = [68, 69, 76, 69, 84, 69]) || decide (m = [79, 80, 84, 73, 79, 78, 83]) || decide (m = [84, 82, 65, 67, 69])
set_option maxRecDepth 100000 in
set_option maxHeartbeats 1000000 in
theorem idem_any (m t : List UInt8) (w : World) :
    Calls Tryd.prog 56 #[reqV (m, t)] w fun e w' => e = .returned (.bool (idemL m)) ∧ w' = w.alloc (.cells #[.string (mk m), .string (mk t)] 51) := by
  unfold reqV
  by_cases h0 : m = [71, 69, 84]
  · have HX := Lib.hid (show idemL m = true by rw [h0]; decide)
    have e := lit_eq m
    subst h0
    go_enter Tryd.func56, Tryd.ntmps56
    go_wp2_with fail
    go_ret
    exact ⟨ret_bool HX.out.symm, rfl⟩
  by_cases h1 : m = [72, 69, 65, 68]
  · have HX := Lib.hid (show idemL m = true by rw [h1]; decide)
    have e := lit_eq m
    subst h1
    go_enter Tryd.func56, Tryd.ntmps56
    go_wp2_with fail
    go_ret
    exact ⟨ret_bool HX.out.symm, rfl⟩
  by_cases h2 : m = [80, 85, 84]
  · have HX := Lib.hid (show idemL m = true by rw [h2]; decide)
    have e := lit_eq m
    subst h2
    go_enter Tryd.func56, Tryd.ntmps56
    go_wp2_with fail
    go_ret
    exact ⟨ret_bool HX.out.symm, rfl⟩
  by_cases h3 : m = [68, 69, 76, 69, 84, 69]
  · have HX := Lib.hid (show idemL m = true by rw [h3]; decide)
    have e := lit_eq m
    subst h3
    go_enter Tryd.func56, Tryd.ntmps56
    go_wp2_with fail
    go_ret
    exact ⟨ret_bool HX.out.symm, rfl⟩
  by_cases h4 : m = [79, 80, 84, 73, 79, 78, 83]
  · have HX := Lib.hid (show idemL m = true by rw [h4]; decide)
    have e := lit_eq m
    subst h4
    go_enter Tryd.func56, Tryd.ntmps56
    go_wp2_with fail
    go_ret
    exact ⟨ret_bool HX.out.symm, rfl⟩
  by_cases h5 : m = [84, 82, 65, 67, 69]
  · have HX := Lib.hid (show idemL m = true by rw [h5]; decide)
    have e := lit_eq m
    subst h5
    go_enter Tryd.func56, Tryd.ntmps56
    go_wp2_with fail
    go_ret
    exact ⟨ret_bool HX.out.symm, rfl⟩
  have HX := Lib.hid (show idemL m = false by unfold idemL; rw [decide_eq_false h0, decide_eq_false h1, decide_eq_false h2, decide_eq_false h3, decide_eq_false h4, decide_eq_false h5]; rfl)
  have e0 : ((mk m).toList == [71, 69, 84]) = false := by rw [lit_eq, decide_eq_false h0]
  have e1 : ((mk m).toList == [72, 69, 65, 68]) = false := by rw [lit_eq, decide_eq_false h1]
  have e2 : ((mk m).toList == [80, 85, 84]) = false := by rw [lit_eq, decide_eq_false h2]
  have e3 : ((mk m).toList == [68, 69, 76, 69, 84, 69]) = false := by rw [lit_eq, decide_eq_false h3]
  have e4 : ((mk m).toList == [79, 80, 84, 73, 79, 78, 83]) = false := by rw [lit_eq, decide_eq_false h4]
  have e5 : ((mk m).toList == [84, 82, 65, 67, 69]) = false := by rw [lit_eq, decide_eq_false h5]
  clear h0 h1 h2 h3 h4 h5
  go_enter Tryd.func56, Tryd.ntmps56
  go_wp2_with fail
  go_ret
  exact ⟨ret_bool HX.out.symm, rfl⟩
set_option maxRecDepth 100000 in
set_option maxHeartbeats 1000000 in
theorem refIdem_any (m t : List UInt8) (w : World) :
    Calls Tryd.prog 57 #[.string (mk m)] w fun e w' => e = .returned (.bool (idemL m)) ∧ w = w' := by
  by_cases h0 : m = [71, 69, 84]
  · have HX := Lib.hid (show idemL m = true by rw [h0]; decide)
    have e := lit_eq m
    subst h0
    go_enter Tryd.func57, Tryd.ntmps57
    go_wp2_with fail
    go_ret
    exact ⟨ret_bool HX.out.symm, rfl⟩
  by_cases h1 : m = [72, 69, 65, 68]
  · have HX := Lib.hid (show idemL m = true by rw [h1]; decide)
    have e := lit_eq m
    subst h1
    go_enter Tryd.func57, Tryd.ntmps57
    go_wp2_with fail
    go_ret
    exact ⟨ret_bool HX.out.symm, rfl⟩
  by_cases h2 : m = [80, 85, 84]
  · have HX := Lib.hid (show idemL m = true by rw [h2]; decide)
    have e := lit_eq m
    subst h2
    go_enter Tryd.func57, Tryd.ntmps57
    go_wp2_with fail
    go_ret
    exact ⟨ret_bool HX.out.symm, rfl⟩
  by_cases h3 : m = [68, 69, 76, 69, 84, 69]
  · have HX := Lib.hid (show idemL m = true by rw [h3]; decide)
    have e := lit_eq m
    subst h3
    go_enter Tryd.func57, Tryd.ntmps57
    go_wp2_with fail
    go_ret
    exact ⟨ret_bool HX.out.symm, rfl⟩
  by_cases h4 : m = [79, 80, 84, 73, 79, 78, 83]
  · have HX := Lib.hid (show idemL m = true by rw [h4]; decide)
    have e := lit_eq m
    subst h4
    go_enter Tryd.func57, Tryd.ntmps57
    go_wp2_with fail
    go_ret
    exact ⟨ret_bool HX.out.symm, rfl⟩
  by_cases h5 : m = [84, 82, 65, 67, 69]
  · have HX := Lib.hid (show idemL m = true by rw [h5]; decide)
    have e := lit_eq m
    subst h5
    go_enter Tryd.func57, Tryd.ntmps57
    go_wp2_with fail
    go_ret
    exact ⟨ret_bool HX.out.symm, rfl⟩
  have HX := Lib.hid (show idemL m = false by unfold idemL; rw [decide_eq_false h0, decide_eq_false h1, decide_eq_false h2, decide_eq_false h3, decide_eq_false h4, decide_eq_false h5]; rfl)
  have e0 : ((mk m).toList == [71, 69, 84]) = false := by rw [lit_eq, decide_eq_false h0]
  have e1 : ((mk m).toList == [72, 69, 65, 68]) = false := by rw [lit_eq, decide_eq_false h1]
  have e2 : ((mk m).toList == [80, 85, 84]) = false := by rw [lit_eq, decide_eq_false h2]
  have e3 : ((mk m).toList == [68, 69, 76, 69, 84, 69]) = false := by rw [lit_eq, decide_eq_false h3]
  have e4 : ((mk m).toList == [79, 80, 84, 73, 79, 78, 83]) = false := by rw [lit_eq, decide_eq_false h4]
  have e5 : ((mk m).toList == [84, 82, 65, 67, 69]) = false := by rw [lit_eq, decide_eq_false h5]
  clear h0 h1 h2 h3 h4 h5
  go_enter Tryd.func57, Tryd.ntmps57
  go_wp2_with fail
  go_ret
  exact ⟨ret_bool HX.out.symm, rfl⟩
/-- Without a query. -/
def pathL (t : List UInt8) : List UInt8 := (splC 63 t).1
theorem cutQ_any (s : ByteArray) (hs : s.size < 4294967281) (w : World) (he : Env w) :
    Calls Tryd.prog 82 #[.string s, .string ⟨#[63]⟩] w fun e w' => e = .returned (.tuple #[.string (mk (pathL s.data.toList)), .string (mk (splC 63 s.data.toList).2.1), .bool (splC 63 s.data.toList).2.2]) ∧ ∃ n, w' = w.drewN n := by
  obtain ⟨m, hm⟩ := he.ml
  have h := Tryd.strings_Cut s ⟨#[63]⟩ m w hs hm
  rw [show Lib.cut s.data.toList (⟨#[63]⟩ : ByteArray).data.toList = splC 63 s.data.toList from cut_spl 63 _] at h
  exact h
set_option maxRecDepth 100000 in
theorem path_any (m t : List UInt8) (ht : t.length ≤ 100000) (w : World) (he : Env w) :
    Calls Tryd.prog 58 #[reqV (m, t)] w fun e w' => e = .returned (.string (mk (pathL t))) ∧ Below w.heap.size w w' := by
  have HE := Lib.hid he
  clear he
  have d := fun (W : World) (h : Env W) => cutQ_any (mk t) (by rw [mk_size]; omega) W h
  simp only [data_mk] at d
  replace d := Lib.hid d
  unfold reqV
  go_enter Tryd.func58, Tryd.ntmps58
  go_wp2_with (go_at_call 82; refine (d.out _ (HE.out.below ((Below.refl _ _).alloc (Nat.le_refl _) _))).mono ?_; rintro e w1 ⟨rfl, n, rfl⟩)
  go_ret
  exact ⟨rfl, by (repeat' (first | exact Below.refl _ _ | refine Below.alloc ?_ (by first | (simp; done) | (simp; omega)) _ | refine below_drewN ?_))⟩
set_option maxRecDepth 100000 in
set_option maxHeartbeats 1000000 in
theorem refPath_any (s : ByteArray) (hs : s.size ≤ 100000) (w : World) :
    Calls Tryd.prog 59 #[.string s] w fun e w' => e = .returned (.string (mk (pathL s.data.toList))) ∧ w = w' := by
  go_enter Tryd.func59, Tryd.ntmps59
  go_wp2_with fail
  go_loop [3] (fun i => ∃ k : Nat, k ≤ s.size ∧ i = .int .i64 k ∧ Hid ((s.data.toList.take k).all (fun x => x != 63) = true)) (fun i => s.size - (intOf i).toNat)
  case atStart => exact ⟨0, Nat.zero_le _, rfl, Lib.hid rfl⟩
  case round =>
    obtain ⟨k, hk, rfl, hall⟩ := hrel
    by_cases hlt : k < s.size
    · have hb : (s[k].toNat : Int) < 256 := by have := s[k].toNat_lt; omega
      by_cases h32 : (s[k].toNat : Int) = 63
      · have h32' : s[k] = 63 := by
          apply UInt8.toNat_inj.1
          have : s[k].toNat = 63 := by omega
          rw [this]; rfl
        have HX := Lib.hid (show splC 63 s.data.toList = (s.data.toList.take k, s.data.toList.drop (k + 1), true) by
          have e : s.data.toList = s.data.toList.take k ++ 63 :: s.data.toList.drop (k + 1) := by
            have h1 := List.take_append_drop (k + 1) s.data.toList
            rw [take_snoc s k hlt, h32', List.append_assoc] at h1
            exact h1.symm
          conv => lhs; rw [e]
          exact splC_at hall.out)
        clear h32'
        go_wp2_with fail
        go_ret
        exact ⟨ret_str (by unfold pathL; rw [HX.out]; exact ba_take s k), rfl⟩
      · have HX := Lib.hid (all_snoc (p := fun x => x != 63) hlt hall (by
          have : s[k] ≠ 63 := by intro e; rw [e] at h32; exact h32 rfl
          simpa using this))
        go_wp2_with fail
        go_round
        case rel => exact ⟨k + 1, by omega, by go_num, HX.out⟩
        case measure => simp [intOf]; omega
    · have HX := Lib.hid (show splC 63 s.data.toList = (s.data.toList, [], false) from splC_no (all_end (p := fun x => x != 63) (by omega) hall))
      go_wp2_with fail
      go_ret
      exact ⟨ret_str (by unfold pathL; rw [HX.out]; exact (ba_mk s).symm), rfl⟩
/-- A request's line as it is written. -/
def reqLine (m t : List UInt8) : List UInt8 := ((((m ++ [32]) ++ t) ++ [32]) ++ verL) ++ [13, 10]
set_option maxRecDepth 100000 in
theorem reqLine_any (m t : List UInt8) (hm : m.length ≤ 100000) (ht : t.length ≤ 100000) (w : World) :
    Calls Tryd.prog 45 #[reqV (m, t)] w fun e w' => e = .returned (.string (mk (reqLine m t))) ∧ Below w.heap.size w w' := by
  have k1 := cat_lit m [32] ⟨#[32]⟩ rfl (by simp; omega)
  have k2 := cat_lit (m ++ [32]) t (mk t) rfl (by simp; omega)
  have k3 := cat_lit ((m ++ [32]) ++ t) [32] ⟨#[32]⟩ rfl (by simp; omega)
  have k4 := cat_lit (((m ++ [32]) ++ t) ++ [32]) verL ⟨#[72, 84, 84, 80, 47, 49, 46, 49]⟩ rfl (by simp [verL]; omega)
  have k5 := cat_lit ((((m ++ [32]) ++ t) ++ [32]) ++ verL) [13, 10] ⟨#[13, 10]⟩ rfl (by simp [verL]; omega)
  unfold reqV reqLine
  generalize (m ++ [32]) = x1 at *
  generalize (x1 ++ t) = x2 at *
  generalize (x2 ++ [32]) = x3 at *
  generalize (x3 ++ verL) = x4 at *
  generalize (x4 ++ [13, 10]) = x5 at *
  go_enter Tryd.func45, Tryd.ntmps45
  go_wp2_with fail
  go_ret
  exact ⟨rfl, by (repeat' (first | exact Below.refl _ _ | refine Below.alloc ?_ (by first | (simp; done) | (simp; omega)) _ | refine below_drewN ?_))⟩
set_option maxRecDepth 100000 in
theorem refReqLine_any (m t : List UInt8) (hm : m.length ≤ 100000) (ht : t.length ≤ 100000) (w : World) :
    Calls Tryd.prog 55 #[reqV (m, t)] w fun e w' => e = .returned (.string (mk (reqLine m t))) ∧ Below w.heap.size w w' := by
  have e5 : reqLine m t = ((m ++ [32]) ++ t) ++ [32, 72, 84, 84, 80, 47, 49, 46, 49, 13, 10] := by unfold reqLine verL; simp
  have k1 := cat_lit m [32] ⟨#[32]⟩ rfl (by simp; omega)
  have k2 := cat_lit (m ++ [32]) t (mk t) rfl (by simp; omega)
  have k3 := cat_lit ((m ++ [32]) ++ t) [32, 72, 84, 84, 80, 47, 49, 46, 49, 13, 10] ⟨#[32, 72, 84, 84, 80, 47, 49, 46, 49, 13, 10]⟩ rfl (by simp; omega)
  rw [e5]
  clear e5
  unfold reqV
  generalize (m ++ [32]) = x1 at *
  generalize (x1 ++ t) = x2 at *
  generalize (x2 ++ [32, 72, 84, 84, 80, 47, 49, 46, 49, 13, 10]) = x3 at *
  go_enter Tryd.func55, Tryd.ntmps55
  go_wp2_with fail
  go_ret
  exact ⟨rfl, by (repeat' (first | exact Below.refl _ _ | refine Below.alloc ?_ (by first | (simp; done) | (simp; omega)) _ | refine below_drewN ?_))⟩
end Go.Proofs.YtkbjklnkeammiaaDoor.Oct
