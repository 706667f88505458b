/- A request's first line: the document's ParseRequest. -/
import Derived.Test.YtkbjklnkeammiaaDoorOctY
import Derived.Test.YtkbjklnkeammiaaDoorStA
import Derived.Laws.ResultCell
import Derived.BigQuiet
import Derived.Deep.QuietTactic
namespace Go.Proofs.YtkbjklnkeammiaaDoor.Oct
open Go.RowKit
set_option linter.unusedVariables false
def mk (l : List UInt8) : ByteArray := ⟨l.toArray⟩
theorem mk_data (s : ByteArray) : mk s.data.toList = s := ba_mk s
theorem data_mk (l : List UInt8) : (mk l).data.toList = l := rfl
theorem mk_size (l : List UInt8) : (mk l).size = l.length := ba_size l
theorem mk_inj {a b : List UInt8} (h : mk a = mk b) : a = b := congrArg (·.data.toList) h
theorem ret_three {a a' b b' c c' : Value} (h1 : a = a') (h2 : b = b') (h3 : c = c') : Ending.returned (.tuple #[a, b, c]) = .returned (.tuple #[a', b', c']) := by rw [h1, h2, h3]
theorem ret_pair {a a' b b' : Value} (h1 : a = a') (h2 : b = b') : Ending.returned (.tuple #[a, b]) = .returned (.tuple #[a', b']) := by rw [h1, h2]
theorem str_eq' {a b : ByteArray} (h : a = b) : Value.string a = .string b := by rw [h]
theorem splC_len (c : UInt8) (l : List UInt8) : (splC c l).1.length ≤ l.length ∧ (splC c l).2.1.length ≤ l.length := by
  cases h : (splC c l).2.2
  · rw [splC_none h]; simp
  · have := congrArg List.length (splC_cat h)
    simp at this; omega
set_option maxRecDepth 100000 in
set_option maxHeartbeats 1000000 in
theorem word_any (s : ByteArray) (hs : s.size ≤ maxLen) (w : World) :
    Calls Tryd.prog 80 #[.string s] w fun e w' => e = .returned (.tuple #[.string (mk (splC 32 s.data.toList).1), .string (mk (splC 32 s.data.toList).2.1), .bool (splC 32 s.data.toList).2.2]) ∧ ∃ n, w' = w.drewN n := by
  unfold maxLen at hs
  go_enter Tryd.func80, Tryd.ntmps80
  go_wp2_with fail
  go_loop [5] (fun i => ∃ k : Nat, k ≤ s.size ∧ i = .int .i64 k ∧ Hid ((s.data.toList.take k).all (fun x => x != 32) = true)) (fun i => s.size - (intOf i).toNat)
  case atStart => exact ⟨0, Nat.zero_le _, rfl, Lib.hid rfl⟩
  case round =>
    obtain ⟨k, hk, rfl, hall⟩ := hrel
    by_cases hlt : k < s.size
    · have hb : (s[k].toNat : Int) < 256 := by have := s[k].toNat_lt; omega
      by_cases h32 : (s[k].toNat : Int) = 32
      · have h32' : s[k] = 32 := by
          apply UInt8.toNat_inj.1
          have : s[k].toNat = 32 := by omega
          rw [this]; rfl
        have HX := Lib.hid (show splC 32 s.data.toList = (s.data.toList.take k, s.data.toList.drop (k + 1), true) by
          have e : s.data.toList = s.data.toList.take k ++ 32 :: s.data.toList.drop (k + 1) := by
            have h1 := List.take_append_drop (k + 1) s.data.toList
            rw [take_snoc s k hlt, h32', List.append_assoc] at h1
            exact h1.symm
          conv => lhs; rw [e]
          exact splC_at hall.out)
        clear h32'
        go_wp2_with fail
        go_quiet (fail)
        go_wp2_with fail
        go_ret3
        exact ⟨ret_three (str_eq' (by rw [HX.out]; exact ba_take s k)) (str_eq' (by rw [HX.out]; exact ba_drop s (k + 1))) (by rw [HX.out]; rfl), _, rfl⟩
      · have HX := Lib.hid (all_snoc (p := fun x => x != 32) hlt hall (by
          have : s[k] ≠ 32 := by intro e; rw [e] at h32; exact h32 rfl
          simpa using this))
        go_wp2_with fail
        go_round
        case rel => exact ⟨k + 1, by omega, by go_num, HX.out⟩
        case measure => simp [intOf]; omega
    · have HX := Lib.hid (show splC 32 s.data.toList = (s.data.toList, [], false) from splC_no (all_end (p := fun x => x != 32) (by omega) hall))
      go_wp2_with fail
      go_ret3
      exact ⟨ret_three (str_eq' (by rw [HX.out]; exact (ba_mk s).symm)) (str_eq' (by rw [HX.out]; rfl)) (by rw [HX.out]; rfl), 0, rfl⟩
/-- HTTP/1.1 -/
def verL : List UInt8 := [72, 84, 84, 80, 47, 49, 46, 49]
/-- A line's method and target, and what is wrong. -/
def reqOf (l : List UInt8) : (List UInt8 × List UInt8) × Int :=
  if (splC 32 l).2.2 = true ∧ (splC 32 (splC 32 l).2.1).2.2 = true ∧ (splC 32 (splC 32 l).2.1).2.1 = verL ∧ tokenS (mk (splC 32 l).1) = true ∧ targetS (mk (splC 32 (splC 32 l).2.1).1) = true
  then (((splC 32 l).1, (splC 32 (splC 32 l).2.1).1), 0) else (([], []), 2)
def reqV (r : List UInt8 × List UInt8) : Value := .agg #[.string (mk r.1), .string (mk r.2)]
theorem ver_eq (v : List UInt8) : (mk v).toList = [72, 84, 84, 80, 47, 49, 46, 49] ↔ v = verL := by rw [Lib.toList_data]; exact Iff.rfl
set_option maxRecDepth 100000 in
set_option maxHeartbeats 2000000 in
theorem refParseRequest_any (s : ByteArray) (hs : s.size ≤ 100000) (w : World) :
    Calls Tryd.prog 44 #[.string s] w fun e w' => e = .returned (.tuple #[reqV (reqOf s.data.toList).1, .int .i64 (reqOf s.data.toList).2]) ∧ Below w.heap.size w w' := by
  have z1 := splC_len 32 s.data.toList
  have z2 := splC_len 32 (splC 32 s.data.toList).2.1
  rw [len_sz] at z1
  have d1 := word_any s (by unfold maxLen; omega)
  have d2 := word_any (mk (splC 32 s.data.toList).2.1) (by unfold maxLen; rw [mk_size]; omega)
  have d3 := refToken_any (mk (splC 32 s.data.toList).1) (by unfold maxLen; rw [mk_size]; omega)
  have d4 := refTarget_any (mk (splC 32 (splC 32 s.data.toList).2.1).1) (by unfold maxLen; rw [mk_size]; omega)
  rw [data_mk] at d2
  generalize hr : reqOf s.data.toList = R
  unfold reqOf at hr
  generalize splC 32 s.data.toList = p at *
  obtain ⟨m, rest, a⟩ := p
  simp only at d1 d2 d3 d4 hr z1 z2
  generalize splC 32 rest = q at *
  obtain ⟨t, v, b⟩ := q
  simp only at d1 d2 d3 d4 hr z1 z2
  generalize tokenS (mk m) = T at *
  generalize targetS (mk t) = G at *
  have HR := Lib.hid hr
  clear hr
  have bad : ¬ (a = true ∧ b = true ∧ v = verL ∧ T = true ∧ G = true) → R = (([], []), 2) := fun h => by rw [← HR.out, if_neg h]
  have good : (a = true ∧ b = true ∧ v = verL ∧ T = true ∧ G = true) → R = ((m, t), 0) := fun h => by rw [← HR.out, if_pos h]
  clear HR
  cases a
  · rw [bad (by simp)]
    go_enter Tryd.func44, Tryd.ntmps44
    go_wp2_with (first
      | (go_at_call 80; first | (with_reducible refine (d1 _).mono ?_; rintro e w1 ⟨rfl, n1, rfl⟩) | (with_reducible refine (d2 _).mono ?_; rintro e w1 ⟨rfl, n1, rfl⟩))
      | (go_at_call 26; with_reducible refine (d3 _).mono ?_; rintro e w1 ⟨rfl, rfl⟩)
      | (go_at_call 28; with_reducible refine (d4 _).mono ?_; rintro e w1 ⟨rfl, rfl⟩))
    (try simp only [Exit.inBlock, Exit.then])
    refine bodyPost_ret (v := .tuple #[reqV _, .int .i64 _]) ?_ rfl ⟨rfl, ?_⟩
    · rw [results_cell_tmp rfl]; go_simp; rfl
    · (repeat' (first | exact Below.refl _ _ | refine Below.alloc ?_ (by simp) _ | refine Below.setCell ?_ (by simp) _ | refine below_drewN ?_))
  cases b
  · rw [bad (by simp)]
    go_enter Tryd.func44, Tryd.ntmps44
    go_wp2_with (first
      | (go_at_call 80; first | (with_reducible refine (d1 _).mono ?_; rintro e w1 ⟨rfl, n1, rfl⟩) | (with_reducible refine (d2 _).mono ?_; rintro e w1 ⟨rfl, n1, rfl⟩))
      | (go_at_call 26; with_reducible refine (d3 _).mono ?_; rintro e w1 ⟨rfl, rfl⟩)
      | (go_at_call 28; with_reducible refine (d4 _).mono ?_; rintro e w1 ⟨rfl, rfl⟩))
    (try simp only [Exit.inBlock, Exit.then])
    refine bodyPost_ret (v := .tuple #[reqV _, .int .i64 _]) ?_ rfl ⟨rfl, ?_⟩
    · rw [results_cell_tmp rfl]; go_simp; rfl
    · (repeat' (first | exact Below.refl _ _ | refine Below.alloc ?_ (by simp) _ | refine Below.setCell ?_ (by simp) _ | refine below_drewN ?_))
  by_cases c1 : v = verL
  · have hv := (ver_eq v).2 c1
    cases T
    · rw [bad (by simp)]
      clear bad good c1
      go_enter Tryd.func44, Tryd.ntmps44
      go_wp2_with (first
        | (go_at_call 80; first | (with_reducible refine (d1 _).mono ?_; rintro e w1 ⟨rfl, n1, rfl⟩) | (with_reducible refine (d2 _).mono ?_; rintro e w1 ⟨rfl, n1, rfl⟩))
        | (go_at_call 26; with_reducible refine (d3 _).mono ?_; rintro e w1 ⟨rfl, rfl⟩)
        | (go_at_call 28; with_reducible refine (d4 _).mono ?_; rintro e w1 ⟨rfl, rfl⟩))
      (try simp only [Exit.inBlock, Exit.then])
      refine bodyPost_ret (v := .tuple #[reqV _, .int .i64 _]) ?_ rfl ⟨rfl, ?_⟩
      · rw [results_cell_tmp rfl]; go_simp; rfl
      · (repeat' (first | exact Below.refl _ _ | refine Below.alloc ?_ (by simp) _ | refine Below.setCell ?_ (by simp) _ | refine below_drewN ?_))
    cases G
    · rw [bad (by simp)]
      clear bad good c1
      go_enter Tryd.func44, Tryd.ntmps44
      go_wp2_with (first
        | (go_at_call 80; first | (with_reducible refine (d1 _).mono ?_; rintro e w1 ⟨rfl, n1, rfl⟩) | (with_reducible refine (d2 _).mono ?_; rintro e w1 ⟨rfl, n1, rfl⟩))
        | (go_at_call 26; with_reducible refine (d3 _).mono ?_; rintro e w1 ⟨rfl, rfl⟩)
        | (go_at_call 28; with_reducible refine (d4 _).mono ?_; rintro e w1 ⟨rfl, rfl⟩))
      (try simp only [Exit.inBlock, Exit.then])
      refine bodyPost_ret (v := .tuple #[reqV _, .int .i64 _]) ?_ rfl ⟨rfl, ?_⟩
      · rw [results_cell_tmp rfl]; go_simp; rfl
      · (repeat' (first | exact Below.refl _ _ | refine Below.alloc ?_ (by simp) _ | refine Below.setCell ?_ (by simp) _ | refine below_drewN ?_))
    · rw [good ⟨rfl, rfl, c1, rfl, rfl⟩]
      clear bad good c1
      go_enter Tryd.func44, Tryd.ntmps44
      go_wp2_with (first
        | (go_at_call 80; first | (with_reducible refine (d1 _).mono ?_; rintro e w1 ⟨rfl, n1, rfl⟩) | (with_reducible refine (d2 _).mono ?_; rintro e w1 ⟨rfl, n1, rfl⟩))
        | (go_at_call 26; with_reducible refine (d3 _).mono ?_; rintro e w1 ⟨rfl, rfl⟩)
        | (go_at_call 28; with_reducible refine (d4 _).mono ?_; rintro e w1 ⟨rfl, rfl⟩))
      (try simp only [Exit.inBlock, Exit.then])
      refine bodyPost_ret (v := .tuple #[reqV _, .int .i64 _]) ?_ rfl ⟨rfl, ?_⟩
      · rw [results_cell_tmp rfl]; go_simp; rfl
      · (repeat' (first | exact Below.refl _ _ | refine Below.alloc ?_ (by simp) _ | refine Below.setCell ?_ (by simp) _ | refine below_drewN ?_))
  · have hv : ¬ (mk v).toList = [72, 84, 84, 80, 47, 49, 46, 49] := fun h => c1 ((ver_eq v).1 h)
    rw [bad (fun h => c1 h.2.2.1)]
    clear bad good c1
    go_enter Tryd.func44, Tryd.ntmps44
    go_wp2_with (first
      | (go_at_call 80; first | (with_reducible refine (d1 _).mono ?_; rintro e w1 ⟨rfl, n1, rfl⟩) | (with_reducible refine (d2 _).mono ?_; rintro e w1 ⟨rfl, n1, rfl⟩))
      | (go_at_call 26; with_reducible refine (d3 _).mono ?_; rintro e w1 ⟨rfl, rfl⟩)
      | (go_at_call 28; with_reducible refine (d4 _).mono ?_; rintro e w1 ⟨rfl, rfl⟩))
    (try simp only [Exit.inBlock, Exit.then])
    refine bodyPost_ret (v := .tuple #[reqV _, .int .i64 _]) ?_ rfl ⟨rfl, ?_⟩
    · rw [results_cell_tmp rfl]; go_simp; rfl
    · (repeat' (first | exact Below.refl _ _ | refine Below.alloc ?_ (by simp) _ | refine Below.setCell ?_ (by simp) _ | refine below_drewN ?_))
end Go.Proofs.YtkbjklnkeammiaaDoor.Oct
