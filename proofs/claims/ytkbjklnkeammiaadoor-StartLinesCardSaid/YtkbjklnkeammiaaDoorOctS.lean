import Derived.Test.YtkbjklnkeammiaaDoorOctR
import Derived.Test.YtkbjklnkeammiaaDoorOctC
import Derived.Test.YtkbjklnkeammiaaDoorOctG
namespace Go.Proofs.YtkbjklnkeammiaaDoor.Oct
open Go.RowKit
set_option linter.unusedVariables false

/-! ### Trim: from the left and from the right is all one -/
def tl (p : UInt8 → Bool) (l : List UInt8) : List UInt8 := l.dropWhile p
def tr (p : UInt8 → Bool) (l : List UInt8) : List UInt8 := (l.reverse.dropWhile p).reverse
theorem tr_cons (p : UInt8 → Bool) (x : UInt8) (r : List UInt8) : tr p (x :: r) = if tr p r = [] then (if p x = true then [] else [x]) else x :: tr p r := by
  unfold tr
  rw [List.reverse_cons, List.dropWhile_append]
  by_cases h : (r.reverse.dropWhile p) = []
  · rw [h]
    simp only [List.isEmpty_nil, if_true, List.reverse_nil]
    by_cases hx : p x = true
    · simp [List.dropWhile, hx]
    · simp [List.dropWhile, hx]
  · have h1 : (r.reverse.dropWhile p).isEmpty = false := by simpa using h
    rw [h1, if_neg (by simp), if_neg (by simpa using h)]
    simp
theorem tl_tr (p : UInt8 → Bool) (l : List UInt8) : tl p (tr p l) = tr p (tl p l) := by
  induction l with
  | nil => rfl
  | cons x r ih =>
    by_cases hx : p x = true
    · have h1 : tl p (x :: r) = tl p r := by simp [tl, List.dropWhile, hx]
      rw [h1, ← ih, tr_cons]
      split
      · rename_i h; rw [h]
      · simp [tl, List.dropWhile, hx]
    · have h1 : tl p (x :: r) = x :: r := by simp [tl, List.dropWhile, hx]
      rw [h1, tr_cons]
      split
      · simp [tl, List.dropWhile, hx]
      · simp [tl, List.dropWhile, hx]
def isBl (x : UInt8) : Bool := ([32, 9] : List UInt8).contains x
theorem trimL_eq (l : List UInt8) : trimL l = tr isBl (tl isBl l) := by rw [← tl_tr]; rfl
theorem bl_fin : ∀ x : Fin 256, isBl (UInt8.ofNat x.val) = blankB x.val := by decide +kernel
theorem isBl_eq (x : UInt8) : isBl x = blankB (x.toNat : Int) := by
  have := bl_fin ⟨x.toNat, x.toNat_lt⟩; simpa only [UInt8.ofNat_toNat] using this

theorem len_sz (s : ByteArray) : s.data.toList.length = s.size := by simp
theorem data_cons (s : ByteArray) (h : 0 < s.size) : s.data.toList = s[0] :: (s.extract 1 s.size).data.toList := by
  rw [Lib.extract_to_end]
  have h1 : 0 < s.data.toList.length := by simpa using h
  have := List.drop_eq_getElem_cons h1
  rw [List.drop_zero] at this
  exact this
theorem data_snoc (s : ByteArray) (h : 0 < s.size) : s.data.toList = (s.extract 0 (s.size - 1)).data.toList ++ [s[s.size - 1]] := by
  rw [Lib.extract_from_zero]
  have h1 := take_snoc s (s.size - 1) (by omega)
  rw [show s.size - 1 + 1 = s.size by omega, List.take_of_length_le (by simp)] at h1
  exact h1
theorem tr_snoc (p : UInt8 → Bool) (l : List UInt8) (x : UInt8) (h : p x = true) : tr p (l ++ [x]) = tr p l := by simp [tr, h]
theorem tr_stop (p : UInt8 → Bool) (l : List UInt8) (x : UInt8) (h : p x = false) : tr p (l ++ [x]) = l ++ [x] := by simp [tr, h]

set_option maxHeartbeats 1000000 in
theorem refTrim_any (s : ByteArray) (hs : s.size ≤ maxLen) (w : World) :
    Calls Tryd.prog 35 #[.string s] w fun e w' => e = .returned (.string (trimS s)) ∧ w = w' := by
  have hT : trimS s = ⟨(tr isBl (tl isBl s.data.toList)).toArray⟩ := by unfold trimS; rw [trimL_eq]
  rw [hT]
  generalize hgoal : tr isBl (tl isBl s.data.toList) = T
  have HG := Lib.hid hgoal
  clear hgoal hT
  unfold maxLen at hs
  go_enter Tryd.func35, Tryd.ntmps35
  go_wp2_with fail
  go_loop [0] (fun v => ∃ t : ByteArray, v = .string t ∧ t.size ≤ s.size ∧ Hid (tr isBl (tl isBl t.data.toList) = T)) (fun v => match v with | .string t => t.size | _ => 0)
  case atStart => exact ⟨s, rfl, Nat.le_refl _, HG⟩
  case round =>
    obtain ⟨t, rfl, ht, hT⟩ := hrel
    by_cases h0 : 0 < t.size
    · have he : t.toList.isEmpty = false := by rw [isEmpty_sz, decide_eq_false (by omega)]
      cases hb : blankB (t[0].toNat : Int)
      · have hT2 := Lib.hid (show tr isBl t.data.toList = T by
          have h := hT.out
          rw [data_cons t h0] at h ⊢
          simpa [tl, List.dropWhile, isBl_eq, hb] using h)
        go_wp2_with (go_at_call 74; refine (blank_any _ _).mono ?_; rintro e w1 ⟨rfl, rfl⟩)
        go_loop [0] (fun v => ∃ u : ByteArray, v = .string u ∧ u.size ≤ s.size ∧ Hid (tr isBl u.data.toList = T)) (fun v => match v with | .string t => t.size | _ => 0)
        case atStart => exact ⟨t, rfl, ht, hT2⟩
        case round =>
          obtain ⟨u, rfl, hu, hU⟩ := hrel
          clear hT hT2 ht he
          by_cases g0 : 0 < u.size
          · have ge : u.toList.isEmpty = false := by rw [isEmpty_sz, decide_eq_false (by omega)]
            cases gb : blankB (u[u.size - 1].toNat : Int)
            · have hN := Lib.hid (show (⟨T.toArray⟩ : ByteArray) = u by
                have h := hU.out
                rw [data_snoc u g0, tr_stop _ _ _ (by rw [isBl_eq, gb]), ← data_snoc u g0] at h
                rw [← h])
              go_wp2_with (go_at_call 74; refine (blank_any _ _).mono ?_; rintro e w1 ⟨rfl, rfl⟩)
              go_ret
              exact ⟨ret_str hN.out.symm, rfl⟩
            · have hN := Lib.hid (show tr isBl (u.extract 0 (u.size - 1)).data.toList = T by
                have h := hU.out
                rw [data_snoc u g0, tr_snoc _ _ _ (by rw [isBl_eq, gb])] at h
                exact h)
              go_wp2_with (go_at_call 74; refine (blank_any _ _).mono ?_; rintro e w1 ⟨rfl, rfl⟩)
              go_round
              case rel => exact ⟨_, rfl, by simp; omega, hN⟩
              case measure => simp; omega
          · have ge : u.toList.isEmpty = true := by rw [isEmpty_sz, decide_eq_true (by omega)]
            have hN := Lib.hid (show (⟨T.toArray⟩ : ByteArray) = u by
              have h := hU.out
              have hn : u.data.toList = [] := List.eq_nil_of_length_eq_zero (by rw [len_sz]; omega)
              rw [hn] at h
              rw [← h]
              apply Go.WideShapes.bytes_inj
              rw [hn]; rfl)
            go_wp2
            go_ret
            exact ⟨ret_str hN.out.symm, rfl⟩
      · have hN := Lib.hid (show tr isBl (tl isBl (t.extract 1 t.size).data.toList) = T by
          have h := hT.out
          rw [data_cons t h0] at h
          simpa [tl, List.dropWhile, isBl_eq, hb] using h)
        go_wp2_with (go_at_call 74; refine (blank_any _ _).mono ?_; rintro e w1 ⟨rfl, rfl⟩)
        go_round
        case rel => exact ⟨_, rfl, by simp; omega, hN⟩
        case measure => simp; omega
    · have he : t.toList.isEmpty = true := by rw [isEmpty_sz, decide_eq_true (by omega)]
      have hT2 := Lib.hid (show tr isBl t.data.toList = T by
        have h := hT.out
        have hn : t.data.toList = [] := List.eq_nil_of_length_eq_zero (by rw [len_sz]; omega)
        rw [hn] at h ⊢
        exact h)
      go_wp2_with (go_at_call 74; refine (blank_any _ _).mono ?_; rintro e w1 ⟨rfl, rfl⟩)
      go_loop [0] (fun v => ∃ u : ByteArray, v = .string u ∧ u.size ≤ s.size ∧ Hid (tr isBl u.data.toList = T)) (fun v => match v with | .string t => t.size | _ => 0)
      case atStart => exact ⟨t, rfl, ht, hT2⟩
      case round =>
        obtain ⟨u, rfl, hu, hU⟩ := hrel
        clear hT hT2 ht he
        by_cases g0 : 0 < u.size
        · have ge : u.toList.isEmpty = false := by rw [isEmpty_sz, decide_eq_false (by omega)]
          cases gb : blankB (u[u.size - 1].toNat : Int)
          · have hN := Lib.hid (show (⟨T.toArray⟩ : ByteArray) = u by
              have h := hU.out
              rw [data_snoc u g0, tr_stop _ _ _ (by rw [isBl_eq, gb]), ← data_snoc u g0] at h
              rw [← h])
            go_wp2_with (go_at_call 74; refine (blank_any _ _).mono ?_; rintro e w1 ⟨rfl, rfl⟩)
            go_ret
            exact ⟨ret_str hN.out.symm, rfl⟩
          · have hN := Lib.hid (show tr isBl (u.extract 0 (u.size - 1)).data.toList = T by
              have h := hU.out
              rw [data_snoc u g0, tr_snoc _ _ _ (by rw [isBl_eq, gb])] at h
              exact h)
            go_wp2_with (go_at_call 74; refine (blank_any _ _).mono ?_; rintro e w1 ⟨rfl, rfl⟩)
            go_round
            case rel => exact ⟨_, rfl, by simp; omega, hN⟩
            case measure => simp; omega
        · have ge : u.toList.isEmpty = true := by rw [isEmpty_sz, decide_eq_true (by omega)]
          have hN := Lib.hid (show (⟨T.toArray⟩ : ByteArray) = u by
            have h := hU.out
            have hn : u.data.toList = [] := List.eq_nil_of_length_eq_zero (by rw [len_sz]; omega)
            rw [hn] at h
            rw [← h]
            apply Go.WideShapes.bytes_inj
            rw [hn]; rfl)
          go_wp2
          go_ret
          exact ⟨ret_str hN.out.symm, rfl⟩
end Go.Proofs.YtkbjklnkeammiaaDoor.Oct
