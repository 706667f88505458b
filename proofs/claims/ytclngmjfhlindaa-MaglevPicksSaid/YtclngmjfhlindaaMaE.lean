/- The order of names; cmp.Compare at strings; the closure that compares two entries. -/
import Derived.Test.YtclngmjfhlindaaMaD
import Derived.Sort.LotA
import Derived.Shelf.SlSortCmp.NoneTotal
namespace Go.Proofs.Ytclngmjfhlindaa.Ma
open Go.RowKit Go.Sort Go.Lib Go.Shelf Go.Proofs.Ytclngmjfhlindaa.Sip
set_option linter.unusedVariables false
theorem bytesLess_lt : ∀ (x y : List UInt8), Op.bytesLess x y = decide (x < y)
  | [], [] => by simp [Op.bytesLess]
  | _ :: _, [] => by simp [Op.bytesLess]
  | [], _ :: _ => by simp [Op.bytesLess]
  | a :: x, b :: y => by
    rw [Op.bytesLess, bytesLess_lt x y]
    simp only [List.cons_lt_cons_iff]
    by_cases h1 : a < b <;> by_cases h2 : a = b <;> by_cases h3 : x < y <;> simp [h1, h2, h3]
theorem mk_lt (a b : List UInt8) : Op.bytesLess (mk a).toList (mk b).toList = decide (a < b) := by
  rw [bytesLess_lt, Lib.toList_data, Lib.toList_data]; rfl
/-- What the closure says of two entries. -/
def cmpN (a b : List UInt8) : Int := if a < b then -1 else if b < a then 1 else 0
def cfE (x y : Ent) : Int := cmpN x.1 y.1
theorem ltOf_cfE (x y : Ent) : ltOf cfE x y = decide (x.1 < y.1) := by
  unfold ltOf cfE cmpN
  by_cases h1 : x.1 < y.1
  · simp [h1]
  · by_cases h2 : y.1 < x.1 <;> simp [h1, h2]
theorem swoE : SWO (ltOf cfE) where
  irrefl x := by rw [ltOf_cfE]; exact swo_ltStr.irrefl x.1
  trans x y z h1 h2 := by rw [ltOf_cfE] at *; exact swo_ltStr.trans x.1 y.1 z.1 h1 h2
  ntrans x y z h1 h2 := by rw [ltOf_cfE] at *; exact swo_ltStr.ntrans x.1 y.1 z.1 h1 h2
theorem isNaN_any (a : ByteArray) (w : World) : Calls Try.prog 42 #[.string a] w fun e w' => e = .returned (.bool false) ∧ w' = w := by
  go_enter Try.func42, Try.ntmps42
  go_wp2
  go_ret
  exact ⟨by simp, rfl⟩
set_option maxRecDepth 100000 in
theorem compare_any (a b : List UInt8) (w : World) : Calls Try.prog 29 #[.string (mk a), .string (mk b)] w fun e w' => e = .returned (.int .i64 (cmpN a b)) ∧ w' = w := by
  have h1 := mk_lt a b
  have h2 := mk_eq a b
  by_cases c1 : a < b
  · have hX := Lib.hid (show cmpN a b = -1 by unfold cmpN; rw [if_pos c1])
    rw [decide_eq_true c1] at h1
    clear c1
    go_enter Try.func29, Try.ntmps29
    go_wp2_with (go_at_call 42; refine (isNaN_any _ _).mono ?_; rintro e w1 ⟨rfl, hw⟩; rw [hw]; clear hw w1)
    go_ret
    exact ⟨by rw [hX.out]; rfl, rfl⟩
  · rw [decide_eq_false c1] at h1
    by_cases c2 : a = b
    · subst c2
      have hX := Lib.hid (show cmpN a a = 0 by unfold cmpN; rw [if_neg c1, if_neg c1])
      rw [decide_eq_true rfl] at h2
      clear c1
      go_enter Try.func29, Try.ntmps29
      go_wp2_with (go_at_call 42; refine (isNaN_any _ _).mono ?_; rintro e w1 ⟨rfl, hw⟩; rw [hw]; clear hw w1)
      go_ret
      exact ⟨by rw [hX.out]; rfl, rfl⟩
    · rw [decide_eq_false c2] at h2
      have hX := Lib.hid (show cmpN a b = 1 by
        unfold cmpN
        rw [if_neg c1, if_pos]
        rcases Classical.em (b < a) with h | h
        · exact h
        · exact absurd (List.le_antisymm (List.not_lt.1 h) (List.not_lt.1 c1)) c2)
      clear c1 c2
      go_enter Try.func29, Try.ntmps29
      go_wp2_with (go_at_call 42; refine (isNaN_any _ _).mono ?_; rintro e w1 ⟨rfl, hw⟩; rw [hw]; clear hw w1)
      go_ret
      exact ⟨by rw [hX.out]; rfl, rfl⟩
set_option maxHeartbeats 1000000 in
theorem closure_any (x y : Ent) (W : World) : Calls Try.prog 28 #[.agg #[.string (mk x.1), .int .i64 x.2], .agg #[.string (mk y.1), .int .i64 y.2]] W fun e w' => e = .returned (.int .i64 (cfE x y)) ∧ ∃ q os', w' = grow (W.drewN q) os' := by
  have hcon := fun W' => compare_any x.1 y.1 W'
  unfold cfE
  generalize cmpN x.1 y.1 = r at hcon ⊢
  go_enter Try.func28, Try.ntmps28
  go_wp2_with (go_at_call 29; refine (hcon _).mono ?_; rintro e w' ⟨rfl, rfl⟩)
  go_ret
  exact ⟨rfl, 0, _, by rw [alloc_eq_grow, alloc_eq_grow, grow_grow]; rfl⟩
theorem cmpLaysE (blk off size : Nat) (w : World) : CmpLays Try.prog 28 #[] entV 2 cfE blk off size w :=
  fun _ _ _ _ x y => closure_any x y _
end Go.Proofs.Ytclngmjfhlindaa.Ma
