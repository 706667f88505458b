/- The order of points: cmp.Compare at numbers, cmp.Or, point.compare, slices.SortFunc. -/
import Derived.Test.YtiamkhhnnlgemaaDoorRiB
import Derived.Test.YtiamkhhnnlgemaaDoorShelfB
namespace Go.Proofs.YtiamkhhnnlgemaaDoor.Ri
open Go.RowKit Go.Sort Go.Lib Go.Shelf Go.Proofs.YtiamkhhnnlgemaaDoor.Sip
set_option linter.unusedVariables false
def cmpZ (a b : Int) : Int := if a < b then -1 else if b < a then 1 else 0
def orI (a b : Int) : Int := if a = 0 then b else a
def cfP (x y : Pt) : Int := orI (cmpZ x.1 y.1) (cmpN x.2 y.2)
theorem ltOf_cfP (x y : Pt) : ltOf cfP x y = decide (ltP x y) := by
  unfold ltOf cfP orI cmpZ cmpN ltP
  by_cases h1 : x.1 < y.1
  · simp [h1]
  · by_cases h2 : y.1 < x.1
    · have h3 : ¬ x.1 = y.1 := by omega
      simp [h1, h2, h3]
    · have h3 : x.1 = y.1 := by omega
      by_cases h4 : x.2 < y.2
      · simp [h3, h4]
      · by_cases h5 : y.2 < x.2 <;> simp [h3, h4, h5]
theorem swoP : SWO (ltOf cfP) where
  irrefl x := by rw [ltOf_cfP]; exact decide_eq_false (ltP_irrefl x)
  trans x y z h1 h2 := by
    rw [ltOf_cfP] at *
    exact decide_eq_true (ltP_trans (of_decide_eq_true h1) (of_decide_eq_true h2))
  ntrans x y z h1 h2 := by
    rw [ltOf_cfP] at *
    exact decide_eq_false (leP_trans (of_decide_eq_false h2) (of_decide_eq_false h1))
theorem isNaNU_any (a : Int) (w : World) : Calls Tryd.prog 59 #[.int .u64 a] w fun e w' => e = .returned (.bool false) ∧ w' = w := by
  go_enter Tryd.func59, Tryd.ntmps59
  go_wp2
  go_ret
  exact ⟨by simp, rfl⟩
theorem compareU_any (a b : Int) (w : World) : Calls Tryd.prog 38 #[.int .u64 a, .int .u64 b] w fun e w' => e = .returned (.int .i64 (cmpZ a b)) ∧ w' = w := by
  by_cases c1 : a < b
  · have hX := Lib.hid (show cmpZ a b = -1 by unfold cmpZ; rw [if_pos c1])
    go_enter Tryd.func38, Tryd.ntmps38
    go_wp2_with (go_at_call 59; refine (isNaNU_any _ _).mono ?_; rintro e w1 ⟨rfl, hw⟩; rw [hw]; clear hw w1)
    go_ret
    exact ⟨by rw [hX.out]; rfl, rfl⟩
  · by_cases c2 : b < a
    · have hX := Lib.hid (show cmpZ a b = 1 by unfold cmpZ; rw [if_neg c1, if_pos c2])
      go_enter Tryd.func38, Tryd.ntmps38
      go_wp2_with (go_at_call 59; refine (isNaNU_any _ _).mono ?_; rintro e w1 ⟨rfl, hw⟩; rw [hw]; clear hw w1)
      go_ret
      exact ⟨by rw [hX.out]; rfl, rfl⟩
    · have hX := Lib.hid (show cmpZ a b = 0 by unfold cmpZ; rw [if_neg c1, if_neg c2])
      go_enter Tryd.func38, Tryd.ntmps38
      go_wp2_with (go_at_call 59; refine (isNaNU_any _ _).mono ?_; rintro e w1 ⟨rfl, hw⟩; rw [hw]; clear hw w1)
      go_ret
      exact ⟨by rw [hX.out]; rfl, rfl⟩
theorem ret_i64 {a b : Int} (h : a = b) : Ending.returned (.int .i64 a) = .returned (.int .i64 b) := by rw [h]
def OrSt (c1 c2 : Int) (k : Nat) : Prop := (1 ≤ k → c1 = 0) ∧ (2 ≤ k → c2 = 0)
/-- cmp.Or of two. -/
theorem or_any (c1 c2 : Int) (B cap : Nat) (w : World) (h0 : w.cell? ⟨B, 0, none⟩ = some (.int .i64 c1)) (h1 : w.cell? ⟨B, 1, none⟩ = some (.int .i64 c2)) :
    Calls Tryd.prog 37 #[.slice (some ⟨B, 0, none⟩) 2 cap] w fun e w' => e = .returned (.int .i64 (orI c1 c2)) ∧ w' = w := by
  go_enter Tryd.func37, Tryd.ntmps37
  go_wp2
  go_loop [8] (fun i => ∃ k : Nat, k ≤ 2 ∧ i = .int .i64 k ∧ Hid (OrSt c1 c2 k)) (fun i => 2 - (intOf i).toNat)
  case atStart => exact ⟨0, by omega, rfl, Lib.hid ⟨fun h => by omega, fun h => by omega⟩⟩
  case round =>
    obtain ⟨k, hk, rfl, hst⟩ := hrel
    rcases (show k = 0 ∨ k = 1 ∨ k = 2 by omega) with rfl | rfl | rfl
    · by_cases c : c1 = 0
      · have hb : (c1 != 0) = false := by simpa using c
        have hn : Hid (OrSt c1 c2 1) := Lib.hid ⟨fun _ => c, fun h => by omega⟩
        clear c
        go_wp2
        go_round
        case rel => exact ⟨1, by omega, rfl, hn⟩
        case measure => simp [intOf]
      · have hb : (c1 != 0) = true := by simpa using c
        have hX := Lib.hid (show c1 = orI c1 c2 by unfold orI; rw [if_neg c])
        clear c
        go_wp2
        go_ret
        exact ⟨ret_i64 hX.out, rfl⟩
    · by_cases c : c2 = 0
      · have hb : (c2 != 0) = false := by simpa using c
        have hn : Hid (OrSt c1 c2 2) := Lib.hid ⟨fun _ => hst.out.1 (by omega), fun _ => c⟩
        clear c
        go_wp2
        go_round
        case rel => exact ⟨2, by omega, rfl, hn⟩
        case measure => simp [intOf]
      · have hb : (c2 != 0) = true := by simpa using c
        have hX := Lib.hid (show c2 = orI c1 c2 by unfold orI; rw [if_pos (hst.out.1 (by omega))])
        clear c
        go_wp2
        go_ret
        exact ⟨ret_i64 hX.out, rfl⟩
    · have hX := Lib.hid (show 0 = orI c1 c2 by unfold orI; rw [if_pos (hst.out.1 (by omega))]; exact (hst.out.2 (by omega)).symm)
      go_wp2
      go_ret
      exact ⟨ret_i64 hX.out, rfl⟩
theorem world_three (W : World) (a b c : Obj) : ∃ q os', ((W.alloc a).alloc b).drew.alloc c = grow (W.drewN q) os' := ⟨1, #[a, b, c], by
  show (((W.drewN 1).alloc a).alloc b).alloc c = _
  rw [alloc_eq_grow, alloc_eq_grow, alloc_eq_grow, grow_grow, grow_grow]; rfl⟩
set_option maxHeartbeats 2000000 in
theorem compareP_any (x y : Pt) (W : World) : Calls Tryd.prog 26 #[.agg #[.int .u64 x.1, .string (mk x.2)], .agg #[.int .u64 y.1, .string (mk y.2)]] W fun e w' => e = .returned (.int .i64 (cfP x y)) ∧ ∃ q os', w' = grow (W.drewN q) os' := by
  have d1 := fun W' => compareU_any x.1 y.1 W'
  have d2 := fun W' => compare_any x.2 y.2 W'
  unfold cfP
  generalize cmpZ x.1 y.1 = c1 at *
  generalize cmpN x.2 y.2 = c2 at *
  go_enter Tryd.func26, Tryd.ntmps26
  go_wp2
  obtain ⟨x0, x1⟩ := new_two W (.int .u64 x.1) (.string (mk x.2)) 67
  obtain ⟨y0, y1⟩ := new_two (W.alloc (.cells #[.int .u64 x.1, .string (mk x.2)] 67)) (.int .u64 y.1) (.string (mk y.2)) 67
  have x0' := oldA x0 (by simp) (.cells #[.int .u64 y.1, .string (mk y.2)] 67)
  have x1' := oldA x1 (by simp) (.cells #[.int .u64 y.1, .string (mk y.2)] 67)
  rw [World.size_alloc] at y0 y1
  clear x0 x1
  have hw3 := Lib.hid (fun c => world_three W (.cells #[.int .u64 x.1, .string (mk x.2)] 67) (.cells #[.int .u64 y.1, .string (mk y.2)] 67) c)
  have hB : W.heap.size + 1 < ((W.alloc (.cells #[.int .u64 x.1, .string (mk x.2)] 67)).alloc (.cells #[.int .u64 y.1, .string (mk y.2)] 67)).heap.size := by simp
  generalize (W.alloc (.cells #[.int .u64 x.1, .string (mk x.2)] 67)).alloc (.cells #[.int .u64 y.1, .string (mk y.2)] 67) = W2 at *
  generalize W.heap.size = q at *
  have hn1 : W2.heap.size ≠ q := by omega
  have hn2 : W2.heap.size ≠ q + 1 := by omega
  have hnw := fun a b => new_two W2.drew (.int .i64 a) (.int .i64 b) 110
  go_region_held3 (fun w' => w'.cell? ⟨q, 0, none⟩ = some (.int .u64 x.1) ∧ w'.cell? ⟨q, 1, none⟩ = some (.string (mk x.2)) ∧ w'.cell? ⟨q + 1, 0, none⟩ = some (.int .u64 y.1) ∧ w'.cell? ⟨q + 1, 1, none⟩ = some (.string (mk y.2)))
    (go_keep)
    (first
      | (go_at_call 38; (with_reducible refine (d1 _).mono ?_); rintro e w1 ⟨rfl, rfl⟩)
      | (go_at_call 39; (with_reducible refine (d2 _).mono ?_); rintro e w2 ⟨rfl, rfl⟩)
      | (go_at_call 37; refine (or_any c1 c2 W2.heap.size _ _ (by first | exact (new_two W2 _ _ _).1 | exact (new_two W2.drew _ _ _).1) (by first | exact (new_two W2 _ _ _).2 | exact (new_two W2.drew _ _ _).2)).mono ?_; rintro e w3 ⟨rfl, rfl⟩))
  go_wp2
  go_ret
  exact ⟨rfl, hw3.out _⟩
theorem eg_cmp : ∀ args w, (callFunc 26 args).run Tryd.prog w = .ok (.enter 26 args) w := enters_of Tryd.func26 (by kernel_rfl) rfl
theorem cmpLaysP (blk off size : Nat) (w : World) : CmpLays Tryd.prog 26 #[] ptV 2 cfP blk off size w :=
  fun _ _ _ _ x y => compareP_any x y _
end Go.Proofs.YtiamkhhnnlgemaaDoor.Ri
