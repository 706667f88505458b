/- A status line as it is written. -/
import Derived.Test.YtkbjklnkeammiaaDoorStH
namespace Go.Proofs.YtkbjklnkeammiaaDoor.Oct
open Go.RowKit
set_option linter.unusedVariables false
/-- The code that is written. -/
def codeN (c : Int) : Int := max 200 (min c 599)
/-- A status line as it is written. -/
def stLine (c : Int) (r : List UInt8) : List UInt8 := (((ver9 ++ decL (codeN c)) ++ [32]) ++ r) ++ [13, 10]
theorem codeL (c : Int) : (decL (codeN c)).length ≤ 1000 := by
  have h := digL_len (b := 10) (by decide) (codeN c).toNat
  have : (codeN c).toNat ≤ 599 := by unfold codeN; omega
  show (digL 10 (codeN c).toNat).length ≤ 1000
  omega
theorem digitsL_any (c : Int) (w : World) (he : Env w) : Calls Tryd.prog 39 #[.int .i64 (max 200 (min c 599))] w fun e w' => e = .returned (.string (mk (decL (codeN c)))) ∧ Below w.heap.size w w' := digits_any (max 200 (min c 599)) (by omega) w he
theorem itoaL_any (c : Int) (w : World) (he : Env w) : Calls Tryd.prog 77 #[.int .i64 (max 200 (min c 599))] w fun e w' => e = .returned (.string (mk (decL (codeN c)))) ∧ Below w.heap.size w w' := itoa_any (max 200 (min c 599)) (by omega) (by omega) w he
def AtTwo (w : World) (a b : Value) (w1 : World) : Prop := w1.cell? ⟨w.heap.size, 0, none⟩ = some a ∧ w1.cell? ⟨w.heap.size, 1, none⟩ = some b ∧ w1.frozen? ⟨w.heap.size, 0, none⟩ = false ∧ w1.frozen? ⟨w.heap.size, 1, none⟩ = false ∧ w1.heap.size ≠ w.heap.size ∧ Below w.heap.size w w1
theorem at_two {w w1 : World} {a b : Value} {T : TypeId} (h : Below (w.alloc (.cells #[a, b] T)).drew.heap.size (w.alloc (.cells #[a, b] T)).drew w1) : AtTwo w a b w1 := by
  have hb : Below (w.alloc (.cells #[a, b] T)).heap.size (w.alloc (.cells #[a, b] T)) w1 := ⟨h.os, h.tape, h.output, h.size, h.block⟩
  obtain ⟨c0, c1, f0, f1, n0, l0⟩ := two_of hb
  exact ⟨c0, c1, f0, f1, n0, Below.trans ((Below.refl _ _).alloc (Nat.le_refl _) _) (hb.mono (by simp))⟩
theorem env_two {w : World} {a b : Value} {T : TypeId} (h : Env w) : Env (w.alloc (.cells #[a, b] T)).drew :=
  h.below (by
    have hb : Below w.heap.size w (w.alloc (.cells #[a, b] T)) := (Below.refl _ _).alloc (Nat.le_refl _) _
    exact ⟨hb.os, hb.tape, hb.output, hb.size, hb.block⟩)
theorem digitsAt (c : Int) (a b : Value) (T : TypeId) (w : World) (he : Env w) : Calls Tryd.prog 39 #[.int .i64 (max 200 (min c 599))] (w.alloc (.cells #[a, b] T)).drew fun e w' => e = .returned (.string (mk (decL (codeN c)))) ∧ AtTwo w a b w' :=
  (digitsL_any c _ (env_two he)).mono fun e w' h => ⟨h.1, at_two h.2⟩
theorem itoaAt (c : Int) (a b : Value) (T : TypeId) (w : World) (he : Env w) : Calls Tryd.prog 77 #[.int .i64 (max 200 (min c 599))] (w.alloc (.cells #[a, b] T)).drew fun e w' => e = .returned (.string (mk (decL (codeN c)))) ∧ AtTwo w a b w' :=
  (itoaL_any c _ (env_two he)).mono fun e w' h => ⟨h.1, at_two h.2⟩
set_option maxRecDepth 100000 in
set_option maxHeartbeats 8000000 in
theorem stLine_any (c : Int) (r : List UInt8) (hr : r.length ≤ 100000) (w : World) (he : Env w) :
    Calls Tryd.prog 53 #[stV (c, r)] w fun e w' => e = .returned (.string (mk (stLine c r))) ∧ Below w.heap.size w w' := by
  have hl := codeL c
  have d1 := Lib.hid (digitsAt c (.int .i64 c) (.string (mk r)) 60 w he)
  unfold stLine
  generalize decL (codeN c) = D at *
  have k1 := fun W => cat_lit ver9 D (mk D) rfl (by simp [ver9]; omega) W
  have k2 := cat_lit (ver9 ++ D) [32] ⟨#[32]⟩ rfl (by simp [ver9]; omega)
  have k3 := cat_lit ((ver9 ++ D) ++ [32]) r (mk r) rfl (by simp [ver9]; omega)
  have k4 := cat_lit (((ver9 ++ D) ++ [32]) ++ r) [13, 10] ⟨#[13, 10]⟩ rfl (by simp [ver9]; omega)
  rw [show mk ver9 = ⟨#[72, 84, 84, 80, 47, 49, 46, 49, 32]⟩ from rfl] at k1
  generalize (ver9 ++ D) = x1 at *
  generalize (x1 ++ [32]) = x2 at *
  generalize (x2 ++ r) = x3 at *
  generalize (x3 ++ [13, 10]) = x4 at *
  unfold stV
  go_enter Tryd.func53, Tryd.ntmps53
  clear he
  go_wp2_with fail
  go_region_with (go_at_call 39; refine d1.out.mono ?_; rintro e w1 ⟨rfl, c0, c1, f0, f1, n0, hb⟩; replace hb := Lib.hid hb)
  all_goals go_wp2_with fail
  all_goals go_ret
  all_goals exact ⟨rfl, by (repeat' (first | exact Below.refl _ _ | exact hb.out | refine Below.alloc ?_ (by first | (simp; done) | (simp; omega)) _ | refine below_drewN ?_ | refine Below.drew ?_))⟩
set_option maxRecDepth 100000 in
set_option maxHeartbeats 8000000 in
theorem refStLine_any (c : Int) (r : List UInt8) (hr : r.length ≤ 100000) (w : World) (he : Env w) :
    Calls Tryd.prog 54 #[stV (c, r)] w fun e w' => e = .returned (.string (mk (stLine c r))) ∧ Below w.heap.size w w' := by
  have hl := codeL c
  have d1 := Lib.hid (itoaAt c (.int .i64 c) (.string (mk r)) 63 w he)
  unfold stLine
  generalize decL (codeN c) = D at *
  have k1 := fun W => cat_lit ver9 D (mk D) rfl (by simp [ver9]; omega) W
  have k2 := cat_lit (ver9 ++ D) [32] ⟨#[32]⟩ rfl (by simp [ver9]; omega)
  have k3 := cat_lit ((ver9 ++ D) ++ [32]) r (mk r) rfl (by simp [ver9]; omega)
  have k4 := cat_lit (((ver9 ++ D) ++ [32]) ++ r) [13, 10] ⟨#[13, 10]⟩ rfl (by simp [ver9]; omega)
  rw [show mk ver9 = ⟨#[72, 84, 84, 80, 47, 49, 46, 49, 32]⟩ from rfl] at k1
  generalize (ver9 ++ D) = x1 at *
  generalize (x1 ++ [32]) = x2 at *
  generalize (x2 ++ r) = x3 at *
  generalize (x3 ++ [13, 10]) = x4 at *
  unfold stV
  go_enter Tryd.func54, Tryd.ntmps54
  clear he
  go_wp2_with fail
  go_region_with (go_at_call 77; refine d1.out.mono ?_; rintro e w1 ⟨rfl, c0, c1, f0, f1, n0, hb⟩; replace hb := Lib.hid hb)
  all_goals go_wp2_with fail
  all_goals go_ret
  all_goals exact ⟨rfl, by (repeat' (first | exact Below.refl _ _ | exact hb.out | refine Below.alloc ?_ (by first | (simp; done) | (simp; omega)) _ | refine below_drewN ?_ | refine Below.drew ?_))⟩
end Go.Proofs.YtkbjklnkeammiaaDoor.Oct
