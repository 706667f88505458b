/- The document's rounds. -/
import Derived.Test.YtiamkhhnnlgemaaDoorSipA
import Derived.Deep.QuietTactic
import Derived.BigQuiet
import Derived.RegionTactic
import Derived.ChangeAlike
import Derived.Laws.Rows
import Derived.OpenShut
import Derived.Deep.RegionHeld
import Derived.StillTailTactics
namespace Go.Proofs.YtiamkhhnnlgemaaDoor.Sip
open Go.RowKit
set_option linter.unusedVariables false
theorem drewBelow {B : Nat} {a w : World} {n : Nat} (h : Below B a w) : Below B a (w.drewN n) := ⟨h.os, h.tape, h.output, h.size, h.block⟩
theorem rot13 (x : Int) (w : World) : Calls Tryd.prog 62 #[.int .u64 x, .int .i64 13] w fun e w' => e = .returned (.int .u64 (rotl x 8192 2251799813685248)) ∧ w = w' := by
  have hk : bits .and .u64 13 63 = 13 := by decide +kernel
  go_enter Tryd.func62, Tryd.ntmps62
  go_wp2
  go_ret
  exact ⟨rfl, rfl⟩
theorem turn13 (x : Int) (w : World) : Calls Tryd.prog 61 #[.int .u64 x, .int .i64 13] w fun e w' => e = .returned (.int .u64 (rotl x 8192 2251799813685248)) ∧ ∃ n, w' = w.drewN n := by
  go_enter Tryd.func61, Tryd.ntmps61
  go_wp2
  go_quiet (fail)
  go_wp2
  go_ret
  exact ⟨rfl, _, rfl⟩
theorem rot16 (x : Int) (w : World) : Calls Tryd.prog 62 #[.int .u64 x, .int .i64 16] w fun e w' => e = .returned (.int .u64 (rotl x 65536 281474976710656)) ∧ w = w' := by
  have hk : bits .and .u64 16 63 = 16 := by decide +kernel
  go_enter Tryd.func62, Tryd.ntmps62
  go_wp2
  go_ret
  exact ⟨rfl, rfl⟩
theorem turn16 (x : Int) (w : World) : Calls Tryd.prog 61 #[.int .u64 x, .int .i64 16] w fun e w' => e = .returned (.int .u64 (rotl x 65536 281474976710656)) ∧ ∃ n, w' = w.drewN n := by
  go_enter Tryd.func61, Tryd.ntmps61
  go_wp2
  go_quiet (fail)
  go_wp2
  go_ret
  exact ⟨rfl, _, rfl⟩
theorem rot17 (x : Int) (w : World) : Calls Tryd.prog 62 #[.int .u64 x, .int .i64 17] w fun e w' => e = .returned (.int .u64 (rotl x 131072 140737488355328)) ∧ w = w' := by
  have hk : bits .and .u64 17 63 = 17 := by decide +kernel
  go_enter Tryd.func62, Tryd.ntmps62
  go_wp2
  go_ret
  exact ⟨rfl, rfl⟩
theorem turn17 (x : Int) (w : World) : Calls Tryd.prog 61 #[.int .u64 x, .int .i64 17] w fun e w' => e = .returned (.int .u64 (rotl x 131072 140737488355328)) ∧ ∃ n, w' = w.drewN n := by
  go_enter Tryd.func61, Tryd.ntmps61
  go_wp2
  go_quiet (fail)
  go_wp2
  go_ret
  exact ⟨rfl, _, rfl⟩
theorem rot21 (x : Int) (w : World) : Calls Tryd.prog 62 #[.int .u64 x, .int .i64 21] w fun e w' => e = .returned (.int .u64 (rotl x 2097152 8796093022208)) ∧ w = w' := by
  have hk : bits .and .u64 21 63 = 21 := by decide +kernel
  go_enter Tryd.func62, Tryd.ntmps62
  go_wp2
  go_ret
  exact ⟨rfl, rfl⟩
theorem turn21 (x : Int) (w : World) : Calls Tryd.prog 61 #[.int .u64 x, .int .i64 21] w fun e w' => e = .returned (.int .u64 (rotl x 2097152 8796093022208)) ∧ ∃ n, w' = w.drewN n := by
  go_enter Tryd.func61, Tryd.ntmps61
  go_wp2
  go_quiet (fail)
  go_wp2
  go_ret
  exact ⟨rfl, _, rfl⟩
theorem rot32 (x : Int) (w : World) : Calls Tryd.prog 62 #[.int .u64 x, .int .i64 32] w fun e w' => e = .returned (.int .u64 (rotl x 4294967296 4294967296)) ∧ w = w' := by
  have hk : bits .and .u64 32 63 = 32 := by decide +kernel
  go_enter Tryd.func62, Tryd.ntmps62
  go_wp2
  go_ret
  exact ⟨rfl, rfl⟩
theorem turn32 (x : Int) (w : World) : Calls Tryd.prog 61 #[.int .u64 x, .int .i64 32] w fun e w' => e = .returned (.int .u64 (rotl x 4294967296 4294967296)) ∧ ∃ n, w' = w.drewN n := by
  go_enter Tryd.func61, Tryd.ntmps61
  go_wp2
  go_quiet (fail)
  go_wp2
  go_ret
  exact ⟨rfl, _, rfl⟩
theorem results_cell {fn : Func} {p : Tmp} {ty : TypeId} (h : fn.results = #[.cell p ty]) (tmps : Array Value) (P : Program) (w : World) :
    (results fn tmps).run P w = ((asAddr (tmps.getD p undef)).run P w).andThen fun a w₁ => (loadVar ty a).run P w₁ := by
  simp only [results, h]
  simp [Sem.run_bind, Result.andThen]
def s4V (v : S4) : Value := .agg #[.int .u64 v.a, .int .u64 v.b, .int .u64 v.c, .int .u64 v.d]
set_option maxRecDepth 100000 in
set_option maxHeartbeats 2000000 in
theorem refRound_any (v : S4) (w : World) :
    Calls Tryd.prog 42 #[s4V v] w fun e w' => e = .returned (s4V (roundI v)) ∧ Below w.heap.size w w' := by
  unfold s4V
  go_enter Tryd.func42, Tryd.ntmps42
  go_wp2_with (first | (go_at_call 61; with_reducible refine (turn13 _ _).mono ?_; rintro e w1 ⟨rfl, n13, rfl⟩) | (go_at_call 61; with_reducible refine (turn16 _ _).mono ?_; rintro e w1 ⟨rfl, n16, rfl⟩) | (go_at_call 61; with_reducible refine (turn17 _ _).mono ?_; rintro e w1 ⟨rfl, n17, rfl⟩) | (go_at_call 61; with_reducible refine (turn21 _ _).mono ?_; rintro e w1 ⟨rfl, n21, rfl⟩) | (go_at_call 61; with_reducible refine (turn32 _ _).mono ?_; rintro e w1 ⟨rfl, n32, rfl⟩))
  go_quiet (fail)
  go_wp2_with (first | (go_at_call 61; with_reducible refine (turn13 _ _).mono ?_; rintro e w1 ⟨rfl, n13, rfl⟩) | (go_at_call 61; with_reducible refine (turn16 _ _).mono ?_; rintro e w1 ⟨rfl, n16, rfl⟩) | (go_at_call 61; with_reducible refine (turn17 _ _).mono ?_; rintro e w1 ⟨rfl, n17, rfl⟩) | (go_at_call 61; with_reducible refine (turn21 _ _).mono ?_; rintro e w1 ⟨rfl, n21, rfl⟩) | (go_at_call 61; with_reducible refine (turn32 _ _).mono ?_; rintro e w1 ⟨rfl, n32, rfl⟩))
  (try simp only [Exit.inBlock, Exit.then])
  refine bodyPost_ret (v := s4V (roundI v)) ?_ rfl ⟨rfl, ?_⟩
  · rw [results_cell rfl]; go_simp; rfl
  · (repeat' (first | exact Below.refl _ _ | refine Below.alloc ?_ (by first | (simp; done) | (simp; omega)) _ | refine Below.setCell ?_ (by first | (simp; done) | (simp; omega)) _ | refine drewBelow ?_))
end Go.Proofs.YtiamkhhnnlgemaaDoor.Sip
