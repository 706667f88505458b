import Derived.Test.YtkbjklnkeammiaaDoorOctX
namespace Go.Proofs.YtkbjklnkeammiaaDoor.Oct
open Go.RowKit
set_option linter.unusedVariables false
theorem cut14 (s : ByteArray) (w : World) : Calls Tryd.prog 24 #[.string s, .int .i64 14] w fun e w' => e = .returned (.string (cutS 14 s)) ∧ w = w' := cut_any s 14 w
set_option maxRecDepth 100000 in
set_option maxHeartbeats 2000000 in
theorem numbers_any (s : ByteArray) (most : Int) (w : World) (he : Env w) :
    Calls Tryd.prog 7 #[.string s, .int .i64 most] w fun e w' => e = .returned (.bool true) ∧ Below w.heap.size w w' := by
  have HE := Lib.hid he
  clear he
  have hz : (cutS 14 s).size ≤ maxLen := Nat.le_trans (cutS_size 14 s) (by decide)
  go_enter Tryd.func7, Tryd.ntmps7
  go_wp2_with (first
    | (go_at_call 19; with_reducible refine (awake_any _ HE.out).mono ?_; rintro e w1 ⟨rfl, hb1⟩; have hB := Lib.hid hb1; clear hb1)
    | (go_at_call 24; with_reducible refine (cut14 s _).mono ?_; rintro e w1' ⟨rfl, rfl⟩))
  generalize cutS 14 s = x at *
  generalize hp : numS 10 10 x most = p at *
  generalize hq : numS 16 8 x most = q at *
  have d1 := fun W => hp ▸ dec_any x hz most W
  have d2 := fun W => hq ▸ hex_any x hz most W
  have d3 := fun W => hp ▸ refNumber10 x hz most W
  have d4 := fun W => hq ▸ refNumber16 x hz most W
  go_wp2_with (first
    | (go_at_call 36; refine (d1 _).mono ?_; rintro e w2 ⟨rfl, hb2⟩; replace hB := Lib.hid (hB.out.trans (hb2.mono hB.out.size)); clear hb2)
    | (go_at_call 37; refine (d2 _).mono ?_; rintro e w2 ⟨rfl, hb2⟩; replace hB := Lib.hid (hB.out.trans (hb2.mono hB.out.size)); clear hb2)
    | (go_at_call 38; first | (with_reducible refine (d3 _).mono ?_; rintro e w2' ⟨rfl, rfl⟩) | (with_reducible refine (d4 _).mono ?_; rintro e w2' ⟨rfl, rfl⟩)))
  go_ret
  exact ⟨rfl, hB.out⟩
end Go.Proofs.YtkbjklnkeammiaaDoor.Oct
