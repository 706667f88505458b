/- The law StartCodes, and the fixed facts. -/
import Derived.Test.YtkbjklnkeammiaaDoorStH
namespace Go.Proofs.YtkbjklnkeammiaaDoor.Oct
open Go.RowKit
set_option linter.unusedVariables false
theorem aw1 : reqOf [71, 69, 84, 32, 47, 97, 63, 98, 32, 72, 84, 84, 80, 47, 49, 46, 49] = (([71, 69, 84], [47, 97, 63, 98]), 0) := by decide +kernel
theorem aw2 : stOf [72, 84, 84, 80, 47, 49, 46, 49, 32, 50, 48, 48] = ((200, []), 0) := by decide +kernel
theorem aw3 : pathL [47, 97, 63, 98] = [47, 97] := by decide +kernel
theorem aw4 : idemL [71, 69, 84] = true := by decide +kernel
theorem aw5 : reasonS 502 = ⟨#[66, 97, 100, 32, 71, 97, 116, 101, 119, 97, 121]⟩ := by decide +kernel
theorem awReq (w : World) (he : Env w) : Calls Tryd.prog 43 #[.string ⟨#[71, 69, 84, 32, 47, 97, 63, 98, 32, 72, 84, 84, 80, 47, 49, 46, 49]⟩] w fun e w' => e = .returned (.tuple #[.agg #[.string ⟨#[71, 69, 84]⟩, .string ⟨#[47, 97, 63, 98]⟩], .int .i64 0]) ∧ Below w.heap.size w w' := by
  have h := parseRequest_any ⟨#[71, 69, 84, 32, 47, 97, 63, 98, 32, 72, 84, 84, 80, 47, 49, 46, 49]⟩ (by decide) w he
  rw [show (⟨#[71, 69, 84, 32, 47, 97, 63, 98, 32, 72, 84, 84, 80, 47, 49, 46, 49]⟩ : ByteArray).data.toList = [71, 69, 84, 32, 47, 97, 63, 98, 32, 72, 84, 84, 80, 47, 49, 46, 49] from rfl, aw1] at h
  exact h
theorem awSt (w : World) : Calls Tryd.prog 51 #[.string ⟨#[72, 84, 84, 80, 47, 49, 46, 49, 32, 50, 48, 48]⟩] w fun e w' => e = .returned (.tuple #[.agg #[.int .i64 200, .string ⟨#[]⟩], .int .i64 0]) ∧ Below w.heap.size w w' := by
  have h := parseStatus_any ⟨#[72, 84, 84, 80, 47, 49, 46, 49, 32, 50, 48, 48]⟩ (by decide) w
  rw [show (⟨#[72, 84, 84, 80, 47, 49, 46, 49, 32, 50, 48, 48]⟩ : ByteArray).data.toList = [72, 84, 84, 80, 47, 49, 46, 49, 32, 50, 48, 48] from rfl, aw2] at h
  exact h
theorem awPath (w : World) (he : Env w) : Calls Tryd.prog 58 #[.agg #[.string ⟨#[71, 69, 84]⟩, .string ⟨#[47, 97, 63, 98]⟩]] w fun e w' => e = .returned (.string ⟨#[47, 97]⟩) ∧ Below w.heap.size w w' := by
  have h := path_any [71, 69, 84] [47, 97, 63, 98] (by decide) w he
  rw [aw3] at h
  exact h
theorem awIdem (w : World) : Calls Tryd.prog 56 #[.agg #[.string ⟨#[71, 69, 84]⟩, .string ⟨#[47, 97, 63, 98]⟩]] w fun e w' => e = .returned (.bool true) ∧ Below w.heap.size w w' := by
  have h := idem_any [71, 69, 84] [47, 97, 63, 98] w
  rw [aw4] at h
  exact h.mono fun e w' h => ⟨h.1, by rw [h.2]; exact (Below.refl _ _).alloc (Nat.le_refl _) _⟩
theorem awReason (w : World) (he : SEnv w) : Calls Tryd.prog 47 #[.int .i64 502] w fun e w' => e = .returned (.string ⟨#[66, 97, 100, 32, 71, 97, 116, 101, 119, 97, 121]⟩) ∧ Below w.heap.size w w' := by
  have h := reason_any 502 w he
  rw [aw5] at h
  exact h
theorem two_on {w w1 : World} {o : Obj} {b k : Nat} {a : Value} (hb : Below (w.alloc o).heap.size (w.alloc o) w1) (h : w.cell? ⟨b, k, none⟩ = some a) : w1.cell? ⟨b, k, none⟩ = some a := by
  have hlt : b < w.heap.size := World.block_lt_of_cell? w ⟨b, k, none⟩ h
  exact (hb.cell (p := ⟨b, k, none⟩) (by simp; omega)).trans ((World.cell?_alloc_old _ _ _ (Nat.ne_of_lt hlt)).trans h)
theorem two_go {w w1 : World} {b k : Nat} {a : Value} (hb : Below w.heap.size w w1) (h : w.cell? ⟨b, k, none⟩ = some a) : w1.cell? ⟨b, k, none⟩ = some a :=
  (hb.cell (p := ⟨b, k, none⟩) (World.block_lt_of_cell? w ⟨b, k, none⟩ h)).trans h
theorem grow_one {w w1 w2 : World} {o : Obj} (h1 : Below w.heap.size w w1) (h2 : Below (w1.alloc o).heap.size (w1.alloc o) w2) : Below w.heap.size w w2 :=
  (h1.alloc h1.size o).trans (h2.mono (by have := h1.size; simp; omega))
set_option maxRecDepth 100000 in
set_option maxHeartbeats 2000000 in
theorem sawake_any (w : World) (he : SEnv w) :
    Calls Tryd.prog 42 #[] w fun e w' => e = .returned (.bool true) ∧ Below w.heap.size w w' := by
  have HE := Lib.hid he
  clear he
  go_enter Tryd.func42, Tryd.ntmps42
  go_wp2_with (first
    | (go_at_call 43; refine (awReq _ HE.out.toEnv).mono ?_; rintro e w1 ⟨rfl, hb⟩; have hB := Lib.hid hb; clear hb)
    | (go_at_call 51; refine (awSt _).mono ?_; rintro e w2 ⟨rfl, hb⟩; obtain ⟨r0, r1, g0, g1, nr, lr⟩ := two_of hb; replace hB := Lib.hid (grow_one hB.out hb); clear hb g0 g1)
    | (go_at_call 58; refine (awPath _ (HE.out.toEnv.below (hB.out.alloc hB.out.size _))).mono ?_; rintro e w3 ⟨rfl, hb⟩; replace r0 := two_on hb r0; replace r1 := two_on hb r1; replace hB := Lib.hid (grow_one hB.out hb); clear hb)
    | (go_at_call 56; refine (awIdem _).mono ?_; rintro e w4 ⟨rfl, hb⟩; replace hB := Lib.hid (hB.out.trans (hb.mono hB.out.size)); clear hb)
    | (go_at_call 47; refine (awReason _ (HE.out.below hB.out)).mono ?_; rintro e w5 ⟨rfl, hb⟩; replace hB := Lib.hid (hB.out.trans (hb.mono hB.out.size)); clear hb))
  go_ret
  exact ⟨rfl, hB.out⟩
theorem cut20 (s : ByteArray) (w : World) : Calls Tryd.prog 24 #[.string s, .int .i64 20] w fun e w' => e = .returned (.string (cutS 20 s)) ∧ w = w' := cut_any s 20 w
set_option maxRecDepth 100000 in
set_option maxHeartbeats 2000000 in
theorem codes_any (m : ByteArray) (code : Int) (w : World) (he : SEnv w) :
    Calls Tryd.prog 10 #[.string m, .int .i64 code] w fun e w' => e = .returned (.bool true) ∧ Below w.heap.size w w' := by
  have HE := Lib.hid he
  clear he
  go_enter Tryd.func10, Tryd.ntmps10
  go_wp2_with (first
    | (go_at_call 42; with_reducible refine (sawake_any _ HE.out).mono ?_; rintro e w1 ⟨rfl, hb⟩; have hB := Lib.hid hb; clear hb)
    | (go_at_call 24; with_reducible refine (cut20 m _).mono ?_; rintro e w1' ⟨rfl, rfl⟩)
    | (go_at_call 47; with_reducible refine (reason_any code _ (HE.out.below hB.out)).mono ?_; rintro e w2 ⟨rfl, hb⟩; replace hB := Lib.hid (hB.out.trans (hb.mono hB.out.size)); clear hb)
    | (go_at_call 48; with_reducible refine (refReason_any code _).mono ?_; rintro e w2' ⟨rfl, rfl⟩)
    | (go_at_call 49; with_reducible refine (bodied_any _ code _).mono ?_; rintro e w2' ⟨rfl, rfl⟩)
    | (go_at_call 50; with_reducible refine (refBodied_any _ code _).mono ?_; rintro e w2' ⟨rfl, rfl⟩))
  go_ret
  exact ⟨rfl, hB.out⟩
end Go.Proofs.YtkbjklnkeammiaaDoor.Oct
