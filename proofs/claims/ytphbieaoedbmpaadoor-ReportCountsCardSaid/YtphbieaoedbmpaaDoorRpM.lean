/- awake. -/
import Derived.Test.YtphbieaoedbmpaaDoorRpH
import Derived.Test.YtphbieaoedbmpaaDoorRpL
namespace Go.Proofs.YtphbieaoedbmpaaDoor.Rp
open Go.RowKit Go.Maps Go.Sort Go.Shelf Go.Proofs.YtphbieaoedbmpaaDoor.Oct
set_option linter.unusedVariables false
def aw : Nt := ⟨3, 10, 1, [97], []⟩
theorem aw_line : lineL aw = [51, 32, 99, 104, 111, 115, 101, 32, 49, 32, 97, 32, 48] := by decide +kernel
theorem aw_word : ((mk (wordK 1)).toList == [114, 101, 112, 108, 121]) = true := by decide +kernel
theorem aw_e (w : World) (T : TypeId) : ∀ (k : Nat) (u : Value), (ntE aw)[k]? = some u → (w.alloc (.cells #[.int .i64 10, .int .i64 1, .string ⟨#[97]⟩, .string ⟨#[]⟩] T)).cell? ⟨w.heap.size, 0 + k, none⟩ = some u := fun k u hu => by
  rw [Nat.zero_add]
  exact (cell_of_row _ _ k _ _ _ (heap_alloc_new w _)).trans (by simpa [ntE, aw, mk] using hu)
theorem aw_low {a b rb kb cb : Nat} (hab : a ≤ b) (l1 : a ≤ rb) (l2 : a ≤ kb) (l3 : a ≤ cb) : ∀ q, ft rb kb cb (.slice none 0 0) q → a ≤ q := fun q hq => by
  rcases hq with e | e | e | e
  · omega
  · omega
  · omega
  · cases e
set_option maxRecDepth 100000 in
set_option maxHeartbeats 2000000 in
theorem awake_any (w : World) (he : WEnv w) :
    Calls Tryd.prog 4 #[] w fun e w' => e = .returned (.bool true) ∧ Below w.heap.size w w' := by
  have hEB := Lib.hid (fun (W' : World) (hb : Below w.heap.size w W') => he.below hb)
  have ho := one_one
  have hw := aw_word
  clear he
  go_enter Tryd.func4, Tryd.ntmps4
  go_wp2_with (first
    | (go_at_call 19; (with_reducible refine (new_any _).mono ?_); rintro e w1 ⟨rb, kb, cb, rfl, l1, l2, l3, hM, hb1⟩)
    | (go_at_call 20; refine (note_any (RMX.below hM ((Below.refl _ _).alloc (Nat.le_refl _) _)) aw w1.heap.size 0 1 (aw_e w1 _) (by simp) (by simp) (by simp) (by simp [aw]) (by simp) (by simp [aw]) rfl).mono ?_; rintro e w2 ⟨rfl, nv', DK', DC', hM2, hov, hC2⟩; have bel2 : Below w.heap.size w w2 := Below.chg (hb1.alloc hb1.size _) hC2 (by have := hb1.size; simp; omega) (aw_low hb1.size l1 l2 l3); have hE2 := hEB.out _ bel2)
    | (go_at_call 17; refine (lines_any hM2 hE2 (by simp) (by simp [Ok, aw])).mono ?_; rintro e w3 ⟨lv, rfl, hL, hb3⟩; have bel3 := bel2.trans (hb3.mono bel2.size))
    | (go_at_call 14; refine (same_any [lineL aw] [[51, 32, 99, 104, 111, 115, 101, 32, 49, 32, 97, 32, 48]] _ _ _ (strs_below (own_strs hL) ((Below.refl _ _).alloc (Nat.le_refl _) _)) (row_strs (names := [[51, 32, 99, 104, 111, 115, 101, 32, 49, 32, 97, 32, 48]]) (World.ownsRow_lit w3 #[_] 1 (Nat.le_refl _) (by unfold maxLen; omega) rfl)) (by simp)).mono ?_; rw [aw_line]; rintro e w4 ⟨rfl, hb4⟩; have bel4 := (bel3.alloc bel3.size _).trans (hb4.mono (by have := bel3.size; simp; omega)); have hM4 := RMX.below (RMX.below (RMX.below hM2 hb3) ((Below.refl _ _).alloc (Nat.le_refl _) _)) hb4)
    | (go_at_call 21; refine (share_one hM4 [97] (by simp) rfl rfl).mono ?_; rintro e w5 ⟨rfl, hb5⟩; have bel5 := bel4.trans (hb5.mono bel4.size))
    | (go_at_call 12; refine (word_any 1 _ (hEB.out _ bel5)).mono ?_; rintro e w6 ⟨rfl, rfl⟩))
  go_ret
  exact ⟨rfl, bel5⟩
end Go.Proofs.YtphbieaoedbmpaaDoor.Rp
