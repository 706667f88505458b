import Derived.Test.YtkbjklnkeammiaaDoorOctU
import Derived.Maps.AppendAt
import Derived.OwnWalk
namespace Go.Proofs.YtkbjklnkeammiaaDoor.Oct
open Go.RowKit
set_option linter.unusedVariables false

theorem info5 : (Tryd.prog.info? 5).map (fun i => (i.zero, i.size, i.bytes)) = some (some (.int .u8 0), 1, 1) := by kernel_rfl
def u8V (b : UInt8) : Value := .int .u8 (b.toNat : Int)

theorem grow_low {B : Nat} {a W w' : World} {ob : Option Nat} (h : Below B a W) (hs : B ≤ W.heap.size) (hg : W.grownBy w' ob) (hob : ∀ b, ob = some b → B ≤ b) : Below B a w' :=
  ⟨hg.os.trans h.os, hg.tape.trans h.tape, hg.output.trans h.output, Nat.le_trans h.size hg.size, fun k hk => (hg.block k (by omega) (fun e => by have := hob k e.symm; omega)).trans (h.block k hk)⟩
theorem lowerB_up (b : UInt8) (h1 : (65 : Int) ≤ (b.toNat : Int)) (h2 : (b.toNat : Int) ≤ 90) : ((lowerB b).toNat : Int) = (b.toNat : Int) + 32 := by
  unfold lowerB
  rw [if_pos ⟨by rw [UInt8.le_iff_toNat_le]; show 65 ≤ b.toNat; omega, by rw [UInt8.le_iff_toNat_le]; show b.toNat ≤ 90; omega⟩, UInt8.toNat_add]
  show (((b.toNat + 32) % 256 : Nat) : Int) = _
  omega
theorem lowerB_id (b : UInt8) (h : ¬ (65 : Int) ≤ (b.toNat : Int) ∨ ¬ (b.toNat : Int) ≤ 90) : ((lowerB b).toNat : Int) = (b.toNat : Int) := by
  unfold lowerB
  rw [if_neg]
  rintro ⟨h1, h2⟩
  rw [UInt8.le_iff_toNat_le] at h1 h2
  have h1 : 65 ≤ b.toNat := h1
  have h2 : b.toNat ≤ 90 := h2
  omega

set_option maxRecDepth 100000 in
set_option maxHeartbeats 1000000 in
theorem refLower_any (s : ByteArray) (hs : s.size ≤ 1099511627776) (w : World) :
    Calls Tryd.prog 32 #[.string s] w fun e w' => e = .returned (.string (lowerS s)) ∧ Below w.heap.size w w' := by
  obtain ⟨i0, hi, hz0, hz1, hz2⟩ := info_parts info5
  go_enter Tryd.func32, Tryd.ntmps32
  go_wp2_with fail
  have hb0 : Below w.heap.size w (w.alloc (.cells #[] 5)) := (Below.refl _ _).alloc (Nat.le_refl _) _
  have ho0 : (w.alloc (.cells #[] 5)).ownsRow w.heap.size 5 1 (.slice (some ⟨w.heap.size, 0, none⟩) 0 0) 0 [] := ⟨rfl, .inr ⟨w.heap.size, 0, #[], rfl, Nat.le_refl _, blk_new _ _, Nat.le_refl _, by decide, rfl, rfl⟩⟩
  have hz : w.heap.size + 1 ≤ (w.alloc (.cells #[] 5)).heap.size := by simp
  generalize w.alloc (.cells #[] 5) = W0 at *
  generalize hg : w.heap.size = g at *
  go_loopw [3, 4] (fun v i wr => ∃ (k : Nat) (v0 : Value), v0 = v ∧ k ≤ s.size ∧ i = .int .i64 k ∧ wr.ownsRow g 5 1 v k ((lowerL (s.data.toList.take k)).map u8V) ∧ Below g w wr) (fun _ i _ => s.size - (intOf i).toNat)
  case atStart => exact ⟨0, _, rfl, Nat.zero_le _, rfl, ho0, hb0⟩
  case round =>
    obtain ⟨k, v, rfl, hk, rfl, hown, hb⟩ := hrel
    by_cases hlt : k < s.size
    · have hx : (s[k].toNat : Int) < 256 := by have := s[k].toNat_lt; omega
      have hnx := Lib.hid (show (lowerL (s.data.toList.take (k + 1))).map u8V = (lowerL (s.data.toList.take k)).map u8V ++ [.int .u8 ((lowerB s[k]).toNat : Int)] by rw [take_snoc s k hlt]; simp [lowerL, u8V])
      have hgw : g ≤ wr.heap.size := by have := hb.size; omega
      by_cases c1 : (65 : Int) ≤ (s[k].toNat : Int)
      · by_cases c2 : (s[k].toNat : Int) ≤ 90
        · go_wp2_with (at_builtin; refine wpList_append_own _ rfl _ _ 91 rfl g 5 i0 (.int .u8 0) 1 1 Tryd.underlying91 hi hz0 hz1 hz2 rfl (by decide) _ _ _ rfl (hown.alloc _) ⟨_, 0, none⟩ 1 1 [.int .u8 ((s[k].toNat : Int) + 32)] rfl rfl (cell_one_new _ _ _) (by simp [Value.oneCell']) (by unfold maxLen; omega) (by omega) (by have := hb.size; simp; omega) ?_; intro v' w1 hown' hgrow _)
          go_roundw
          case rel => exact ⟨k + 1, _, rfl, by omega, by go_num, by rw [hnx.out, lowerB_up _ c1 c2]; exact hown', grow_low (hb.alloc hgw _) (by simp; omega) hgrow (fun b e => (hown.lt b e).1)⟩
          case measure => simp [intOf]; omega
        · go_wp2_with (at_builtin; refine wpList_append_own _ rfl _ _ 91 rfl g 5 i0 (.int .u8 0) 1 1 Tryd.underlying91 hi hz0 hz1 hz2 rfl (by decide) _ _ _ rfl (hown.alloc _) ⟨_, 0, none⟩ 1 1 [.int .u8 (s[k].toNat : Int)] rfl rfl (cell_one_new _ _ _) (by simp [Value.oneCell']) (by unfold maxLen; omega) (by omega) (by have := hb.size; simp; omega) ?_; intro v' w1 hown' hgrow _)
          go_roundw
          case rel => exact ⟨k + 1, _, rfl, by omega, by go_num, by rw [hnx.out, lowerB_id _ (.inr c2)]; exact hown', grow_low (hb.alloc hgw _) (by simp; omega) hgrow (fun b e => (hown.lt b e).1)⟩
          case measure => simp [intOf]; omega
      · go_wp2_with (at_builtin; refine wpList_append_own _ rfl _ _ 91 rfl g 5 i0 (.int .u8 0) 1 1 Tryd.underlying91 hi hz0 hz1 hz2 rfl (by decide) _ _ _ rfl (hown.alloc _) ⟨_, 0, none⟩ 1 1 [.int .u8 (s[k].toNat : Int)] rfl rfl (cell_one_new _ _ _) (by simp [Value.oneCell']) (by unfold maxLen; omega) (by omega) (by have := hb.size; simp; omega) ?_; intro v' w1 hown' hgrow _)
        go_roundw
        case rel => exact ⟨k + 1, _, rfl, by omega, by go_num, by rw [hnx.out, lowerB_id _ (.inl c1)]; exact hown', grow_low (hb.alloc hgw _) (by simp; omega) hgrow (fun b e => (hown.lt b e).1)⟩
        case measure => simp [intOf]; omega
    · have hke : k = s.size := by omega
      subst hke
      have ht : s.data.toList.take s.size = s.data.toList := List.take_of_length_le (by simp)
      rw [ht] at hown
      have hown0 := hown
      rcases hown.2 with ⟨rfl, h1⟩ | ⟨g', cap, cur, rfl, h3, h4, h5⟩
      · have h0 : s.data.toList = [] := by
          exact List.eq_nil_of_length_eq_zero (by simpa using h1)
        have HL := Lib.hid (show lowerS s = ⟨#[]⟩ by unfold lowerS; rw [h0]; rfl)
        clear h0 h1 ht
        have hback : ∀ W : World, (convert 91 9 (.slice none 0 0)).run Tryd.prog W = .ok (.string ⟨#[]⟩) W := fun W => by
          rw [run_convert_bytes_string W 91 9 5 none 0 0 Tryd.underlying91 Tryd.underlying5 Tryd.underlying9]; rfl
        go_wp2_with fail
        go_ret
        exact ⟨ret_str HL.out.symm, by rw [hg]; exact hb⟩
      · have hcells := hown0.cells (g := g') rfl
        have hback := run_convert_bytes_back (P := Tryd.prog) _ 91 9 5 ⟨g', 0, none⟩ cap (lowerL s.data.toList) Tryd.underlying91 Tryd.underlying5 Tryd.underlying9 (fun j hj => hcells j _ (by simp [u8V, hj]))
        have hll : (lowerL s.data.toList).length = s.size := by simp [lowerL]
        rw [hll] at hback
        clear h3 h4 h5 hown0 hown ht
        go_wp2_with fail
        go_ret
        exact ⟨rfl, by rw [hg]; exact hb⟩
end Go.Proofs.YtkbjklnkeammiaaDoor.Oct
