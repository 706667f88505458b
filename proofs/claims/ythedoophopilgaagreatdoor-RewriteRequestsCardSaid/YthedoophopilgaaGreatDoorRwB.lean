/- fields.Field.is, fields.Fields.All; the document's Is and All. -/
import Derived.Test.YthedoophopilgaaGreatDoorRwA
namespace Go.Proofs.YthedoophopilgaaGreatDoor.Rw
open Go.RowKit Go.Proofs.YthedoophopilgaaGreatDoor.Oct
set_option linter.unusedVariables false
theorem new_two (w : World) (a b : Value) (T : TypeId) : (w.alloc (.cells #[a, b] T)).cell? ⟨w.heap.size, 0, none⟩ = some a ∧ (w.alloc (.cells #[a, b] T)).cell? ⟨w.heap.size, 1, none⟩ = some b :=
  ⟨(cell_of_row _ w.heap.size 0 #[a, b] T (0, 0) (heap_alloc_new w _)).trans rfl, (cell_of_row _ w.heap.size 1 #[a, b] T (0, 0) (heap_alloc_new w _)).trans rfl⟩
theorem foldD (a b : ByteArray) (ha : a.size ≤ maxLen) (hb : b.size ≤ maxLen) (w : World) :
    Calls Tryz.prog 57 #[.string a, .string b] w fun e w' => e = .returned (.bool (decide (lowerS a = lowerS b))) ∧ Below w.heap.size w w' :=
  (fold_any a b ha hb w).mono fun e w' ⟨h1, h2⟩ => ⟨by rw [h1, str_eq], h2⟩
set_option maxHeartbeats 1000000 in
theorem is_any (x : Fld) (n : ByteArray) (hx : x.1.size ≤ maxLen) (hn : n.size ≤ maxLen) (w : World) :
    Calls Tryz.prog 44 #[.agg #[.string x.1, .string x.2], .string n] w fun e w' => e = .returned (.bool (isF x n)) ∧ Below w.heap.size w w' := by
  have hB := (Below.refl _ w).alloc (Nat.le_refl _) (.cells #[.string x.1, .string x.2] 41)
  have hz : w.heap.size ≤ (w.alloc (.cells #[.string x.1, .string x.2] 41)).heap.size := by simp
  have hd := fun W => foldD x.1 n hx hn W
  have hI := Lib.hid (show isF x n = decide (lowerS x.1 = lowerS n) from rfl)
  generalize decide (lowerS x.1 = lowerS n) = r at *
  go_enter Tryz.func44, Tryz.ntmps44
  go_wp2_with (go_at_call 57; (with_reducible refine (hd _).mono ?_); rintro e w1 ⟨rfl, hb1⟩; replace hb1 := Lib.hid hb1)
  go_ret
  exact ⟨ret_bool hI.out.symm, hB.trans (hb1.out.mono hz)⟩
theorem all_snoc (xs : List Fld) (k : Nat) (h : k < xs.length) (n : ByteArray) : allF (xs.take (k + 1)) n = allF (xs.take k) n ++ (if isF xs[k] n = true then [xs[k].2] else []) := by
  unfold allF
  rw [List.take_succ_eq_append_getElem h, List.filter_append, List.map_append]
  congr 1
  by_cases c : isF xs[k] n = true
  · rw [if_pos c]; simp [c]
  · rw [if_neg c]; simp [c]
theorem all_le (xs : List Fld) (n : ByteArray) : (allF xs n).length ≤ xs.length := by
  unfold allF; rw [List.length_map]; exact List.length_filter_le _ _
set_option maxRecDepth 100000 in
set_option maxHeartbeats 4000000 in
theorem all_any (xs : List Fld) (n : ByteArray) (hn : n.size ≤ maxLen) (v : Value) (w : World) (hv : Flds w v xs) (hN : xs.length ≤ 1000000) (hS : ∀ x ∈ xs, x.1.size ≤ maxLen) :
    Calls Tryz.prog 32 #[v, .string n] w fun e w' => ∃ u, e = .returned u ∧ OwnStrs w' w.heap.size u (allF xs n) ∧ Below w.heap.size w w' := by
  obtain ⟨i0, hi, hz0, hz1, hz2⟩ := info_parts info9
  obtain ⟨A, c, rfl, hc, hr⟩ := hv
  have hb0 : Below w.heap.size w w := Below.refl _ _
  have ho0 : w.ownsRow w.heap.size 9 1 (.slice none 0 0) 0 [] := World.ownsRow_nil _ _ _ _
  unfold OwnStrs
  go_enter Tryz.func32, Tryz.ntmps32
  go_wp2
  generalize hg : w.heap.size = g at *
  go_loopw [5, 10] (fun u i wr => ∃ (k : Nat) (u0 : Value), u0 = u ∧ k ≤ xs.length ∧ i = .int .i64 k ∧ wr.ownsRow g 9 1 u (allF (xs.take k) n).length ((allF (xs.take k) n).map Value.string) ∧ Below g w wr) (fun _ i _ => xs.length - (intOf i).toNat)
  case atStart => exact ⟨0, _, rfl, Nat.zero_le _, rfl, ho0, hb0⟩
  case round =>
    obtain ⟨k, u, rfl, hk, rfl, hown, hb⟩ := hrel
    have hgw : g ≤ wr.heap.size := by have := hb.size; omega
    by_cases c1 : k < xs.length
    · obtain ⟨b, o, rfl, hlt, hx⟩ := hr (by omega)
      have hx0 := hx k xs[k] (by simp [c1])
      have hc0 := (hb.cell (p := ⟨b, o + k * 2, none⟩) (by omega)).trans hx0.1
      have hc1 := (hb.cell (p := ⟨b, o + k * 2 + 1, none⟩) (by omega)).trans hx0.2
      have hal : (allF (xs.take k) n).length ≤ 1000000 := by have := all_le (xs.take k) n; rw [List.length_take] at this; omega
      have hnx := Lib.hid (all_snoc xs k c1 n)
      have dI := fun W => is_any xs[k] n (hS _ (by simp)) hn W
      generalize xs[k] = x at *
      generalize allF (xs.take k) n = ys at *
      clear hx0 hx
      cases hI : isF x n with
      | false =>
        rw [hI] at dI
        go_wp2_with (go_at_call 44; (with_reducible refine (dI _).mono ?_); rintro e w1 ⟨rfl, hb1⟩; have hbb := Lib.hid hb1)
        go_roundw
        case rel => exact ⟨k + 1, _, rfl, by omega, by go_num, by rw [hnx.out, hI]; simpa using (hown.alloc _).kept (grown_below hbb.out) (own_none _), (hb.alloc hgw _).trans (hbb.out.mono (by simp; omega))⟩
        case measure => simp [intOf]; omega
      | true =>
        rw [hI] at dI
        go_wp2_with (first
          | (go_at_call 44; (with_reducible refine (dI _).mono ?_); rintro e w1 ⟨rfl, hb1⟩; have hbb := Lib.hid hb1; have hq1 := (hb1.cell (p := ⟨wr.heap.size, 1, none⟩) (by simp)).trans (new_two wr (.string x.1) (.string x.2) 41).2)
          | (at_builtin; refine wpList_append_own _ rfl _ _ 53 rfl g 9 i0 (.string ⟨#[]⟩) 1 16 Tryz.underlying53 hi hz0 hz1 hz2 rfl (by decide) _ _ _ rfl (((hown.alloc _).kept (grown_below hbb.out) (own_none _)).alloc _) ⟨_, 0, none⟩ 1 1 [.string x.2] rfl rfl (cell_one_new _ _ _) (by simp [Value.oneCell']) (by unfold maxLen; omega) (by omega) (by have := hbb.out.size; simp at this ⊢; omega) ?_; intro v' w2 hown' hgrow _))
        have hz1' : wr.heap.size + 1 ≤ w1.heap.size := by have := hbb.out.size; simpa using this
        go_roundw
        case rel =>
          refine ⟨k + 1, _, rfl, by omega, by go_num, ?_, ?_⟩
          · rw [hnx.out, hI]
            simpa using hown'
          · exact grow_low ((((hb.alloc hgw _).trans (hbb.out.mono (by simp; omega)))).alloc (by omega) _) (by simp; omega) hgrow (fun b e => (hown.lt b e).1)
        case measure => simp [intOf]; omega
    · have hk : k = xs.length := by omega
      subst hk
      go_wp2
      go_ret
      refine ⟨u, rfl, ?_, ?_⟩ <;> (try rw [hg])
      · rw [List.take_of_length_le (by omega)] at hown; exact hown
      · exact hb
end Go.Proofs.YthedoophopilgaaGreatDoor.Rw
