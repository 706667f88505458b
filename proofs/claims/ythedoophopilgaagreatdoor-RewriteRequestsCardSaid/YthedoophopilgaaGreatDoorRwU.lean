/- slices.Concat at fields. -/
import Derived.Test.YthedoophopilgaaGreatDoorRwT
import Derived.Laws.AppendOwnNone
namespace Go.Proofs.YthedoophopilgaaGreatDoor.Rw
open Go.RowKit Go.Proofs.YthedoophopilgaaGreatDoor.Oct
set_option linter.unusedVariables false
theorem fldsB_slice {w : World} {v : Value} {xs : List Fld} (h : FldsB w v xs) : ∃ A c, v = .slice A xs.length c := by
  rcases h with ⟨rfl, rfl⟩ | ⟨b, o, c, rfl, _⟩
  · exact ⟨_, _, rfl⟩
  · exact ⟨_, _, rfl⟩
set_option maxRecDepth 100000 in
set_option maxHeartbeats 8000000 in
theorem concat_any (xs ys : List Fld) (v1 v2 : Value) (q : Nat) (w : World) (hq0 : w.cell? ⟨q, 0, none⟩ = some v1) (hq1 : w.cell? ⟨q, 1, none⟩ = some v2) (h1 : FldsB w v1 xs) (h2 : FldsB w v2 ys) (hp : 0 < xs.length + ys.length) (hA : xs.length ≤ 100000) (hB : ys.length ≤ 100000) :
    Calls Tryz.prog 48 #[.slice (some ⟨q, 0, none⟩) 2 2] w fun e w' => ∃ u, e = .returned u ∧ OwnF 41 w' w.heap.size u (xs ++ ys) ∧ Below w.heap.size w w' := by
  obtain ⟨i0, hi, hz0, hz1, hz2⟩ := info_parts infoF
  obtain ⟨A1, c1, rfl⟩ := fldsB_slice h1
  obtain ⟨A2, c2, rfl⟩ := fldsB_slice h2
  have hqlt : q < w.heap.size := World.block_lt_of_cell? w _ hq0
  obtain ⟨N, hN⟩ : ∃ N, N = xs.length + ys.length := ⟨_, rfl⟩
  have dG := fun W => grow_any N (by omega) (by omega) W
  have hNle : N ≤ 200000 := by omega
  have hNh := Lib.hid hN
  clear hN
  have hL := Lib.hid (show (xs ++ ys).length = xs.length + ys.length from List.length_append)
  have hFl := Lib.hid (show (xs ++ ys).flatMap fldV = xs.flatMap fldV ++ ys.flatMap fldV from List.flatMap_append)
  have hla := Lib.hid (flat_len xs)
  have hlb := Lib.hid (flat_len ys)
  have hoa := Lib.hid (flat_one xs)
  have hob := Lib.hid (flat_one ys)
  have h1' := Lib.hid h1
  have h2' := Lib.hid h2
  clear h1 h2
  unfold OwnF
  go_enter Tryz.func48, Tryz.ntmps48
  go_wp2
  go_loop [3, 11] (fun s i => ∃ k : Nat, k ≤ 2 ∧ i = .int .i64 k ∧ s = .int .i64 (if k = 0 then 0 else if k = 1 then (xs.length : Int) else (N : Int))) (fun _ i => 2 - (intOf i).toNat)
  case atStart => exact ⟨0, by omega, rfl, rfl⟩
  case round =>
    obtain ⟨k, hk, rfl, rfl⟩ := hrel
    rcases (show k = 0 ∨ k = 1 ∨ k = 2 by omega) with rfl | rfl | rfl
    · go_wp2
      go_round
      case rel => exact ⟨1, by omega, rfl, congrArg (Value.int .i64) (by simp)⟩
      case measure => simp [intOf]
    · go_wp2
      go_round
      case rel => exact ⟨2, by omega, rfl, congrArg (Value.int .i64) (by have := hNh.out; simp; omega)⟩
      case measure => simp [intOf]
    · go_wp2_with (go_at_call 58; (with_reducible refine (dG _).mono ?_); rintro e w1 ⟨u1, rfl, ho1, hb1⟩)
      generalize hg : w.heap.size = g at *
      have hq0' := (hb1.cell (p := ⟨q, 0, none⟩) hqlt).trans hq0
      have hq1' := (hb1.cell (p := ⟨q, 1, none⟩) hqlt).trans hq1
      go_loopw [6, 27] (fun u i wr => ∃ (k : Nat) (u0 : Value) (L : List Fld), u0 = u ∧ k ≤ 2 ∧ i = .int .i64 k ∧ Hid (L = if k = 0 then [] else if k = 1 then xs else xs ++ ys) ∧ L.length ≤ k * 100000 ∧ wr.ownsRow g 41 2 u L.length (L.flatMap fldV) ∧ Below g w wr) (fun _ i _ => 2 - (intOf i).toNat)
      case atStart => exact ⟨0, _, [], rfl, by omega, rfl, Lib.hid rfl, by simp, ho1, hb1⟩
      case round =>
        obtain ⟨k, u, L, rfl, hk, rfl, hLk, hLl, hown, hb⟩ := hrel
        have hgw : g ≤ wr.heap.size := by have := hb.size; omega
        rcases (show k = 0 ∨ k = 1 ∨ k = 2 by omega) with rfl | rfl | rfl
        · rcases h1'.out with ⟨hv, hx⟩ | ⟨b, o, c, hv, hc, hlt, hx⟩
          · have e1 := congrArg (fun v : Value => match v with | .slice a _ _ => a | _ => none) hv
            have e2 := congrArg (fun v : Value => match v with | .slice _ _ c => c | _ => 0) hv
            have e3 : xs.length = 0 := by rw [hx]; rfl
            simp only at e1 e2
            subst e1 e2
            have hx' := Lib.hid hx
            have e3' := Lib.hid e3
            clear hx hv
            have hq := (hb.cell (p := ⟨q, 0, none⟩) (by show q < g; omega)).trans hq0
            rw [e3] at hq
            clear e3
            go_wp2_with (at_builtin; refine wpList_append_own_none rfl _ _ 32 rfl g 41 i0 2 Tryz.underlying32 hi u _ _ rfl hown rfl ?_)
            go_roundw
            case rel => exact ⟨1, _, L, rfl, by omega, rfl, by rw [show L = _ from hLk.out, hx'.out]; exact Lib.hid (by simp), by omega, hown, hb⟩
            case measure => simp [intOf]
          · have e1 := congrArg (fun v : Value => match v with | .slice a _ _ => a | _ => none) hv
            have e2 := congrArg (fun v : Value => match v with | .slice _ _ c => c | _ => 0) hv
            simp only at e1 e2
            subst e1 e2
            clear hv
            have hq := (hb.cell (p := ⟨q, 0, none⟩) (by show q < g; omega)).trans hq0
            have hcs := Lib.hid (flat_cells (w := wr) (fun j x hj => ⟨(hb.cell (p := ⟨b, o + j * 2, none⟩) (by show b < g; omega)).trans (hx j x hj).1, (hb.cell (p := ⟨b, o + j * 2 + 1, none⟩) (by show b < g; omega)).trans (hx j x hj).2⟩))
            clear hx
            go_wp2_with (at_builtin; refine wpList_append_own _ rfl _ _ 32 rfl g 41 i0 _ 2 32 Tryz.underlying32 hi hz0 hz1 hz2 rfl (by decide) _ _ _ rfl hown ⟨b, o, none⟩ xs.length _ (xs.flatMap fldV) rfl hla.out hcs.out hoa.out (by unfold maxLen; omega) (by omega) (by omega) ?_; intro v' w4 hown' hgrow _)
            go_roundw
            case rel =>
              refine ⟨1, _, L ++ xs, rfl, by omega, rfl, ?_, by rw [List.length_append]; omega, ?_, grow_low hb (by omega) hgrow (fun b e => (hown.lt b e).1)⟩
              · exact Lib.hid (by rw [show L = _ from hLk.out]; rfl)
              · rw [List.length_append, List.flatMap_append]; exact hown'
            case measure => simp [intOf]
        · rcases h2'.out with ⟨hv, hx⟩ | ⟨b, o, c, hv, hc, hlt, hx⟩
          · have e1 := congrArg (fun v : Value => match v with | .slice a _ _ => a | _ => none) hv
            have e2 := congrArg (fun v : Value => match v with | .slice _ _ c => c | _ => 0) hv
            have e3 : ys.length = 0 := by rw [hx]; rfl
            simp only at e1 e2
            subst e1 e2
            have hx' := Lib.hid hx
            have e3' := Lib.hid e3
            clear hx hv
            have hq := (hb.cell (p := ⟨q, 1, none⟩) (by show q < g; omega)).trans hq1
            rw [e3] at hq
            clear e3
            go_wp2_with (at_builtin; refine wpList_append_own_none rfl _ _ 32 rfl g 41 i0 2 Tryz.underlying32 hi u _ _ rfl hown rfl ?_)
            go_roundw
            case rel => exact ⟨2, _, L, rfl, by omega, rfl, by rw [show L = _ from hLk.out, hx'.out]; exact Lib.hid (by simp), by omega, hown, hb⟩
            case measure => simp [intOf]
          · have e1 := congrArg (fun v : Value => match v with | .slice a _ _ => a | _ => none) hv
            have e2 := congrArg (fun v : Value => match v with | .slice _ _ c => c | _ => 0) hv
            simp only at e1 e2
            subst e1 e2
            clear hv
            have hq := (hb.cell (p := ⟨q, 1, none⟩) (by show q < g; omega)).trans hq1
            have hcs := Lib.hid (flat_cells (w := wr) (fun j x hj => ⟨(hb.cell (p := ⟨b, o + j * 2, none⟩) (by show b < g; omega)).trans (hx j x hj).1, (hb.cell (p := ⟨b, o + j * 2 + 1, none⟩) (by show b < g; omega)).trans (hx j x hj).2⟩))
            clear hx
            go_wp2_with (at_builtin; refine wpList_append_own _ rfl _ _ 32 rfl g 41 i0 _ 2 32 Tryz.underlying32 hi hz0 hz1 hz2 rfl (by decide) _ _ _ rfl hown ⟨b, o, none⟩ ys.length _ (ys.flatMap fldV) rfl hlb.out hcs.out hob.out (by unfold maxLen; omega) (by omega) (by omega) ?_; intro v' w4 hown' hgrow _)
            go_roundw
            case rel =>
              refine ⟨2, _, L ++ ys, rfl, by omega, rfl, ?_, by rw [List.length_append]; omega, ?_, grow_low hb (by omega) hgrow (fun b e => (hown.lt b e).1)⟩
              · exact Lib.hid (by rw [show L = _ from hLk.out]; rfl)
              · rw [List.length_append, List.flatMap_append]; exact hown'
            case measure => simp [intOf]
        · have hq2 : L = xs ++ ys := hLk.out
          have hq2' := Lib.hid hq2
          clear hq2
          go_wp2
          go_ret
          refine ⟨_, rfl, ?_, ?_⟩ <;> (try rw [hg])
          · rw [← hq2'.out]; exact hown
          · exact hb
end Go.Proofs.YthedoophopilgaaGreatDoor.Rw
