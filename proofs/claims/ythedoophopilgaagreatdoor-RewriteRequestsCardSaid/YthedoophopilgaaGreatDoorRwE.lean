/- The document's Hops; stewardlaw06.Is. -/
import Derived.Test.YthedoophopilgaaGreatDoorRwD
namespace Go.Proofs.YthedoophopilgaaGreatDoor.Rw
open Go.RowKit Go.Proofs.YthedoophopilgaaGreatDoor.Oct
set_option linter.unusedVariables false
theorem filt_snoc (p : Fld → Bool) (xs : List Fld) (k : Nat) (h : k < xs.length) : (xs.take (k + 1)).filter p = (xs.take k).filter p ++ (if p xs[k] = true then [xs[k]] else []) := by
  rw [List.take_succ_eq_append_getElem h, List.filter_append]
  congr 1
  by_cases c : p xs[k] = true
  · rw [if_pos c]; simp [c]
  · rw [if_neg c]; simp [c]
theorem filt_le (p : Fld → Bool) (xs : List Fld) : (xs.filter p).length ≤ xs.length := List.length_filter_le _ _
set_option maxRecDepth 100000 in
set_option maxHeartbeats 4000000 in
theorem refHops_any (xs : List Fld) (v : Value) (w : World) (hv : Flds w v xs) (hN : xs.length ≤ 100) (hS : ∀ x ∈ xs, x.1.size ≤ 1000 ∧ x.2.size ≤ 1000) :
    Calls Tryz.prog 19 #[v] w fun e w' => ∃ u, e = .returned u ∧ OwnF 64 w' w.heap.size u (hopsR xs) ∧ Below w.heap.size w w' := by
  obtain ⟨i0, hi, hz0, hz1, hz2⟩ := info_parts infoR
  have dT := refTokens_any xs connL (by decide) v w hv hN hS
  have hTb := (tok_bd xs connL 1000 (fun x hx => (hS x hx).2)).1
  have hTb' : (tokF xs connL).length ≤ 1000000 := by omega
  have hT := Lib.hid (show hopsR xs = xs.filter (fun f => !hopB f.1 (tokF xs connL)) from rfl)
  generalize tokF xs connL = ts at *
  unfold connL at dT
  clear hTb
  obtain ⟨A, c, rfl, hc, hr⟩ := hv
  unfold OwnF
  go_enter Tryz.func19, Tryz.ntmps19
  go_wp2_with (go_at_call 35; (with_reducible refine dT.mono ?_); rintro e w1 ⟨u1, rfl, ho1, hb1⟩)
  have hs1 := ho1.strs
  have hz1' := hb1.size
  have hb2 : Below w.heap.size w (w1.alloc (.cells #[] 64)) := hb1.alloc hz1' _
  have hs2 : Strs (w1.alloc (.cells #[] 64)) u1 ts := hs1.below ((Below.refl _ _).alloc (Nat.le_refl _) _)
  have ho2 : (w1.alloc (.cells #[] 64)).ownsRow w1.heap.size 64 2 (.slice (some ⟨w1.heap.size, 0, none⟩) 0 0) 0 [] := World.ownsRow_lit w1 #[] 0 (Nat.le_refl _) (by unfold maxLen; omega) rfl
  have hsp : ∀ b, u1.ownBlock = some b → b < w1.heap.size := fun b hb => (World.ownsRow.lt ho1 b hb).2
  have hzA : w1.heap.size ≤ (w1.alloc (.cells #[] 64)).heap.size := by simp
  generalize hWd : w1.alloc (.cells #[] 64) = W2 at *
  have hgb2 : Below w1.heap.size w1 W2 := by rw [← hWd]; exact (Below.refl _ _).alloc (Nat.le_refl _) _
  clear hWd dT ho1 hs2
  generalize hg1 : w1.heap.size = g1 at *
  generalize hg : w.heap.size = g at *
  have hb20 : Below g1 W2 W2 := Below.refl _ _
  have hs1' := Lib.hid hs1
  have hg1' := Lib.hid hg1
  have hgb2' := Lib.hid hgb2
  clear hs1 hg1 hgb2
  go_loopw [4, 12] (fun u i wr => ∃ (k : Nat) (u0 : Value), u0 = u ∧ k ≤ xs.length ∧ i = .int .i64 k ∧ wr.ownsRow g1 64 2 u ((xs.take k).filter (fun f => !hopB f.1 ts)).length (((xs.take k).filter (fun f => !hopB f.1 ts)).flatMap fldV) ∧ Below g1 W2 wr) (fun _ i _ => xs.length - (intOf i).toNat)
  case atStart => exact ⟨0, _, rfl, Nat.zero_le _, rfl, ho2, hb20⟩
  case round =>
    obtain ⟨k, u, rfl, hk, rfl, hown, hb⟩ := hrel
    have hgw : g1 ≤ wr.heap.size := by have := hb.size; omega
    by_cases c1 : k < xs.length
    · obtain ⟨b, o, rfl, hlt, hx⟩ := hr (by omega)
      have hx0 := hx k xs[k] (by simp [c1])
      have hc0 := (hb.cell (p := ⟨b, o + k * 2, none⟩) (by show b < g1; omega)).trans ((hb2.cell (p := ⟨b, o + k * 2, none⟩) (by show b < g; omega)).trans hx0.1)
      have hc1 := (hb.cell (p := ⟨b, o + k * 2 + 1, none⟩) (by show b < g1; omega)).trans ((hb2.cell (p := ⟨b, o + k * 2 + 1, none⟩) (by show b < g; omega)).trans hx0.2)
      have hfl : ((xs.take k).filter (fun f => !hopB f.1 ts)).length ≤ 100 := by have := filt_le (fun f => !hopB f.1 ts) (xs.take k); rw [List.length_take] at this; omega
      have hnx := Lib.hid (filt_snoc (fun f => !hopB f.1 ts) xs k c1)
      have hsr : Strs wr u1 ts := hs1'.out.below (by rw [hg1'.out]; exact hgb2'.out.trans hb)
      have dH := fun W hs => hop_any xs[k].1 (by have := (hS xs[k] (by simp)).1; omega) ts u1 W hs hTb'
      generalize xs[k] = x at *
      generalize (xs.take k).filter (fun f => !hopB f.1 ts) = ys at *
      have hsa : Strs (wr.alloc (.cells #[.string x.1, .string x.2] 64)) u1 ts := hsr.below ((Below.refl _ _).alloc (Nat.le_refl _) _)
      have hN2 := new_two wr (.string x.1) (.string x.2) 64
      clear hx0 hx hsr
      cases hI : hopB x.1 ts with
      | true =>
        rw [hI] at dH
        go_wp2_with (go_at_call 36; (with_reducible refine (dH _ hsa).mono ?_); rintro e w3 ⟨rfl, hb3⟩; replace hb3 := Lib.hid hb3)
        go_roundw
        case rel => exact ⟨k + 1, _, rfl, by omega, by go_num, by rw [hnx.out, hI]; simpa using (hown.alloc _).kept (grown_below hb3.out) (own_none _), (hb.alloc hgw _).trans (hb3.out.mono (by simp; omega))⟩
        case measure => simp [intOf]; omega
      | false =>
        rw [hI] at dH
        go_wp2_with (first
          | (go_at_call 36; (with_reducible refine (dH _ hsa).mono ?_); rintro e w3 ⟨rfl, hb3⟩; have hq0 := (hb3.cell (p := ⟨wr.heap.size, 0, none⟩) (by simp)).trans hN2.1; have hq1 := (hb3.cell (p := ⟨wr.heap.size, 1, none⟩) (by simp)).trans hN2.2; replace hb3 := Lib.hid hb3)
          | (at_builtin; refine wpList_append_own _ rfl _ _ 22 rfl g1 64 i0 _ 2 32 Tryz.underlying22 hi hz0 hz1 hz2 rfl (by decide) _ _ _ rfl (((hown.alloc _).kept (grown_below hb3.out) (own_none _)).alloc _) ⟨_, 0, none⟩ 1 1 [.string x.1, .string x.2] rfl rfl (World.news_of_block (heap_alloc_new w3 _)) (by simp [Value.oneCell']) (by unfold maxLen; omega) (by omega) (by have := hb3.out.size; simp at this ⊢; omega) ?_; intro v' w4 hown' hgrow _))
        have hz3 : wr.heap.size + 1 ≤ w3.heap.size := by have := hb3.out.size; simpa using this
        go_roundw
        case rel =>
          refine ⟨k + 1, _, rfl, by omega, by go_num, ?_, ?_⟩
          · rw [hnx.out, hI]
            simpa [fldV] using hown'
          · exact grow_low ((((hb.alloc hgw _).trans (hb3.out.mono (by simp; omega)))).alloc (by omega) _) (by simp; omega) hgrow (fun b e => (hown.lt b e).1)
        case measure => simp [intOf]; omega
    · have hk : k = xs.length := by omega
      subst hk
      go_wp2
      go_ret
      refine ⟨u, rfl, ?_, ?_⟩ <;> (try rw [hg])
      · rw [List.take_of_length_le (by omega)] at hown
        rw [hT.out]
        exact own_lower hown (by omega)
      · exact hb2.trans (hb.mono (by omega))
set_option maxRecDepth 100000 in
set_option maxHeartbeats 4000000 in
theorem isL_any (xs ys : List Fld) (va vb : Value) (w : World) (ha : Flds w va xs) (hb : Flds w vb ys) (hN : xs.length ≤ 140737488355328) :
    Calls Tryz.prog 14 #[va, vb] w fun e w' => e = .returned (.bool (decide (xs = ys))) ∧ Below w.heap.size w w' := by
  obtain ⟨A, ca, rfl, hca, hra⟩ := ha
  obtain ⟨B, cb, rfl, hcb, hrb⟩ := hb
  go_enter Tryz.func14, Tryz.ntmps14
  by_cases hl : xs.length = ys.length
  · have hl' : (xs.length : Int) = (ys.length : Int) := by omega
    have hL := Lib.hid hl
    clear hl
    go_wp2_with fail
    go_loopw [13] (fun i wr => ∃ k : Nat, k ≤ ys.length ∧ i = .int .i64 k ∧ Hid (xs.take k = ys.take k) ∧ Below w.heap.size w wr) (fun i _ => ys.length - (intOf i).toNat)
    case atStart => exact ⟨0, Nat.zero_le _, rfl, Lib.hid rfl, Below.refl _ _⟩
    case round =>
      obtain ⟨k, hk, rfl, hT, hbw⟩ := hrel
      by_cases c1 : k < ys.length
      · have c1' : k < xs.length := by rw [hL.out]; exact c1
        obtain ⟨ba, oa, rfl, hla, hxa⟩ := hra (by omega)
        obtain ⟨bb, ob, rfl, hlb, hxb⟩ := hrb (by omega)
        have ha0 := (hbw.cell (p := ⟨ba, oa + k * 2, none⟩) (by show ba < _; omega)).trans (hxa k xs[k] (by simp [c1'])).1
        have ha1 := (hbw.cell (p := ⟨ba, oa + k * 2 + 1, none⟩) (by show ba < _; omega)).trans (hxa k xs[k] (by simp [c1'])).2
        have hb0 := (hbw.cell (p := ⟨bb, ob + k * 2, none⟩) (by show bb < _; omega)).trans (hxb k ys[k] (by simp [c1])).1
        have hb1 := (hbw.cell (p := ⟨bb, ob + k * 2 + 1, none⟩) (by show bb < _; omega)).trans (hxb k ys[k] (by simp [c1])).2
        have h1 := str_eq xs[k].1 ys[k].1
        have h2 := str_eq xs[k].2 ys[k].2
        have hTk : Hid (xs[k] = ys[k] → xs.take (k + 1) = ys.take (k + 1)) := fun e => by rw [List.take_succ_eq_append_getElem c1', List.take_succ_eq_append_getElem c1, hT.out, e]
        have hNo : Hid (xs[k] ≠ ys[k] → decide (xs = ys) = false) := fun hne => decide_eq_false (fun e => hne (by subst e; rfl))
        have z1 : (k : Int) < (xs.length : Int) := by omega
        have z2 : (k : Int) < (ys.length : Int) := by omega
        have z0 : (0 : Int) ≤ (k : Int) := by omega
        generalize xs[k] = x at *
        generalize ys[k] = y at *
        obtain ⟨x1, x2⟩ := x
        obtain ⟨y1, y2⟩ := y
        simp only at ha0 ha1 hb0 hb1 h1 h2
        clear hxa hxb
        by_cases e1 : x1 = y1
        · rw [decide_eq_true e1] at h1
          by_cases e2 : x2 = y2
          · rw [decide_eq_true e2] at h2
            have hT2 := Lib.hid (hTk.out (by rw [e1, e2]))
            clear e1 e2
            go_wp2
            go_quiet (fail)
            go_wp2
            go_roundw
            case rel => exact ⟨k + 1, by omega, by go_num, hT2, below_drewN hbw _⟩
            case measure => simp [intOf]; omega
          · rw [decide_eq_false e2] at h2
            have hY := Lib.hid (hNo.out (fun e => e2 (by injection e)))
            clear e1 e2
            go_wp2
            go_quiet (fail)
            go_wp2
            go_ret
            exact ⟨ret_bool hY.out.symm, below_drewN hbw _⟩
        · rw [decide_eq_false e1] at h1
          have hY := Lib.hid (hNo.out (fun e => e1 (by injection e)))
          clear e1
          go_wp2
          go_quiet (fail)
          go_wp2
          go_ret
          exact ⟨ret_bool hY.out.symm, below_drewN hbw _⟩
      · have hY := Lib.hid (show decide (xs = ys) = true from decide_eq_true (by
          have h1 := hT.out
          rwa [List.take_of_length_le (by rw [hL.out]; omega), List.take_of_length_le (by omega)] at h1))
        go_wp2
        go_ret
        exact ⟨ret_bool hY.out.symm, hbw⟩
  · have hl' : ¬ (xs.length : Int) = (ys.length : Int) := by omega
    have hY := Lib.hid (show decide (xs = ys) = false from decide_eq_false (fun e => hl (by rw [e])))
    clear hl
    go_wp2_with fail
    go_ret
    exact ⟨ret_bool hY.out.symm, Below.refl _ _⟩
end Go.Proofs.YthedoophopilgaaGreatDoor.Rw
