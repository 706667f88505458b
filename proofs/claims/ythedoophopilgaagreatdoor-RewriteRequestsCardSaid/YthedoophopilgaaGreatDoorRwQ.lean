/- The document's Set and add. -/
import Derived.Test.YthedoophopilgaaGreatDoorRwN
namespace Go.Proofs.YthedoophopilgaaGreatDoor.Rw
open Go.RowKit Go.Proofs.YthedoophopilgaaGreatDoor.Oct
set_option linter.unusedVariables false
set_option maxRecDepth 100000 in
set_option maxHeartbeats 4000000 in
theorem refAdd_any (xs : List Fld) (nm val : ByteArray) (v : Value) (w : World) (hF : FldsB w v xs) (hp : 0 < xs.length) (hM : xs.length ≤ 100000) :
    Calls Tryz.prog 22 #[v, .string nm, .string val] w fun e w' => ∃ u, e = .returned u ∧ OwnF 64 w' w.heap.size u (xs ++ [(nm, val)]) ∧ Below w.heap.size w w' := by
  obtain ⟨i0, hi, hz0, hz1, hz2⟩ := info_parts infoR
  have hL := Lib.hid (show (xs ++ [(nm, val)]).flatMap fldV = xs.flatMap fldV ++ [.string nm, .string val] by rw [List.flatMap_append]; rfl)
  have hB := (Below.refl _ w).alloc (Nat.le_refl _) (.cells #[] 64)
  have ho0 : (w.alloc (.cells #[] 64)).ownsRow w.heap.size 64 2 (.slice (some ⟨w.heap.size, 0, none⟩) 0 0) 0 [] := World.ownsRow_lit w #[] 0 (Nat.le_refl _) (by unfold maxLen; omega) rfl
  unfold OwnF
  rcases hF with ⟨rfl, rfl⟩ | ⟨b, o, c, rfl, hc, hlt, hx⟩
  · simp at hp
  · have hcs := flat_cells (w := w.alloc (.cells #[] 64)) (fun j x hj => ⟨(hB.cell (p := ⟨b, o + j * 2, none⟩) hlt).trans (hx j x hj).1, (hB.cell (p := ⟨b, o + j * 2 + 1, none⟩) hlt).trans (hx j x hj).2⟩)
    have hl : (xs.flatMap fldV).length = xs.length * 2 := flat_len xs
    have h1 := flat_one xs
    clear hx
    have hcs' := Lib.hid hcs
    have h1' := Lib.hid h1
    have hl' := Lib.hid hl
    clear hcs h1 hl
    go_enter Tryz.func22, Tryz.ntmps22
    go_wp2_with (first
      | (at_builtin; refine wpList_append_own _ rfl (.tmp 7) (.tmp 8) 22 rfl w.heap.size 64 i0 _ 2 32 Tryz.underlying22 hi hz0 hz1 hz2 rfl (by decide) _ _ _ rfl ho0 ⟨b, o, none⟩ xs.length c (xs.flatMap fldV) rfl hl'.out hcs'.out h1'.out (by unfold maxLen; omega) (by omega) (by simp) ?_; intro v' w4 hown' hgrow _; rw [Nat.zero_add, List.nil_append] at hown')
      | (at_builtin; refine wpList_append_own _ rfl (.tmp 9) (.tmp 13) 22 rfl w.heap.size 64 i0 _ 2 32 Tryz.underlying22 hi hz0 hz1 hz2 rfl (by decide) _ _ _ rfl (hown'.alloc _) ⟨_, 0, none⟩ 1 1 [.string nm, .string val] rfl rfl (World.news_of_block (heap_alloc_new w4 _)) (by simp [Value.oneCell']) (by unfold maxLen; omega) (by omega) (by have := hgrow.size; simp at this ⊢; omega) ?_; intro v2 w5 hown2 hgrow2 _))
    go_ret
    refine ⟨_, rfl, ?_, ?_⟩
    · rw [hL.out, List.length_append]
      exact hown2
    · exact grow_low ((grow_low hB (by simp) hgrow (fun b e => (ho0.lt b e).1)).alloc (by have := hgrow.size; simp at this; omega) _) (by have := hgrow.size; simp at this ⊢; omega) hgrow2 (fun b e => (hown'.lt b e).1)
theorem setGo_snoc (nm val : ByteArray) (f : Fld) : ∀ (l : List Fld) (d : Bool), setGo nm val d (l ++ [f]) = setGo nm val d l ++ (if isF f nm = true then (if (d || l.any (fun f => isF f nm)) = true then [] else [(nm, val)]) else [f])
  | [], d => by
    cases h : isF f nm <;> cases d <;> simp [setGo, h]
  | g :: l, d => by
    rw [List.cons_append, List.any_cons]
    simp only [setGo]
    cases h : isF g nm with
    | true =>
      cases d with
      | true => rw [if_pos rfl, if_pos rfl, if_pos rfl, if_pos rfl, setGo_snoc nm val f l]; simp
      | false => rw [if_pos rfl, if_neg (by simp), if_pos rfl, if_neg (by simp), setGo_snoc nm val f l]; simp
    | false =>
      rw [if_neg (by simp), if_neg (by simp), setGo_snoc nm val f l, Bool.false_or, List.cons_append]
theorem setGo_len (nm val : ByteArray) : ∀ (l : List Fld) (d : Bool), (setGo nm val d l).length ≤ l.length
  | [], _ => by simp [setGo]
  | g :: l, d => by
    unfold setGo
    have h1 := setGo_len nm val l d
    have h2 := setGo_len nm val l true
    split
    · split
      · simp; omega
      · simp; omega
    · simp; omega
theorem any_snoc (p : Fld → Bool) (xs : List Fld) (k : Nat) (h : k < xs.length) : (xs.take (k + 1)).any p = ((xs.take k).any p || p xs[k]) := by
  rw [List.take_succ_eq_append_getElem h, List.any_append]; simp
set_option maxRecDepth 100000 in
set_option maxHeartbeats 8000000 in
theorem refSet_any (xs : List Fld) (nm val : ByteArray) (hn : nm.size ≤ 1099511627776) (v : Value) (w : World) (hv : Flds w v xs) (hN : xs.length ≤ 100000) (hS : ∀ x ∈ xs, x.1.size ≤ 1099511627776) :
    Calls Tryz.prog 21 #[v, .string nm, .string val] w fun e w' => ∃ u, e = .returned u ∧ OwnF 64 w' w.heap.size u (setR xs nm val) ∧ Below w.heap.size w w' := by
  obtain ⟨i0, hi, hz0, hz1, hz2⟩ := info_parts infoR
  obtain ⟨A, c, rfl, hc, hr⟩ := hv
  have hb0 : Below w.heap.size w (w.alloc (.cells #[] 64)) := (Below.refl _ _).alloc (Nat.le_refl _) _
  have ho0 : (w.alloc (.cells #[] 64)).ownsRow w.heap.size 64 2 (.slice (some ⟨w.heap.size, 0, none⟩) 0 0) 0 [] := World.ownsRow_lit w #[] 0 (Nat.le_refl _) (by unfold maxLen; omega) rfl
  have hR := Lib.hid (show setR xs nm val = setGo nm val false xs ++ (if xs.any (fun f => isF f nm) = true then [] else [(nm, val)]) from rfl)
  generalize setR xs nm val = R at *
  unfold OwnF
  go_enter Tryz.func21, Tryz.ntmps21
  go_wp2
  generalize w.alloc (.cells #[] 64) = W0 at *
  generalize hg : w.heap.size = g at *
  go_loopw [7, 8, 14] (fun u dv i wr => ∃ (k : Nat) (u0 : Value) (d : Bool) (L : List Fld), u0 = u ∧ k ≤ xs.length ∧ i = .int .i64 k ∧ dv = .bool d ∧ Hid (d = (xs.take k).any (fun f => isF f nm)) ∧ Hid (L = setGo nm val false (xs.take k)) ∧ L.length ≤ k ∧ wr.ownsRow g 64 2 u L.length (L.flatMap fldV) ∧ Below g w wr) (fun _ _ i _ => xs.length - (intOf i).toNat)
  case atStart => exact ⟨0, _, false, [], rfl, Nat.zero_le _, rfl, rfl, Lib.hid rfl, Lib.hid rfl, Nat.le_refl _, ho0, hb0⟩
  case round =>
    obtain ⟨k, u, d, L, rfl, hk, rfl, rfl, hd, hL, hLl, hown, hb⟩ := hrel
    have hgw : g ≤ wr.heap.size := by have := hb.size; omega
    by_cases c1 : k < xs.length
    · obtain ⟨b, o, rfl, hlt, hx⟩ := hr (by omega)
      have hx0 := hx k xs[k] (by simp [c1])
      have hc0 := (hb.cell (p := ⟨b, o + k * 2, none⟩) (by omega)).trans hx0.1
      have hc1 := (hb.cell (p := ⟨b, o + k * 2 + 1, none⟩) (by omega)).trans hx0.2
      have hnx := Lib.hid (setGo_snoc nm val xs[k] (xs.take k) false)
      have hnd := Lib.hid (any_snoc (fun f => isF f nm) xs k c1)
      have htk := Lib.hid (List.take_succ_eq_append_getElem c1)
      have dI := fun W => refIs_any xs[k] nm (hS _ (by simp)) hn W
      generalize xs[k] = x at *
      have hN2 := new_two wr (.string x.1) (.string x.2) 64
      clear hx0 hx
      cases hI : isF x nm with
      | false =>
        rw [hI] at dI
        have hd2 : Hid (d = (xs.take (k + 1)).any (fun f => isF f nm)) := by
          show d = _
          rw [hnd.out, ← hd.out, hI, Bool.or_false]
        have hL2 : Hid (L ++ [x] = setGo nm val false (xs.take (k + 1))) := by
          show _ = _
          rw [htk.out, hnx.out, ← hL.out, hI]; rfl
        clear hI
        go_wp2_with (first
          | (go_at_call 37; (with_reducible refine (dI _).mono ?_); rintro e w3 ⟨rfl, hb3⟩; have hq0 := (hb3.cell (p := ⟨wr.heap.size, 0, none⟩) (by simp)).trans hN2.1; have hq1 := (hb3.cell (p := ⟨wr.heap.size, 1, none⟩) (by simp)).trans hN2.2; replace hb3 := Lib.hid hb3)
          | (at_builtin; refine wpList_append_own _ rfl _ _ 22 rfl g 64 i0 _ 2 32 Tryz.underlying22 hi hz0 hz1 hz2 rfl (by decide) _ _ _ rfl (((hown.alloc _).kept (grown_below hb3.out) (own_none _)).alloc _) ⟨_, 0, none⟩ 1 1 [.string x.1, .string x.2] rfl rfl (World.news_of_block (heap_alloc_new w3 _)) (by simp [Value.oneCell']) (by unfold maxLen; omega) (by omega) (by have := hb3.out.size; simp at this ⊢; omega) ?_; intro v' w4 hown' hgrow _))
        have hz3 : wr.heap.size + 1 ≤ w3.heap.size := by have := hb3.out.size; simpa using this
        go_roundw
        case rel =>
          refine ⟨k + 1, _, d, L ++ [x], rfl, by omega, by go_num, rfl, hd2, hL2, by simp; omega, ?_, ?_⟩
          · rw [List.length_append, List.flatMap_append]
            simpa [fldV] using hown'
          · exact grow_low ((((hb.alloc hgw _).trans (hb3.out.mono (by simp; omega)))).alloc (by omega) _) (by simp; omega) hgrow (fun b e => (hown.lt b e).1)
        case measure => simp [intOf]; omega
      | true =>
        rw [hI] at dI
        have hd2 : Hid (true = (xs.take (k + 1)).any (fun f => isF f nm)) := by
          show true = _
          rw [hnd.out, hI, Bool.or_true]
        cases d with
        | true =>
          have hL2 : Hid (L = setGo nm val false (xs.take (k + 1))) := by
            show _ = _
            rw [htk.out, hnx.out, ← hL.out, hI, ← hd.out]; simp
          clear hI
          go_wp2_with (go_at_call 37; (with_reducible refine (dI _).mono ?_); rintro e w3 ⟨rfl, hb3⟩; replace hb3 := Lib.hid hb3)
          go_roundw
          case rel => exact ⟨k + 1, _, true, L, rfl, by omega, by go_num, rfl, hd2, hL2, by omega, (hown.alloc _).kept (grown_below hb3.out) (own_none _), (hb.alloc hgw _).trans (hb3.out.mono (by simp; omega))⟩
          case measure => simp [intOf]; omega
        | false =>
          have hL2 : Hid (L ++ [(nm, val)] = setGo nm val false (xs.take (k + 1))) := by
            show _ = _
            rw [htk.out, hnx.out, ← hL.out, hI, ← hd.out]; rfl
          clear hI
          go_wp2_with (first
            | (go_at_call 37; (with_reducible refine (dI _).mono ?_); rintro e w3 ⟨rfl, hb3⟩; replace hb3 := Lib.hid hb3)
            | (at_builtin; refine wpList_append_own _ rfl _ _ 22 rfl g 64 i0 _ 2 32 Tryz.underlying22 hi hz0 hz1 hz2 rfl (by decide) _ _ _ rfl (((hown.alloc _).kept (grown_below hb3.out) (own_none _)).alloc _) ⟨_, 0, none⟩ 1 1 [.string nm, .string val] rfl rfl (World.news_of_block (heap_alloc_new w3 _)) (by simp [Value.oneCell']) (by unfold maxLen; omega) (by omega) (by have := hb3.out.size; simp at this ⊢; omega) ?_; intro v' w4 hown' hgrow _))
          have hz3 : wr.heap.size + 1 ≤ w3.heap.size := by have := hb3.out.size; simpa using this
          go_roundw
          case rel =>
            refine ⟨k + 1, _, true, L ++ [(nm, val)], rfl, by omega, by go_num, rfl, hd2, hL2, by simp; omega, ?_, ?_⟩
            · rw [List.length_append, List.flatMap_append]
              simpa [fldV] using hown'
            · exact grow_low ((((hb.alloc hgw _).trans (hb3.out.mono (by simp; omega)))).alloc (by omega) _) (by simp; omega) hgrow (fun b e => (hown.lt b e).1)
          case measure => simp [intOf]; omega
    · have hkl : xs.take k = xs := List.take_of_length_le (by omega)
      cases d with
      | true =>
        have hY : Hid (R = L) := by
          show R = L
          have h1 := hd.out
          have h2 := hL.out
          rw [hkl] at h1 h2
          rw [hR.out, ← h1, ← h2]; simp
        clear hkl
        go_wp2
        go_ret
        refine ⟨u, rfl, ?_, ?_⟩ <;> (try rw [hg])
        · rw [hY.out]; exact hown
        · exact hb
      | false =>
        have hY : Hid (R = L ++ [(nm, val)]) := by
          show R = _
          have h1 := hd.out
          have h2 := hL.out
          rw [hkl] at h1 h2
          rw [hR.out, ← h1, ← h2]; rfl
        clear hkl
        go_wp2_with (at_builtin; refine wpList_append_own _ rfl _ _ 22 rfl g 64 i0 _ 2 32 Tryz.underlying22 hi hz0 hz1 hz2 rfl (by decide) _ _ _ rfl (hown.alloc _) ⟨_, 0, none⟩ 1 1 [.string nm, .string val] rfl rfl (World.news_of_block (heap_alloc_new wr _)) (by simp [Value.oneCell']) (by unfold maxLen; omega) (by omega) (by simp; omega) ?_; intro v' w4 hown' hgrow _)
        go_ret
        refine ⟨_, rfl, ?_, ?_⟩ <;> (try rw [hg])
        · rw [hY.out, List.length_append, List.flatMap_append]
          simpa [fldV] using hown'
        · exact grow_low (hb.alloc hgw _) (by simp; omega) hgrow (fun b e => (hown.lt b e).1)
end Go.Proofs.YthedoophopilgaaGreatDoor.Rw
