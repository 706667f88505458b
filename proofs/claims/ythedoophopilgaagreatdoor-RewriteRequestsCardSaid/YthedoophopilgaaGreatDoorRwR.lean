/- The document's Request. -/
import Derived.Test.YthedoophopilgaaGreatDoorRwQ
import Derived.Test.YthedoophopilgaaGreatDoorRwO2
namespace Go.Proofs.YthedoophopilgaaGreatDoor.Rw
open Go.RowKit Go.Proofs.YthedoophopilgaaGreatDoor.Oct
set_option linter.unusedVariables false
theorem who_snoc (vs : List ByteArray) (k : Nat) (h : k < vs.length) : whoL (vs.take (k + 1)) = whoL (vs.take k) ++ (vs[k] ++ ⟨#[44, 32]⟩) := by
  unfold whoL
  rw [List.take_succ_eq_append_getElem h, List.foldl_append]; rfl
theorem who_size : ∀ (vs : List ByteArray) (a : ByteArray), (∀ v ∈ vs, v.size ≤ 1000) → (vs.foldl (fun a v => a ++ (v ++ ⟨#[44, 32]⟩)) a).size ≤ a.size + vs.length * 1002
  | [], a, _ => by simp
  | v :: vs, a, h => by
    have h1 := who_size vs (a ++ (v ++ ⟨#[44, 32]⟩)) (fun x hx => h x (List.mem_cons_of_mem _ hx))
    have h2 := h v List.mem_cons_self
    have h3 : (a ++ (v ++ ⟨#[44, 32]⟩)).size = a.size + (v.size + 2) := by rw [ByteArray.size_append, ByteArray.size_append]; rfl
    rw [List.foldl_cons, List.length_cons]
    omega
theorem whoL_bd (vs : List ByteArray) (h : ∀ v ∈ vs, v.size ≤ 1000) : (whoL vs).size ≤ vs.length * 1002 := by
  have := who_size vs ⟨#[]⟩ h
  have h0 : (⟨#[]⟩ : ByteArray).size = 0 := rfl
  unfold whoL
  omega
theorem hopsR_mem {xs : List Fld} {x : Fld} (h : x ∈ hopsR xs) : x ∈ xs := (List.mem_filter.1 h).1
theorem hopsR_le (xs : List Fld) : (hopsR xs).length ≤ xs.length := List.length_filter_le _ _
theorem put5_own {W : World} {base q : Nat} {e : TypeId} {size n : Nat} {v : Value} {xs : List Value} (h : W.ownsRow base e size v n xs) (hq : q < base) (a b c d f : Value) : (((((W.setCell ⟨q, 0, none⟩ a).setCell ⟨q, 1, none⟩ b).setCell ⟨q, 2, none⟩ c).setCell ⟨q, 3, none⟩ d).setCell ⟨q, 4, none⟩ f).ownsRow base e size v n xs :=
  ownsRow_setCell_below (ownsRow_setCell_below (ownsRow_setCell_below (ownsRow_setCell_below (ownsRow_setCell_below h (a := ⟨q, 0, none⟩) hq a) (a := ⟨q, 1, none⟩) hq b) (a := ⟨q, 2, none⟩) hq c) (a := ⟨q, 3, none⟩) hq d) (a := ⟨q, 4, none⟩) hq f
theorem put5_below {A W : World} {g q : Nat} (h : Below g A W) (hq : g ≤ q) (a b c d f : Value) : Below g A (((((W.setCell ⟨q, 0, none⟩ a).setCell ⟨q, 1, none⟩ b).setCell ⟨q, 2, none⟩ c).setCell ⟨q, 3, none⟩ d).setCell ⟨q, 4, none⟩ f) :=
  ((((h.setCell (p := ⟨q, 0, none⟩) hq a).setCell (p := ⟨q, 1, none⟩) hq b).setCell (p := ⟨q, 2, none⟩) hq c).setCell (p := ⟨q, 3, none⟩) hq d).setCell (p := ⟨q, 4, none⟩) hq f
theorem put5_blk {W : World} {q : Nat} {T : TypeId} {x0 x1 x2 x3 x4 : Value} (h : Blk W q #[x0, x1, x2, x3, x4] T) (a b c d f : Value) : Blk (((((W.setCell ⟨q, 0, none⟩ a).setCell ⟨q, 1, none⟩ b).setCell ⟨q, 2, none⟩ c).setCell ⟨q, 3, none⟩ d).setCell ⟨q, 4, none⟩ f) q #[a, b, c, d, f] T :=
  ((((h.set (i := 0) a).set (i := 1) b).set (i := 2) c).set (i := 3) d).set (i := 4) f
theorem setR_pos (l : List Fld) (nm val : ByteArray) : 0 < (setR l nm val).length := by
  rw [set_eq]
  unfold setP
  split
  · simp; omega
  · simp
theorem setR_le (l : List Fld) (nm val : ByteArray) : (setR l nm val).length ≤ l.length + 1 := by
  rw [set_eq]; exact setP_low (nm' := nm) l val
set_option maxRecDepth 100000 in
set_option maxHeartbeats 8000000 in
theorem refReq_any (m t b cl : ByteArray) (k : Int) (xs : List Fld) (v : Value) (w : World) (hv : Flds w v xs) (hN : xs.length ≤ 100) (hS : ∀ x ∈ xs, x.1.size ≤ 1000 ∧ x.2.size ≤ 1000) (hcl : cl.size ≤ 1000) (hb : b.size ≤ 1000000) :
    Calls Tryz.prog 10 #[.agg #[.string m, .string t, v, .string b, .int .i64 k], .string cl] w fun e w' => ∃ u, e = .returned (.agg #[.string m, .string t, u, .string b, .int .i64 (kindR k)]) ∧ OwnF 64 w' w.heap.size u (reqF xs b cl k) ∧ Below w.heap.size w w' := by
  obtain ⟨A, c, hvA, hcA, hrA⟩ := id hv
  have hW0 : Below w.heap.size w ((w.alloc (.cells #[.string m, .string t, v, .string b, .int .i64 k] 24)).alloc (.cells #[.string ⟨#[]⟩, .string ⟨#[]⟩, .slice none 0 0, .string ⟨#[]⟩, .int .i64 0] 24)) := ((Below.refl _ w).alloc (Nat.le_refl _) _).alloc (by simp) _
  have hv0 := hv.below hW0
  have dH := refHops_any xs v _ hv0 hN hS
  have hl := hopsR_le xs
  have hS2 : ∀ x ∈ hopsR xs, x.1.size ≤ 1000 ∧ x.2.size ≤ 1000 := fun x hx => hS x (hopsR_mem hx)
  have hQ := Lib.hid (show reqF xs b cl k = if k = 0 then setR (hopsR xs) xffS (whoL (allF (hopsR xs) xffL) ++ cl) ++ [(viaS, viaV)] else setR (setR (hopsR xs) xffS (whoL (allF (hopsR xs) xffL) ++ cl) ++ [(viaS, viaV)]) clenN (decS b.size) by
    rw [fwd_eq, set_eq, set_eq, ← hops_eq]; rfl)
  generalize reqF xs b cl k = RQ at *
  generalize hopsR xs = H at *
  subst hvA
  clear hv hv0
  have hal := all_le H xffL
  have hVb := all_bd H xffL 1000 (fun x hx => (hS2 x hx).2)
  have dA := fun u_ W h => refAll_any H xffL (by decide) u_ W h (by omega) (fun x hx => by have := (hS2 x hx).1; omega)
  have bM := (Blk.new w #[.string m, .string t, .slice A xs.length c, .string b, .int .i64 k] 24).below ((Below.refl _ _).alloc (Nat.le_refl _) (.cells #[.string ⟨#[]⟩, .string ⟨#[]⟩, .slice none 0 0, .string ⟨#[]⟩, .int .i64 0] 24))
  have bR := Blk.new (w.alloc (.cells #[.string m, .string t, .slice A xs.length c, .string b, .int .i64 k] 24)) #[.string ⟨#[]⟩, .string ⟨#[]⟩, .slice none 0 0, .string ⟨#[]⟩, .int .i64 0] 24
  rw [World.size_alloc] at bR
  have hset := fun val v W h => refSet_any H xffS val (by decide) v W h (by omega) (fun x hx => by have := (hS2 x hx).1; omega)
  generalize allF H xffL = VS at *
  unfold xffL at dA
  go_enter Tryz.func10, Tryz.ntmps10
  go_wp2_with (first
    | (go_at_call 19; (with_reducible refine dH.mono ?_); rintro e w1 ⟨u1, rfl, ho1, hb1⟩
       have bM1 := bM.below hb1
       have bR1 := bR.below hb1
       have t1 := hW0.trans (hb1.mono hW0.size)
       replace hb1 := Lib.hid hb1)
    | (go_at_call 20; (with_reducible refine (dA _ _ ho1.flds).mono ?_); rintro e w2 ⟨u2, rfl, ho2, hb2⟩
       obtain ⟨A2, c2, rfl, hc2, hr2⟩ := ho2.strs
       have bM2 := bM1.below hb2
       have bR2 := bR1.below hb2
       have hf2 := ho1.flds.below hb2
       have t2 := t1.trans (hb2.mono t1.size)
       replace hb2 := Lib.hid hb2))
  have hVl : VS.length ≤ 100 := by omega
  clear dA dH hrA hW0 ho1 ho2 hb1 hb2
  go_loop [6, 15] (fun wv i => ∃ k : Nat, k ≤ VS.length ∧ i = .int .i64 k ∧ wv = .string (whoL (VS.take k))) (fun _ i => VS.length - (intOf i).toNat)
  case atStart => exact ⟨0, Nat.zero_le _, rfl, rfl⟩
  case round =>
    obtain ⟨j, hj, rfl, rfl⟩ := hrel
    by_cases c1 : j < VS.length
    · obtain ⟨bv, ov, rfl, hlt, hx⟩ := hr2 (by omega)
      have hc0 := hx j VS[j] (by simp [c1])
      have hws := whoL_bd (VS.take j) (fun y hy => hVb y (List.mem_of_mem_take hy))
      rw [List.length_take] at hws
      have hws' : (whoL (VS.take j)).size ≤ 1000000 := by omega
      have hvs := hVb VS[j] (by simp)
      have hsn := Lib.hid (who_snoc VS j c1)
      have k1 := cat_run VS[j] ⟨#[44, 32]⟩ (by show VS[j].size + 2 ≤ _; omega)
      have k2 := cat_run (whoL (VS.take j)) (VS[j] ++ ⟨#[44, 32]⟩) (by rw [ByteArray.size_append]; show _ + (VS[j].size + 2) ≤ _; omega)
      generalize whoL (VS.take j) ++ (VS[j] ++ ⟨#[44, 32]⟩) = w3' at *
      generalize VS[j] ++ ⟨#[44, 32]⟩ = w4' at *
      generalize whoL (VS.take j) = w5' at *
      generalize VS[j] = y at *
      clear hx hws
      go_wp2
      go_round
      case rel => exact ⟨j + 1, by omega, by go_num, by rw [hsn.out]⟩
      case measure => simp [intOf]; omega
    · have hjl : VS.take j = VS := List.take_of_length_le (by omega)
      rw [hjl]
      have hws := whoL_bd VS hVb
      have hws' : (whoL VS).size ≤ 1000000 := by omega
      have k1 := cat_run (whoL VS) cl (by omega)
      generalize whoL VS ++ cl = WC at *
      generalize whoL VS = WV at *
      have hset1 := hset WC u1 w2 hf2
      have hp := setR_pos H xffS WC
      have hle := setR_le H xffS WC
      have hmem : ∀ x ∈ setR H xffS WC, x.1.size ≤ 1000 := fun x hx => by
        rw [set_eq] at hx
        rcases setP_mem hx with h | h
        · exact (hS2 x h).1
        · rw [h]; show xffS.size ≤ 1000; decide
      generalize setR H xffS WC = S1 at *
      have dAdd := fun u W h => refAdd_any S1 viaS viaV u W h hp (by omega)
      have hset2 := fun val u W h => refSet_any (S1 ++ [(viaS, viaV)]) clenN val (by decide) u W h (by rw [List.length_append]; show _ + 1 ≤ _; omega) (fun x hx => by
        rcases List.mem_append.1 hx with h | h
        · have := hmem x h; omega
        · rw [List.mem_singleton.1 h]; show viaS.size ≤ _; decide)
      have dP := fun W => refPrint10 (b.size : Int) (by omega) W
      generalize S1 ++ [(viaS, viaV)] = S2 at *
      generalize decS (b.size : Int) = DS at *
      unfold xffS at hset1
      unfold viaS viaV at dAdd
      clear hset hjl hmem
      by_cases hk : k = 0
      · have hY := Lib.hid (show RQ = S2 by rw [hQ.out, if_pos hk])
        have hK := Lib.hid (show kindR k = k by unfold kindR; rw [if_pos hk])
        subst hk
        clear hset2 dP hQ
        go_wp2_with (first
          | (go_at_call 21; (with_reducible refine hset1.mono ?_); rintro e w3 ⟨u3, rfl, ho3, hb3⟩; have bM3 := bM2.below hb3; have bR3 := bR2.below hb3; have t3 := t2.trans (hb3.mono t2.size); have hw3 := bR3.lt)
          | (go_at_call 22; (with_reducible refine (dAdd _ _ ho3.fldsB).mono ?_); rintro e w4 ⟨u4, rfl, ho4, hb4⟩
             obtain ⟨A4, c4, rfl⟩ := row_slice ho4
             have bM4 := bM3.below hb4
             have bR4 := bR3.below hb4
             have t4 := t3.trans (hb4.mono t3.size)
             have m0 := bM4.cell (i := 0) rfl
             have m1 := bM4.cell (i := 1) rfl
             have m2 := bM4.cell (i := 2) rfl
             have m3 := bM4.cell (i := 3) rfl
             have m4 := bM4.cell (i := 4) rfl
             have fm2 := bM4.free (i := 2)
             have r0 := bR4.cell (i := 0) rfl
             have r1 := bR4.cell (i := 1) rfl
             have r2 := bR4.cell (i := 2) rfl
             have r3 := bR4.cell (i := 3) rfl
             have r4 := bR4.cell (i := 4) rfl
             have f0 := bR4.free (i := 0)
             have f1 := bR4.free (i := 1)
             have f2 := bR4.free (i := 2)
             have f3 := bR4.free (i := 3)
             have f4 := bR4.free (i := 4)))
        have ho4' := put5_own (ownsRow_setCell_below ho4 (a := ⟨w.heap.size, 2, none⟩) bM3.lt (.slice A4 S2.length c4)) hw3 (.string m) (.string t) (.slice A4 S2.length c4) (.string b) (.int .i64 0)
        have hbF := put5_below (t4.setCell (p := ⟨w.heap.size, 2, none⟩) (Nat.le_refl _) (.slice A4 S2.length c4)) (Nat.le_succ _) (.string m) (.string t) (.slice A4 S2.length c4) (.string b) (.int .i64 0)
        have bF := put5_blk (bR4.far (c := w.heap.size) (i := 2) (.slice A4 S2.length c4) (by omega)) (.string m) (.string t) (.slice A4 S2.length c4) (.string b) (.int .i64 0)
        generalize ((((((w4.setCell ⟨w.heap.size, 2, none⟩ (.slice A4 S2.length c4)).setCell ⟨w.heap.size + 1, 0, none⟩ (.string m)).setCell ⟨w.heap.size + 1, 1, none⟩ (.string t)).setCell ⟨w.heap.size + 1, 2, none⟩ (.slice A4 S2.length c4)).setCell ⟨w.heap.size + 1, 3, none⟩ (.string b)).setCell ⟨w.heap.size + 1, 4, none⟩ (.int .i64 0)) = WF at *
        have g0 := bF.cell (i := 0) rfl
        have g1 := bF.cell (i := 1) rfl
        have g2 := bF.cell (i := 2) rfl
        have g3 := bF.cell (i := 3) rfl
        have g4 := bF.cell (i := 4) rfl
        refine bodyPost_ret (v := .agg #[.string m, .string t, .slice A4 S2.length c4, .string b, .int .i64 0]) ?_ rfl ⟨_, by rw [hK.out], by rw [hY.out]; exact own_lower ho4' t3.size, hbF⟩
        clear r0 r1 r2 r3 r4 f0 f1 f2 f3 f4 m0 m1 m2 m3 m4 fm2
        rw [results_cell rfl]; go_simp
      · have hY := Lib.hid (show RQ = setR S2 clenN DS by rw [hQ.out, if_neg hk])
        have hK := Lib.hid (show kindR k = 1 by unfold kindR; rw [if_neg hk])
        have hkk : (k == 0) = false := beq_eq_false_iff_ne.2 hk
        clear hQ
        have hset2' := hset2 DS
        generalize setR S2 clenN DS = S3 at *
        unfold clenN at hset2'
        clear hset2
        go_wp2_with (first
          | (go_at_call 21; first
              | ((with_reducible refine hset1.mono ?_); rintro e w3 ⟨u3, rfl, ho3, hb3⟩; have bM3 := bM2.below hb3; have bR3 := bR2.below hb3; have t3 := t2.trans (hb3.mono t2.size); have hw3 := bR3.lt)
              | ((with_reducible refine (hset2' _ _ hf5).mono ?_); rintro e w6 ⟨u6, rfl, ho6, hb6⟩
                 obtain ⟨A6, c6, rfl⟩ := row_slice ho6
                 have bM6 := bM5.below hb6
                 have bR6 := bR5.below hb6
                 have t6 := t5.trans (hb6.mono t5.size)
                 have m0 := bM6.cell (i := 0) rfl
                 have m1 := bM6.cell (i := 1) rfl
                 have m2 := bM6.cell (i := 2) rfl
                 have m3 := bM6.cell (i := 3) rfl
                 have m4 := bM6.cell (i := 4) rfl
                 have fm2 := bM6.free (i := 2)
                 have fm4 := bM6.free (i := 4)
                 have r0 := bR6.cell (i := 0) rfl
                 have r1 := bR6.cell (i := 1) rfl
                 have r2 := bR6.cell (i := 2) rfl
                 have r3 := bR6.cell (i := 3) rfl
                 have r4 := bR6.cell (i := 4) rfl
                 have f0 := bR6.free (i := 0)
                 have f1 := bR6.free (i := 1)
                 have f2 := bR6.free (i := 2)
                 have f3 := bR6.free (i := 3)
                 have f4 := bR6.free (i := 4)))
          | (go_at_call 22; (with_reducible refine (dAdd _ _ ho3.fldsB).mono ?_); rintro e w4 ⟨u4, rfl, ho4, hb4⟩
             have bM4 := bM3.below hb4
             have bR4 := bR3.below hb4
             have t4 := t3.trans (hb4.mono t3.size)
             have hf4 := ho4.flds
             have n3 := bM4.cell (i := 3) rfl
             have n4 := bM4.cell (i := 4) rfl)
          | (go_at_call 23; (with_reducible refine (dP _).mono ?_); rintro e w5 ⟨rfl, hb5⟩
             have bM5 := bM4.below hb5
             have bR5 := bR4.below hb5
             have t5 := t4.trans (hb5.mono t4.size)
             have hf5 := hf4.below hb5
             have hw5 := bR5.lt))
        have ho6' := put5_own (ownsRow_setCell_below (ownsRow_setCell_below ho6 (a := ⟨w.heap.size, 4, none⟩) bM5.lt (.int .i64 1)) (a := ⟨w.heap.size, 2, none⟩) bM5.lt (.slice A6 S3.length c6)) hw5 (.string m) (.string t) (.slice A6 S3.length c6) (.string b) (.int .i64 1)
        have hbF := put5_below ((t6.setCell (p := ⟨w.heap.size, 4, none⟩) (Nat.le_refl _) (.int .i64 1)).setCell (p := ⟨w.heap.size, 2, none⟩) (Nat.le_refl _) (.slice A6 S3.length c6)) (Nat.le_succ _) (.string m) (.string t) (.slice A6 S3.length c6) (.string b) (.int .i64 1)
        have bF := put5_blk ((bR6.far (c := w.heap.size) (i := 4) (.int .i64 1) (by omega)).far (c := w.heap.size) (i := 2) (.slice A6 S3.length c6) (by omega)) (.string m) (.string t) (.slice A6 S3.length c6) (.string b) (.int .i64 1)
        generalize (((((((w6.setCell ⟨w.heap.size, 4, none⟩ (.int .i64 1)).setCell ⟨w.heap.size, 2, none⟩ (.slice A6 S3.length c6)).setCell ⟨w.heap.size + 1, 0, none⟩ (.string m)).setCell ⟨w.heap.size + 1, 1, none⟩ (.string t)).setCell ⟨w.heap.size + 1, 2, none⟩ (.slice A6 S3.length c6)).setCell ⟨w.heap.size + 1, 3, none⟩ (.string b)).setCell ⟨w.heap.size + 1, 4, none⟩ (.int .i64 1)) = WF at *
        have g0 := bF.cell (i := 0) rfl
        have g1 := bF.cell (i := 1) rfl
        have g2 := bF.cell (i := 2) rfl
        have g3 := bF.cell (i := 3) rfl
        have g4 := bF.cell (i := 4) rfl
        refine bodyPost_ret (v := .agg #[.string m, .string t, .slice A6 S3.length c6, .string b, .int .i64 1]) ?_ rfl ⟨_, by rw [hK.out], by rw [hY.out]; exact own_lower ho6' t5.size, hbF⟩
        clear r0 r1 r2 r3 r4 f0 f1 f2 f3 f4 m0 m1 m2 m3 m4 fm2 fm4 n3 n4
        rw [results_cell rfl]; go_simp
end Go.Proofs.YthedoophopilgaaGreatDoor.Rw
