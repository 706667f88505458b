/- rewrite.Request. -/
import Derived.Test.YthedoophopilgaaGreatDoorRwW
namespace Go.Proofs.YthedoophopilgaaGreatDoor.Rw
open Go.RowKit Go.Proofs.YthedoophopilgaaGreatDoor.Oct
set_option linter.unusedVariables false
theorem hopsP_mem {xs : List Fld} {x : Fld} (h : x ∈ hopsP xs) : x ∈ xs := drop_mem (drop_mem h)
theorem hopsP_le (xs : List Fld) : (hopsP xs).length ≤ xs.length := by
  have h1 := drop_le (dropF xs hopN) (namedP xs)
  have h2 := drop_le xs hopN
  unfold hopsP
  omega
set_option maxRecDepth 100000 in
set_option maxHeartbeats 8000000 in
theorem rewReq_any (m t b cl : ByteArray) (k : Int) (xs : List Fld) (v : Value) (w : World) (he : HEnv w) (hv : FldsB w v xs) (hf : Flds w v xs) (hN : xs.length ≤ 90) (hS : ∀ x ∈ xs, x.1.size ≤ 1000 ∧ x.2.size ≤ 1000) (hcl : cl.size ≤ 1000) (hb : b.size ≤ 1000000) :
    Calls Tryz.prog 8 #[.agg #[.string m, .string t, v, .string b, .int .i64 k], .string cl] w fun e w' => ∃ u, e = .returned (.agg #[.string m, .string t, u, .string b, .int .i64 (kindR k)]) ∧ OwnF 41 w' w.heap.size u (reqF xs b cl k) ∧ Below w.heap.size w w' := by
  obtain ⟨A, c, rfl⟩ := fldsB_slice hv
  have hW0 : Below w.heap.size w ((w.alloc (.cells #[.string m, .string t, .slice A xs.length c, .string b, .int .i64 k] 34)).alloc (.cells #[.string ⟨#[]⟩, .string ⟨#[]⟩, .slice none 0 0, .string ⟨#[]⟩, .int .i64 0] 34)) := ((Below.refl _ w).alloc (Nat.le_refl _) _).alloc (by simp) _
  have dH := hops_any xs _ _ (he.below hW0) (hv.below hW0) (hf.below hW0) (by omega) hS
  have hl := hopsP_le xs
  have hS2 : ∀ x ∈ hopsP xs, x.1.size ≤ 1000 ∧ x.2.size ≤ 1000 := fun x hx => hS x (hopsP_mem hx)
  have bM := (Blk.new w #[.string m, .string t, .slice A xs.length c, .string b, .int .i64 k] 34).below ((Below.refl _ _).alloc (Nat.le_refl _) (.cells #[.string ⟨#[]⟩, .string ⟨#[]⟩, .slice none 0 0, .string ⟨#[]⟩, .int .i64 0] 34))
  have bR := Blk.new (w.alloc (.cells #[.string m, .string t, .slice A xs.length c, .string b, .int .i64 k] 34)) #[.string ⟨#[]⟩, .string ⟨#[]⟩, .slice none 0 0, .string ⟨#[]⟩, .int .i64 0] 34
  rw [World.size_alloc] at bR
  have hQ := Lib.hid (show reqF xs b cl k = if k = 0 then setP (hopsP xs) xffS (fwdV (hopsP xs) cl) ++ [(viaS, viaV)] else setP (setP (hopsP xs) xffS (fwdV (hopsP xs) cl) ++ [(viaS, viaV)]) clenN (decS b.size) from rfl)
  generalize reqF xs b cl k = RQ at *
  generalize hopsP xs = H at *
  have dF := fun u W h1 h2 => fwd_any H cl u W h1 h2 (by omega) hS2 hcl
  generalize fwdV H cl = FV at *
  have hle := setP_low (nm := xffS) (nm' := xffS) H FV
  have hmem : ∀ x ∈ setP H xffS FV ++ [(viaS, viaV)], x.1.size ≤ 1000000 := fun x hx => by
    rcases List.mem_append.1 hx with hx | hx
    · rcases setP_mem hx with h | h
      · have := (hS2 x h).1; omega
      · rw [h]; show xffS.size ≤ _; decide
    · rw [List.mem_singleton.1 hx]; show viaS.size ≤ _; decide
  generalize setP H xffS FV = S1 at *
  have dA := fun u W h => add_any S1 viaS viaV u W h (by omega)
  have hl2 : (S1 ++ [(viaS, viaV)]).length ≤ 1000 := by rw [List.length_append]; show _ + 1 ≤ _; omega
  generalize S1 ++ [(viaS, viaV)] = S2 at *
  have dZ := fun u W h0 h1 h2 => sized_any S2 b hb u W h0 h1 h2 hl2 hmem
  generalize setP S2 clenN (decS b.size) = S3 at *
  unfold viaS viaV at dA
  clear hle
  go_enter Tryz.func8, Tryz.ntmps8
  by_cases hk : k = 0
  · have hY := Lib.hid (show RQ = S2 by rw [hQ.out, if_pos hk])
    have hK := Lib.hid (show kindR k = k by unfold kindR; rw [if_pos hk])
    subst hk
    clear dZ hQ
    go_wp2_with (first
      | (go_at_call 11; (with_reducible refine dH.mono ?_); rintro e w1 ⟨u1, rfl, ho1, hb1⟩
         have bM1 := bM.below hb1
         have bR1 := bR.below hb1
         have t1 := hW0.trans (hb1.mono hW0.size)
         replace hb1 := Lib.hid hb1)
      | (go_at_call 15; (with_reducible refine (dF _ _ ho1.fldsB ho1.flds).mono ?_); rintro e w2 ⟨u2, rfl, ho2, hb2⟩
         have bM2 := bM1.below hb2
         have bR2 := bR1.below hb2
         have t2 := t1.trans (hb2.mono t1.size)
         replace hb2 := Lib.hid hb2)
      | (go_at_call 16; (with_reducible refine (dA _ _ ho2.fldsB).mono ?_); rintro e w4 ⟨u4, rfl, ho4, hb4⟩
         obtain ⟨A4, c4, rfl⟩ := row_slice ho4
         have bM4 := bM2.below hb4
         have bR4 := bR2.below hb4
         have t4 := t2.trans (hb4.mono t2.size)
         have hl4 := bM2.lt
         have hr4 := bR2.lt
         have m0 := bM4.cell (i := 0) rfl
         have m1 := bM4.cell (i := 1) rfl
         have m2 := bM4.cell (i := 2) rfl
         have m3 := bM4.cell (i := 3) rfl
         have m4 := bM4.cell (i := 4) rfl
         have fm2 := bM4.free (i := 2)
         have fm4 := bM4.free (i := 4)
         have r0 := bR4.cell (i := 0) rfl
         have r1 := bR4.cell (i := 1) rfl
         have r2 := bR4.cell (i := 2) rfl
         have r3 := bR4.cell (i := 3) rfl
         have r4 := bR4.cell (i := 4) rfl
         have f0 := bR4.free (i := 0)
         have f1 := bR4.free (i := 1)
         have f2 := bR4.free (i := 2)
         have f3 := bR4.free (i := 3)
         have f4 := bR4.free (i := 4)
         replace hb4 := Lib.hid hb4))
    have ho5 := put5_own (ownsRow_setCell_below ho4 (a := ⟨w.heap.size, 2, none⟩) hl4 (.slice A4 S2.length c4)) hr4 (.string m) (.string t) (.slice A4 S2.length c4) (.string b) (.int .i64 0)
    have hbF := put5_below (t4.setCell (p := ⟨w.heap.size, 2, none⟩) (Nat.le_refl _) (.slice A4 S2.length c4)) (Nat.le_succ _) (.string m) (.string t) (.slice A4 S2.length c4) (.string b) (.int .i64 0)
    have bF := put5_blk (bR4.far (c := w.heap.size) (i := 2) (.slice A4 S2.length c4) (by omega)) (.string m) (.string t) (.slice A4 S2.length c4) (.string b) (.int .i64 0)
    generalize ((((((w4.setCell ⟨w.heap.size, 2, none⟩ (.slice A4 S2.length c4)).setCell ⟨w.heap.size + 1, 0, none⟩ (.string m)).setCell ⟨w.heap.size + 1, 1, none⟩ (.string t)).setCell ⟨w.heap.size + 1, 2, none⟩ (.slice A4 S2.length c4)).setCell ⟨w.heap.size + 1, 3, none⟩ (.string b)).setCell ⟨w.heap.size + 1, 4, none⟩ (.int .i64 0)) = WF at *
    have g0 := bF.cell (i := 0) rfl
    have g1 := bF.cell (i := 1) rfl
    have g2 := bF.cell (i := 2) rfl
    have g3 := bF.cell (i := 3) rfl
    have g4 := bF.cell (i := 4) rfl
    refine bodyPost_ret (v := .agg #[.string m, .string t, .slice A4 S2.length c4, .string b, .int .i64 0]) ?_ rfl ⟨_, by rw [hK.out], by rw [hY.out]; exact own_lower ho5 t2.size, hbF⟩
    clear r0 r1 r2 r3 r4 f0 f1 f2 f3 f4 m0 m1 m2 m3 m4 fm2 fm4
    rw [results_cell rfl]; go_simp
  · have hY := Lib.hid (show RQ = S3 by rw [hQ.out, if_neg hk])
    have hK := Lib.hid (show kindR k = 1 by unfold kindR; rw [if_neg hk])
    have hkk : (k == 0) = false := beq_eq_false_iff_ne.2 hk
    clear hQ
    go_wp2_with (first
      | (go_at_call 11; (with_reducible refine dH.mono ?_); rintro e w1 ⟨u1, rfl, ho1, hb1⟩
         have bM1 := bM.below hb1
         have bR1 := bR.below hb1
         have t1 := hW0.trans (hb1.mono hW0.size)
         replace hb1 := Lib.hid hb1)
      | (go_at_call 15; (with_reducible refine (dF _ _ ho1.fldsB ho1.flds).mono ?_); rintro e w2 ⟨u2, rfl, ho2, hb2⟩
         have bM2 := bM1.below hb2
         have bR2 := bR1.below hb2
         have t2 := t1.trans (hb2.mono t1.size)
         replace hb2 := Lib.hid hb2)
      | (go_at_call 16; (with_reducible refine (dA _ _ ho2.fldsB).mono ?_); rintro e w4 ⟨u4, rfl, ho4, hb4⟩
         obtain ⟨A4, c4, rfl⟩ := row_slice ho4
         have bM4 := bM2.below hb4
         have bR4 := bR2.below hb4
         have t4 := t2.trans (hb4.mono t2.size)
         have hl4 := bM2.lt
         have hr4 := bR2.lt
         have m0 := bM4.cell (i := 0) rfl
         have m1 := bM4.cell (i := 1) rfl
         have m2 := bM4.cell (i := 2) rfl
         have m3 := bM4.cell (i := 3) rfl
         have m4 := bM4.cell (i := 4) rfl
         have fm2 := bM4.free (i := 2)
         have fm4 := bM4.free (i := 4)
         have r0 := bR4.cell (i := 0) rfl
         have r1 := bR4.cell (i := 1) rfl
         have r2 := bR4.cell (i := 2) rfl
         have r3 := bR4.cell (i := 3) rfl
         have r4 := bR4.cell (i := 4) rfl
         have f0 := bR4.free (i := 0)
         have f1 := bR4.free (i := 1)
         have f2 := bR4.free (i := 2)
         have f3 := bR4.free (i := 3)
         have f4 := bR4.free (i := 4)
         have ho4c := ownsRow_setCell_below ho4 (a := ⟨w.heap.size, 2, none⟩) hl4 (.slice A4 S2.length c4)
         have ho4F : OwnF 41 (w4.setCell ⟨w.heap.size, 2, none⟩ (.slice A4 S2.length c4)) w2.heap.size (.slice A4 S2.length c4) S2 := ho4c
         have hfb4 := ho4F.fldsB
         have hff4 := ho4F.flds
         have t4c := t4.setCell (p := ⟨w.heap.size, 2, none⟩) (Nat.le_refl _) (.slice A4 S2.length c4)
         have bM4c : Blk (w4.setCell ⟨w.heap.size, 2, none⟩ (.slice A4 S2.length c4)) w.heap.size #[.string m, .string t, .slice A4 S2.length c4, .string b, .int .i64 k] 34 := bM4.set (i := 2) (.slice A4 S2.length c4)
         have bR4c := bR4.far (c := w.heap.size) (i := 2) (.slice A4 S2.length c4) (by omega)
         replace hb4 := Lib.hid hb4)
      | (go_at_call 17; (with_reducible refine (dZ _ _ (he.below t4c).toEnv hfb4 hff4).mono ?_); rintro e w6 ⟨u6, rfl, ho6, hb6⟩
         obtain ⟨A6, c6, rfl⟩ := row_slice ho6
         have bM6 := bM4c.below hb6
         have bR6 := bR4c.below hb6
         have t6 := t4c.trans (hb6.mono t4c.size)
         have hl6 := bM4c.lt
         have hr6 := bR4c.lt
         have n0 := bM6.cell (i := 0) rfl
         have n1 := bM6.cell (i := 1) rfl
         have n2 := bM6.cell (i := 2) rfl
         have n3 := bM6.cell (i := 3) rfl
         have n4 := bM6.cell (i := 4) rfl
         have gn2 := bM6.free (i := 2)
         have gn4 := bM6.free (i := 4)
         have q0 := bR6.cell (i := 0) rfl
         have q1 := bR6.cell (i := 1) rfl
         have q2 := bR6.cell (i := 2) rfl
         have q3 := bR6.cell (i := 3) rfl
         have q4 := bR6.cell (i := 4) rfl
         have e0 := bR6.free (i := 0)
         have e1 := bR6.free (i := 1)
         have e2 := bR6.free (i := 2)
         have e3 := bR6.free (i := 3)
         have e4 := bR6.free (i := 4)))
    have ho7 := put5_own (ownsRow_setCell_below (ownsRow_setCell_below ho6 (a := ⟨w.heap.size, 2, none⟩) hl6 (.slice A6 S3.length c6)) (a := ⟨w.heap.size, 4, none⟩) hl6 (.int .i64 1)) hr6 (.string m) (.string t) (.slice A6 S3.length c6) (.string b) (.int .i64 1)
    have hbF := put5_below ((t6.setCell (p := ⟨w.heap.size, 2, none⟩) (Nat.le_refl _) (.slice A6 S3.length c6)).setCell (p := ⟨w.heap.size, 4, none⟩) (Nat.le_refl _) (.int .i64 1)) (Nat.le_succ _) (.string m) (.string t) (.slice A6 S3.length c6) (.string b) (.int .i64 1)
    have bF := put5_blk ((bR6.far (c := w.heap.size) (i := 2) (.slice A6 S3.length c6) (by omega)).far (c := w.heap.size) (i := 4) (.int .i64 1) (by omega)) (.string m) (.string t) (.slice A6 S3.length c6) (.string b) (.int .i64 1)
    generalize (((((((w6.setCell ⟨w.heap.size, 2, none⟩ (.slice A6 S3.length c6)).setCell ⟨w.heap.size, 4, none⟩ (.int .i64 1)).setCell ⟨w.heap.size + 1, 0, none⟩ (.string m)).setCell ⟨w.heap.size + 1, 1, none⟩ (.string t)).setCell ⟨w.heap.size + 1, 2, none⟩ (.slice A6 S3.length c6)).setCell ⟨w.heap.size + 1, 3, none⟩ (.string b)).setCell ⟨w.heap.size + 1, 4, none⟩ (.int .i64 1)) = WF at *
    have g0 := bF.cell (i := 0) rfl
    have g1 := bF.cell (i := 1) rfl
    have g2 := bF.cell (i := 2) rfl
    have g3 := bF.cell (i := 3) rfl
    have g4 := bF.cell (i := 4) rfl
    refine bodyPost_ret (v := .agg #[.string m, .string t, .slice A6 S3.length c6, .string b, .int .i64 1]) ?_ rfl ⟨_, by rw [hK.out], by rw [hY.out]; exact own_lower ho7 t4c.size, hbF⟩
    clear r0 r1 r2 r3 r4 f0 f1 f2 f3 f4 m0 m1 m2 m3 m4 fm2 fm4 n0 n1 n2 n3 n4 gn2 gn4 q0 q1 q2 q3 q4 e0 e1 e2 e3 e4
    rw [results_cell rfl]; go_simp
end Go.Proofs.YthedoophopilgaaGreatDoor.Rw
