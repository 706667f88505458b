/- The law of RewriteRequests. -/
import Derived.Test.YthedoophopilgaaGreatDoorRwMa
namespace Go.Proofs.YthedoophopilgaaGreatDoor.Rw
open Go.RowKit Go.Proofs.YthedoophopilgaaGreatDoor.Oct
set_option linter.unusedVariables false
theorem reqF_le (l : List Fld) (b cl : ByteArray) (k : Int) : (reqF l b cl k).length ≤ l.length + 3 := by
  have h0 := hopsP_le l
  have h1 := setP_low (nm := xffS) (nm' := xffS) (hopsP l) (fwdV (hopsP l) cl)
  have h2 := setP_low (nm := clenN) (nm' := clenN) (setP (hopsP l) xffS (fwdV (hopsP l) cl) ++ [(viaS, viaV)]) (decS b.size)
  rw [List.length_append] at h2
  simp only [List.length_cons, List.length_nil] at h2
  unfold reqF
  split
  · rw [List.length_append]; simp only [List.length_cons, List.length_nil]; omega
  · omega
set_option maxRecDepth 100000 in
set_option maxHeartbeats 8000000 in
theorem req_law (m t b cl : ByteArray) (k : Int) (xs : List Fld) (v : Value) (w : World) (he : HEnv w) (hv : Flds w v xs) (hN : xs.length ≤ 140737488355328) :
    Calls Tryz.prog 3 #[.agg #[.string m, .string t, v, .string b, .int .i64 k], .string cl] w fun e w' => e = .returned (.bool true) ∧ Below w.heap.size w w' := by
  obtain ⟨A, c, rfl, _, _⟩ := id hv
  have hB := (Below.refl _ w).alloc (Nat.le_refl _) (.cells #[.string m, .string t, .slice A xs.length c, .string b, .int .i64 k] 24)
  have bP := Blk.new w #[.string m, .string t, .slice A xs.length c, .string b, .int .i64 k] 24
  have hv1 := hv.below hB
  have dA := awake_any _ (he.below hB)
  have dQ := fun W h => asks_any m t b k xs (.slice A xs.length c) W h hN
  have dC := fun W => (cut20 cl W).mono (fun _ _ ⟨a, b⟩ => (⟨a, b.symm⟩ : _ ∧ W = _))
  have hl := few_len 8 xs
  have hS : ∀ x ∈ fewF 8 xs, x.1.size ≤ 1000 ∧ x.2.size ≤ 1000 := fun x hx => by have := few_mem hx; omega
  have hb60 := cutS_size 60 b
  have hc20 := cutS_size 20 cl
  generalize fewF 8 xs = F at *
  generalize cutS 20 m = m' at *
  generalize cutS 40 t = t' at *
  generalize cutS 60 b = b' at *
  generalize cutS 20 cl = cl' at *
  have hrl := reqF_le F b' cl' k
  have dO := fun u W h => own10_any m' t' b' k F u W h (by omega)
  have dR := fun u W h0 h1 h2 => rewReq_any m' t' b' cl' k F u W h0 h1 h2 (by omega) hS (by omega) (by omega)
  have dD := fun u W h => refReq_any m' t' b' cl' k F u W h (by omega) hS (by omega) (by omega)
  have dI := fun va vb W ha hb => is10_any m' t' b' (kindR k) (reqF F b' cl' k) va vb W ha hb (by omega)
  generalize reqF F b' cl' k = RQ at *
  generalize kindR k = kr at *
  clear hv
  go_enter Tryz.func3, Tryz.ntmps3
  go_upto_region 4 with (first
    | (go_at_call 4; (with_reducible refine dA.mono ?_); rintro e w1 ⟨rfl, hb1⟩
       have hv2 := hv1.below hb1
       have bP1 := bP.below hb1
       have p0 := bP1.cell (i := 0) rfl
       have p1 := bP1.cell (i := 1) rfl
       have p2 := bP1.cell (i := 2) rfl
       have p3 := bP1.cell (i := 3) rfl
       have p4 := bP1.cell (i := 4) rfl
       have t1 := hB.trans (hb1.mono hB.size)
       replace hb1 := Lib.hid hb1)
    | (go_at_call 5; (with_reducible refine (dQ _ hv2).mono ?_); rintro e w2 ⟨u2, rfl, ho2, hb2⟩; obtain ⟨A2, c2, rfl⟩ := row_slice ho2; have t2 := t1.trans (hb2.mono t1.size); replace hb2 := Lib.hid hb2)
    | (go_at_call 6; (with_reducible refine (dC _).mono ?_); rintro e w1' ⟨rfl, rfl⟩))
  have hbX := (Below.refl _ w2).alloc (Nat.le_refl _) (.cells #[.string m', .string t', .slice A2 F.length c2, .string b', .int .i64 k] 24)
  have bX := Blk.new w2 #[.string m', .string t', .slice A2 F.length c2, .string b', .int .i64 k] 24
  have hFX := ho2.flds.below hbX
  have t3 := t2.trans (hbX.mono t2.size)
  have heX := he.below t3
  clear p0 p1 p2 p3 p4 bP1 hbX ho2
  generalize w2.alloc (.cells #[.string m', .string t', .slice A2 F.length c2, .string b', .int .i64 k] 24) = W0 at *
  have hK0 : Kps W0.heap.size W0 W0.drew := ⟨(Below.refl _ W0).drew, Nat.le_refl _⟩
  have hqX : w2.heap.size < W0.heap.size := bX.lt
  have hSS : ∀ w', Kps W0.heap.size W0 w' → (w'.cell? ⟨w2.heap.size, 0, none⟩ = some (.string m') ∧ w'.cell? ⟨w2.heap.size, 1, none⟩ = some (.string t') ∧ w'.cell? ⟨w2.heap.size, 2, none⟩ = some (.slice A2 F.length c2) ∧ w'.cell? ⟨w2.heap.size, 3, none⟩ = some (.string b') ∧ w'.cell? ⟨w2.heap.size, 4, none⟩ = some (.int .i64 k) ∧ Kps W0.heap.size W0 w') := fun w' h =>
    ⟨h.cell hqX (bX.cell (i := 0) rfl), h.cell hqX (bX.cell (i := 1) rfl), h.cell hqX (bX.cell (i := 2) rfl), h.cell hqX (bX.cell (i := 3) rfl), h.cell hqX (bX.cell (i := 4) rfl), h⟩
  have dO' := fun W (h : Kps W0.heap.size W0 W) => dO (.slice A2 F.length c2) W (hFX.below h.1)
  have dD' := fun W (h : Kps W0.heap.size W0 W) => dD (.slice A2 F.length c2) W (hFX.below h.1)
  have dR' := fun u W (h : Kps W0.heap.size W0 W) h1 h2 => dR u W (heX.below h.1) h1 h2
  clear dO dD dR dA dQ dC
  go_region_held3 (fun w' => w'.cell? ⟨w2.heap.size, 0, none⟩ = some (.string m') ∧ w'.cell? ⟨w2.heap.size, 1, none⟩ = some (.string t') ∧ w'.cell? ⟨w2.heap.size, 2, none⟩ = some (.slice A2 F.length c2) ∧ w'.cell? ⟨w2.heap.size, 3, none⟩ = some (.string b') ∧ w'.cell? ⟨w2.heap.size, 4, none⟩ = some (.int .i64 k) ∧ Kps W0.heap.size W0 w')
    (first
      | with_reducible exact hSS _ hK0
      | (go_split_ands; with_reducible exact hSS _ (by assumption))
      | (go_split_ands; refine hSS _ ?_; repeat (first | (with_reducible assumption) | with_reducible refine Kps.call ?_ hb13 | with_reducible refine Kps.call ?_ hb14 | with_reducible refine Kps.call ?_ hb15 | with_reducible refine Kps.call ?_ hb16)))
    (first
      | (go_at_call 9; refine (dO' _ (by go_split_ands; assumption)).mono ?_; rintro e w13 ⟨u13, rfl, ho13, hb13⟩; obtain ⟨A13, c13, rfl⟩ := row_slice ho13)
      | (go_at_call 8; refine (dR' _ _ (by go_split_ands; assumption) ho13.fldsB ho13.flds).mono ?_; rintro e w14 ⟨u14, rfl, ho14, hb14⟩; obtain ⟨A14, c14, rfl⟩ := row_slice ho14; have hf14 := ho14.flds)
      | (go_at_call 10; refine (dD' _ (by go_split_ands; assumption)).mono ?_; rintro e w15 ⟨u15, rfl, ho15, hb15⟩; obtain ⟨A15, c15, rfl⟩ := row_slice ho15; have hf15 := ho15.flds)
      | (go_at_call 7; refine (dI _ _ _ (by first | with_reducible exact hf14 | with_reducible exact hf14.below hb15) (by first | with_reducible exact hf15 | with_reducible exact hf15.below hb14)).mono ?_; rintro e w16 ⟨rfl, hb16⟩))
  all_goals
    have hk16 : Kps W0.heap.size W0 w16 := by go_split_ands; assumption
    go_wp2
    go_ret
    exact ⟨rfl, t3.trans (hk16.1.mono t3.size)⟩
end Go.Proofs.YthedoophopilgaaGreatDoor.Rw
