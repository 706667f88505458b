/- stewardlaw10.Own, stewardlaw10.Is, stewardlaw12.Asks. -/
import Derived.Test.YthedoophopilgaaGreatDoorRwR
namespace Go.Proofs.YthedoophopilgaaGreatDoor.Rw
open Go.RowKit Go.Proofs.YthedoophopilgaaGreatDoor.Oct
set_option linter.unusedVariables false
set_option maxRecDepth 100000 in
set_option maxHeartbeats 8000000 in
theorem own10_any (m t b : ByteArray) (k : Int) (xs : List Fld) (v : Value) (w : World) (hv : Flds w v xs) (hN : xs.length ≤ 100) :
    Calls Tryz.prog 9 #[.agg #[.string m, .string t, v, .string b, .int .i64 k]] w fun e w' => ∃ u, e = .returned (.agg #[.string m, .string t, u, .string b, .int .i64 k]) ∧ OwnF 41 w' w.heap.size u xs ∧ Below w.heap.size w w' := by
  obtain ⟨A, c, rfl, hcA, hrA⟩ := id hv
  have hW0 : Below w.heap.size w ((w.alloc (.cells #[.string m, .string t, .slice A xs.length c, .string b, .int .i64 k] 24)).alloc (.cells #[.string ⟨#[]⟩, .string ⟨#[]⟩, .slice none 0 0, .string ⟨#[]⟩, .int .i64 0] 34)) := ((Below.refl _ w).alloc (Nat.le_refl _) _).alloc (by simp) _
  have hv0 := (hv.below hW0)
  have bM := (Blk.new w #[.string m, .string t, .slice A xs.length c, .string b, .int .i64 k] 24).below ((Below.refl _ _).alloc (Nat.le_refl _) (.cells #[.string ⟨#[]⟩, .string ⟨#[]⟩, .slice none 0 0, .string ⟨#[]⟩, .int .i64 0] 34))
  have bR := Blk.new (w.alloc (.cells #[.string m, .string t, .slice A xs.length c, .string b, .int .i64 k] 24)) #[.string ⟨#[]⟩, .string ⟨#[]⟩, .slice none 0 0, .string ⟨#[]⟩, .int .i64 0] 34
  rw [World.size_alloc] at bR
  go_enter Tryz.func9, Tryz.ntmps9
  go_wp2_with fail
  have hWs : ((w.alloc (.cells #[.string m, .string t, .slice A xs.length c, .string b, .int .i64 k] 24)).alloc (.cells #[.string ⟨#[]⟩, .string ⟨#[]⟩, .slice none 0 0, .string ⟨#[]⟩, .int .i64 0] 34)).heap.size = w.heap.size + 2 := by simp
  generalize (w.alloc (.cells #[.string m, .string t, .slice A xs.length c, .string b, .int .i64 k] 24)).alloc (.cells #[.string ⟨#[]⟩, .string ⟨#[]⟩, .slice none 0 0, .string ⟨#[]⟩, .int .i64 0] 34) = W0 at *
  have hdr : Below W0.heap.size W0 W0.drew := (Below.refl _ W0).drew
  have hsd : W0.drew.heap.size = w.heap.size + 2 := hWs
  have dO := own_any xs (.slice A xs.length c) W0.drew (hv0.below hdr) (by omega)
  rw [hsd] at dO
  have bMd := bM.below hdr
  have bRd := bR.below hdr
  have hWd := hW0.drew
  have i0 := bMd.cell (i := 0) rfl
  have i1 := bMd.cell (i := 1) rfl
  have i2 := bMd.cell (i := 2) rfl
  have i3 := bMd.cell (i := 3) rfl
  have i4 := bMd.cell (i := 4) rfl
  have hWdh := Lib.hid hWd
  have hsdh := Lib.hid hsd
  clear hdr hv0 bM bR hW0 hWs hrA hv hWd hsd
  go_region_held3 (fun w' => w'.cell? ⟨w.heap.size, 0, none⟩ = some (.string m) ∧ w'.cell? ⟨w.heap.size, 1, none⟩ = some (.string t) ∧ w'.cell? ⟨w.heap.size, 2, none⟩ = some (.slice A xs.length c) ∧ w'.cell? ⟨w.heap.size, 3, none⟩ = some (.string b) ∧ w'.cell? ⟨w.heap.size, 4, none⟩ = some (.int .i64 k))
    (first
      | with_reducible exact ⟨i0, i1, i2, i3, i4⟩
      | with_reducible exact ⟨d0, d1, d2, d3, d4⟩
      | go_keep)
    (first
      | (go_at_call 18; refine dO.mono ?_; rintro e w3 ⟨u3, rfl, ho3, hb3⟩
         obtain ⟨A3, c3, rfl⟩ := row_slice ho3
         have hb3' : Below W0.drew.heap.size W0.drew w3 := by rw [hsdh.out]; exact hb3
         have bM3 := bMd.below hb3'
         have bR3 := bRd.below hb3'
         have t3 := hWdh.out.trans (hb3.mono (by omega))
         have d0 := bM3.cell (i := 0) rfl
         have d1 := bM3.cell (i := 1) rfl
         have d2 := bM3.cell (i := 2) rfl
         have d3 := bM3.cell (i := 3) rfl
         have d4 := bM3.cell (i := 4) rfl
         have r0 := bR3.cell (i := 0) rfl
         have r1 := bR3.cell (i := 1) rfl
         have r2 := bR3.cell (i := 2) rfl
         have r3 := bR3.cell (i := 3) rfl
         have r4 := bR3.cell (i := 4) rfl
         have f0 := bR3.free (i := 0)
         have f1 := bR3.free (i := 1)
         have f2 := bR3.free (i := 2)
         have f3 := bR3.free (i := 3)
         have f4 := bR3.free (i := 4)))
  have hq : w.heap.size + 1 < w.heap.size + 2 := by omega
  have ho4 := put5_own ho3 hq (.string m) (.string t) (.slice A3 xs.length c3) (.string b) (.int .i64 k)
  have hbF := put5_below t3 (Nat.le_succ _) (.string m) (.string t) (.slice A3 xs.length c3) (.string b) (.int .i64 k)
  have bF := put5_blk bR3 (.string m) (.string t) (.slice A3 xs.length c3) (.string b) (.int .i64 k)
  clear d0 d1 d2 d3 d4 r0 r1 r2 r3 r4 f0 f1 f2 f3 f4 bM3 bR3
  generalize (((((w3.setCell ⟨w.heap.size + 1, 0, none⟩ (.string m)).setCell ⟨w.heap.size + 1, 1, none⟩ (.string t)).setCell ⟨w.heap.size + 1, 2, none⟩ (.slice A3 xs.length c3)).setCell ⟨w.heap.size + 1, 3, none⟩ (.string b)).setCell ⟨w.heap.size + 1, 4, none⟩ (.int .i64 k)) = WF at *
  have g0 := bF.cell (i := 0) rfl
  have g1 := bF.cell (i := 1) rfl
  have g2 := bF.cell (i := 2) rfl
  have g3 := bF.cell (i := 3) rfl
  have g4 := bF.cell (i := 4) rfl
  go_wp2
  refine bodyPost_ret (v := .agg #[.string m, .string t, .slice A3 xs.length c3, .string b, .int .i64 k]) ?_ rfl ⟨_, rfl, own_lower ho4 (by omega), hbF⟩
  rw [results_cell rfl]; go_simp
/-- A request, cut. -/
def askF (xs : List Fld) : List Fld := fewF 8 xs
theorem cut60 (s : ByteArray) (w : World) : Calls Tryz.prog 6 #[.string s, .int .i64 60] w fun e w' => e = .returned (.string (cutS 60 s)) ∧ w' = w := (cut_any s 60 w).mono fun _ _ ⟨h1, h2⟩ => ⟨h1, h2.symm⟩
set_option maxRecDepth 100000 in
set_option maxHeartbeats 8000000 in
theorem asks_any (m t b : ByteArray) (k : Int) (xs : List Fld) (v : Value) (w : World) (hv : Flds w v xs) (hN : xs.length ≤ 140737488355328) :
    Calls Tryz.prog 5 #[.agg #[.string m, .string t, v, .string b, .int .i64 k]] w fun e w' => ∃ u, e = .returned (.agg #[.string (cutS 20 m), .string (cutS 40 t), u, .string (cutS 60 b), .int .i64 k]) ∧ OwnF 64 w' w.heap.size u (fewF 8 xs) ∧ Below w.heap.size w w' := by
  obtain ⟨A, c, rfl, hcA, hrA⟩ := id hv
  have hW0 : Below w.heap.size w ((w.alloc (.cells #[.string m, .string t, .slice A xs.length c, .string b, .int .i64 k] 24)).alloc (.cells #[.string ⟨#[]⟩, .string ⟨#[]⟩, .slice none 0 0, .string ⟨#[]⟩, .int .i64 0] 24)) := ((Below.refl _ w).alloc (Nat.le_refl _) _).alloc (by simp) _
  have hv0 := (hv.below hW0)
  have bM := (Blk.new w #[.string m, .string t, .slice A xs.length c, .string b, .int .i64 k] 24).below ((Below.refl _ _).alloc (Nat.le_refl _) (.cells #[.string ⟨#[]⟩, .string ⟨#[]⟩, .slice none 0 0, .string ⟨#[]⟩, .int .i64 0] 24))
  have bR := Blk.new (w.alloc (.cells #[.string m, .string t, .slice A xs.length c, .string b, .int .i64 k] 24)) #[.string ⟨#[]⟩, .string ⟨#[]⟩, .slice none 0 0, .string ⟨#[]⟩, .int .i64 0] 24
  rw [World.size_alloc] at bR
  have h1 := fun W => (cut20 m W).mono (fun _ _ ⟨a, b⟩ => (⟨a, b.symm⟩ : _ ∧ W = _))
  have h2 := fun W => (cut40 t W).mono (fun _ _ ⟨a, b⟩ => (⟨a, b.symm⟩ : _ ∧ W = _))
  have h3 := fun W => (cut60 b W).mono (fun _ _ ⟨a, b⟩ => (⟨a, b.symm⟩ : _ ∧ W = _))
  have dF : ∀ W, Flds W (.slice A xs.length c) xs → Calls Tryz.prog 13 #[.slice A xs.length c, .int .i64 8] W fun e w' => ∃ u, e = .returned u ∧ OwnF 64 w' W.heap.size u (fewF 8 xs) ∧ Below W.heap.size W w' := fun W h => few_any 8 (by omega) xs (.slice A xs.length c) W h hN
  generalize fewF 8 xs = F at *
  generalize cutS 20 m = m' at *
  generalize cutS 40 t = t' at *
  generalize cutS 60 b = b' at *
  go_enter Tryz.func5, Tryz.ntmps5
  go_wp2_with fail
  have hWs : ((w.alloc (.cells #[.string m, .string t, .slice A xs.length c, .string b, .int .i64 k] 24)).alloc (.cells #[.string ⟨#[]⟩, .string ⟨#[]⟩, .slice none 0 0, .string ⟨#[]⟩, .int .i64 0] 24)).heap.size = w.heap.size + 2 := by simp
  generalize (w.alloc (.cells #[.string m, .string t, .slice A xs.length c, .string b, .int .i64 k] 24)).alloc (.cells #[.string ⟨#[]⟩, .string ⟨#[]⟩, .slice none 0 0, .string ⟨#[]⟩, .int .i64 0] 24) = W0 at *
  have hdr : Below W0.heap.size W0 W0.drew := (Below.refl _ W0).drew
  have hsd : W0.drew.heap.size = w.heap.size + 2 := hWs
  have dO := dF W0.drew (hv0.below hdr)
  rw [hsd] at dO
  clear dF
  have bMd := bM.below hdr
  have bRd := bR.below hdr
  have hWd := hW0.drew
  have i0 := bMd.cell (i := 0) rfl
  have i1 := bMd.cell (i := 1) rfl
  have i2 := bMd.cell (i := 2) rfl
  have i3 := bMd.cell (i := 3) rfl
  have i4 := bMd.cell (i := 4) rfl
  have hWdh := Lib.hid hWd
  have hsdh := Lib.hid hsd
  clear hdr hv0 bM bR hW0 hWs hrA hv hWd hsd
  go_region_held3 (fun w' => w'.cell? ⟨w.heap.size, 0, none⟩ = some (.string m) ∧ w'.cell? ⟨w.heap.size, 1, none⟩ = some (.string t) ∧ w'.cell? ⟨w.heap.size, 2, none⟩ = some (.slice A xs.length c) ∧ w'.cell? ⟨w.heap.size, 3, none⟩ = some (.string b) ∧ w'.cell? ⟨w.heap.size, 4, none⟩ = some (.int .i64 k))
    (first
      | with_reducible exact ⟨i0, i1, i2, i3, i4⟩
      | with_reducible exact ⟨d0, d1, d2, d3, d4⟩
      | go_keep)
    (first
      | (go_at_call 6; first
          | ((with_reducible refine (h1 _).mono ?_); rintro e w1' ⟨rfl, rfl⟩)
          | ((with_reducible refine (h2 _).mono ?_); rintro e w1' ⟨rfl, rfl⟩)
          | ((with_reducible refine (h3 _).mono ?_); rintro e w1' ⟨rfl, rfl⟩))
      | (go_at_call 13; (with_reducible refine dO.mono ?_); rintro e w3 ⟨u3, rfl, ho3, hb3⟩
         obtain ⟨A3, c3, rfl⟩ := row_slice ho3
         have hb3' : Below W0.drew.heap.size W0.drew w3 := by rw [hsdh.out]; exact hb3
         have bM3 := bMd.below hb3'
         have bR3 := bRd.below hb3'
         have t3 := hWdh.out.trans (hb3.mono (by omega))
         have d0 := bM3.cell (i := 0) rfl
         have d1 := bM3.cell (i := 1) rfl
         have d2 := bM3.cell (i := 2) rfl
         have d3 := bM3.cell (i := 3) rfl
         have d4 := bM3.cell (i := 4) rfl
         have r0 := bR3.cell (i := 0) rfl
         have r1 := bR3.cell (i := 1) rfl
         have r2 := bR3.cell (i := 2) rfl
         have r3 := bR3.cell (i := 3) rfl
         have r4 := bR3.cell (i := 4) rfl
         have f0 := bR3.free (i := 0)
         have f1 := bR3.free (i := 1)
         have f2 := bR3.free (i := 2)
         have f3 := bR3.free (i := 3)
         have f4 := bR3.free (i := 4)))
  all_goals
    have hq : w.heap.size + 1 < w.heap.size + 2 := by omega
    have ho4 := put5_own ho3 hq (.string m') (.string t') (.slice A3 F.length c3) (.string b') (.int .i64 k)
    have hbF := put5_below t3 (Nat.le_succ _) (.string m') (.string t') (.slice A3 F.length c3) (.string b') (.int .i64 k)
    have bF := put5_blk bR3 (.string m') (.string t') (.slice A3 F.length c3) (.string b') (.int .i64 k)
    clear d0 d1 d2 d3 d4 r0 r1 r2 r3 r4 f0 f1 f2 f3 f4 bM3 bR3
    generalize (((((w3.setCell ⟨w.heap.size + 1, 0, none⟩ (.string m')).setCell ⟨w.heap.size + 1, 1, none⟩ (.string t')).setCell ⟨w.heap.size + 1, 2, none⟩ (.slice A3 F.length c3)).setCell ⟨w.heap.size + 1, 3, none⟩ (.string b')).setCell ⟨w.heap.size + 1, 4, none⟩ (.int .i64 k)) = WF at *
    have g0 := bF.cell (i := 0) rfl
    have g1 := bF.cell (i := 1) rfl
    have g2 := bF.cell (i := 2) rfl
    have g3 := bF.cell (i := 3) rfl
    have g4 := bF.cell (i := 4) rfl
    go_wp2
    refine bodyPost_ret (v := .agg #[.string m', .string t', .slice A3 F.length c3, .string b', .int .i64 k]) ?_ rfl ⟨_, rfl, own_lower ho4 (by omega), hbF⟩
    rw [results_cell rfl]; go_simp
set_option maxRecDepth 100000 in
set_option maxHeartbeats 4000000 in
theorem is10_any (m t b : ByteArray) (k : Int) (L : List Fld) (va vb : Value) (w : World) (ha : Flds w va L) (hb : Flds w vb L) (hN : L.length ≤ 140737488355328) :
    Calls Tryz.prog 7 #[.agg #[.string m, .string t, va, .string b, .int .i64 k], .agg #[.string m, .string t, vb, .string b, .int .i64 k]] w fun e w' => e = .returned (.bool true) ∧ Below w.heap.size w w' := by
  have e1 : (m.toList == m.toList) = true := by rw [str_eq, decide_eq_true rfl]
  have e2 : (t.toList == t.toList) = true := by rw [str_eq, decide_eq_true rfl]
  have e3 : (b.toList == b.toList) = true := by rw [str_eq, decide_eq_true rfl]
  obtain ⟨A, ca, rfl, _, _⟩ := id ha
  obtain ⟨B, cb, rfl, _, _⟩ := id hb
  have hW0 : Below w.heap.size w ((w.alloc (.cells #[.string m, .string t, .slice A L.length ca, .string b, .int .i64 k] 34)).alloc (.cells #[.string m, .string t, .slice B L.length cb, .string b, .int .i64 k] 24)) := ((Below.refl _ w).alloc (Nat.le_refl _) _).alloc (by simp) _
  have dI := isL_any L L _ _ _ (ha.below hW0) (hb.below hW0) hN
  rw [decide_eq_true rfl] at dI
  clear ha hb
  go_enter Tryz.func7, Tryz.ntmps7
  go_wp2_with (go_at_call 14; (with_reducible refine dI.mono ?_); rintro e w3 ⟨rfl, hb3⟩)
  go_ret
  exact ⟨rfl, hW0.trans (hb3.mono hW0.size)⟩
end Go.Proofs.YthedoophopilgaaGreatDoor.Rw
